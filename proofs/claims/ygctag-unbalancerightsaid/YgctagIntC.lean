import Derived.Test.YgctagIntDot
namespace Go.Proofs.Ygctag

theorem cut_zero_exact (s : Bool) (m d : Nat) : Ieee.Toward.zero.cut s (m * 2 ^ d) d = m := by
  by_cases hm : m = 0
  · subst hm; rw [Nat.zero_mul]; unfold Ieee.Toward.cut; simp
  unfold Ieee.Toward.cut
  have hl := log2_mul_pow m d hm
  have hmin : min d ((m * 2 ^ d).log2 + 2) = d := by omega
  simp only [hmin, Nat.one_shiftLeft]
  rw [Nat.mul_div_cancel _ (Nat.two_pow_pos d)]
  simp

/-- int64(float64(n)) is n. -/
theorem int_fi (n : Int) (h : n.natAbs < 2 ^ 53) : floatToIntVal .f64 (fi n) .i64 = some n := by
  obtain ⟨k, hk⟩ := read_fz (decide (n < 0)) n.natAbs h
  have e : (FloatKind.f64.decode (fi n)).toInt .zero = some n := by
    show (Ieee.double.read (fz (decide (n < 0)) n.natAbs)).toInt .zero = some n
    rw [hk]
    show some (Ieee.signed (decide (n < 0)) (Ieee.Toward.zero.cut (decide (n < 0)) ((n.natAbs * 2 ^ k) <<< (-(k : Int)).toNat) (- -(k : Int)).toNat) 0) = some n
    rw [show (-(k : Int)).toNat = 0 by omega, show (- -(k : Int)).toNat = k by omega, Nat.shiftLeft_zero, cut_zero_exact]
    have := sv_fi n
    unfold sv at this
    unfold Ieee.signed
    rw [Nat.shiftLeft_zero]
    exact congrArg some this
  unfold floatToIntVal
  rw [e]
  have h1 : IntKind.i64.min = -9223372036854775808 := rfl
  have h2 : IntKind.i64.max = 9223372036854775807 := rfl
  dsimp only
  rw [h1, h2, if_pos (by omega)]

theorem order_fz (s : Bool) (V : Nat) (h : V < 2 ^ 53) : FloatKind.f64.format.order (fz s V) (fz s V) = some .eq := by
  obtain ⟨k, hk⟩ := read_fz s V h
  show (Ieee.double.read (fz s V)).order (Ieee.double.read (fz s V)) = some .eq
  rw [hk]
  show some (compare _ _) = some Ordering.eq
  congr 1
  exact Std.ReflCmp.compare_self
end Go.Proofs.Ygctag
