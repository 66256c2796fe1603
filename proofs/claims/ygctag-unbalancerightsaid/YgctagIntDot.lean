import Derived.Test.YgctagIntF
import Derived.Test.YgctagMatMul
namespace Go.Proofs.Ygctag

theorem absF_fz (s : Bool) (V : Nat) (h : V < 2 ^ 53) : absF (fz s V) = some (fz s V) := by
  apply absF_some
  obtain ⟨k, hk⟩ := read_fz s V h
  unfold nanB
  rw [hk]
  rfl

theorem sv_fi (n : Int) : sv (decide (n < 0)) n.natAbs = n := by
  unfold sv
  by_cases h : n < 0
  · simp [h]; omega
  · simp [h]; omega

/-- The product of two whole numbers, its sign kept, and its integer. -/
theorem mul_fi (a b : Int) (ha : a.natAbs < 2 ^ 53) (hb : b.natAbs < 2 ^ 53) (h : a.natAbs * b.natAbs < 2 ^ 53) :
    ∃ s, fop .mul (some (fi a)) (some (fi b)) = some (fz s (a.natAbs * b.natAbs)) ∧ sv s (a.natAbs * b.natAbs) = a * b := by
  refine ⟨_, mul_fz _ _ _ _ ha hb h, ?_⟩
  unfold sv
  have ea : (a.natAbs : Int) = if a < 0 then -a else a := by split <;> omega
  have eb : (b.natAbs : Int) = if b < 0 then -b else b := by split <;> omega
  rw [Int.natCast_mul, ea, eb]
  by_cases h1 : a < 0 <;> by_cases h2 : b < 0 <;> simp [h1, h2, Int.neg_mul, Int.mul_neg]

/-- The sum of the products of integers. -/
def isum (a b : Nat → Int) : Nat → Int
  | 0 => 0
  | n + 1 => isum a b n + a n * b n

theorem add_fi (S : Int) (s : Bool) (P : Nat) (hS : S.natAbs < 2 ^ 53) (hP : P < 2 ^ 53) (h : (S + sv s P).natAbs < 2 ^ 53) :
    fop .add (some (fi S)) (some (fz s P)) = some (fi (S + sv s P)) := by
  show Ieee.double.add (fz (decide (S < 0)) S.natAbs) (fz s P) = _
  rw [add_fz _ _ _ _ hS hP (by rw [sv_fi]; exact h), sv_fi]
  unfold fi
  by_cases h0 : S + sv s P = 0
  · rw [if_pos h0]
    have : (decide (S < 0) && s) = decide (S + sv s P < 0) := by
      rw [h0]
      unfold sv at h0
      cases s
      · simp
      · simp at h0 ⊢; omega
    rw [this]
  · rw [if_neg h0]

theorem dot_int (a b : Nat → Int) (n : Nat) (hn : n ≤ 64) (ha : ∀ t, t < n → (a t).natAbs < 2 ^ 20) (hb : ∀ t, t < n → (b t).natAbs < 2 ^ 20) :
    dotF (fun t => absF (fi (a t))) (fun t => absF (fi (b t))) n = some (fi (isum a b n)) ∧ (isum a b n).natAbs ≤ n * 2 ^ 40 := by
  induction n with
  | zero => exact ⟨rfl, by simp [isum]⟩
  | succ n ih =>
    obtain ⟨i1, i2⟩ := ih (by omega) (fun t ht => ha t (by omega)) (fun t ht => hb t (by omega))
    have h1 := ha n (by omega)
    have h2 := hb n (by omega)
    have hp : (a n).natAbs * (b n).natAbs ≤ 2 ^ 20 * 2 ^ 20 := Nat.mul_le_mul (by omega) (by omega)
    obtain ⟨s, e1, e2⟩ := mul_fi (a n) (b n) (by omega) (by omega) (by omega)
    have hab : (a n * b n).natAbs = (a n).natAbs * (b n).natAbs := Int.natAbs_mul _ _
    have hsum : (isum a b n + a n * b n).natAbs ≤ (isum a b n).natAbs + (a n * b n).natAbs := Int.natAbs_add_le _ _
    refine ⟨?_, ?_⟩
    · show fop .add (dotF _ _ n) (fop .mul (absF (fi (a n))) (absF (fi (b n)))) = _
      have f1 : absF (fi (a n)) = some (fi (a n)) := absF_fz _ _ (by omega)
      have f2 : absF (fi (b n)) = some (fi (b n)) := absF_fz _ _ (by omega)
      rw [i1, f1, f2, e1, add_fi _ _ _ (by omega) (by omega) (by rw [e2]; omega), e2]
      rfl
    · show (isum a b n + a n * b n).natAbs ≤ _
      omega
end Go.Proofs.Ygctag
