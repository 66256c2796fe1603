import Derived.Test.YgctagFftX
namespace Go.Proofs.Ygctag
open Go.RowKit

def cpv (z : Cb) : Value := .complex .f64 z.1 z.2

theorem mul61 {x y : Cb} {E F : Nat} (hx : Gd E x) (hy : Gd F y) (h : E + F ≤ 900) (w : World) :
    Calls Tagg.prog 61 #[.complex .f64 x.1 x.2, .complex .f64 y.1 y.2] w fun e w' => e = .returned (.complex .f64 (cmulB x y).1 (cmulB x y).2) ∧ w' = w := by
  obtain ⟨h1, h2, h3, h4, h5, h6, -, -⟩ := cmulB_ok hx hy h
  have r1 := fun w t => run_float_arith (P := Tagg.prog) w .mul t .f64 _ _ _ h1
  have r2 := fun w t => run_float_arith (P := Tagg.prog) w .mul t .f64 _ _ _ h2
  have r3 := fun w t => run_float_arith (P := Tagg.prog) w .mul t .f64 _ _ _ h3
  have r4 := fun w t => run_float_arith (P := Tagg.prog) w .mul t .f64 _ _ _ h4
  have r5 := fun w t => run_float_arith (P := Tagg.prog) w .sub t .f64 _ _ _ h5
  have r6 := fun w t => run_float_arith (P := Tagg.prog) w .add t .f64 _ _ _ h6
  clear h1 h2 h3 h4 h5 h6 hx hy
  generalize fmul x.1 y.1 = a at *
  generalize fmul x.2 y.2 = b at *
  generalize fmul x.1 y.2 = c at *
  generalize fmul x.2 y.1 = d at *
  generalize (cmulB x y).1 = p at *
  generalize (cmulB x y).2 = q at *
  go_enter Tagg.func61, Tagg.ntmps61
  go_wp2
  go_ret
  exact ⟨rfl, rfl⟩

theorem run_neg_float {P : Program} (w : World) (k : FloatKind) (b : Nat) : (Op.unary .neg (.float k b)).run P w = .ok (.float k (Op.negFloat k b)) w := rfl
attribute [local go_sem] run_neg_float
theorem conj63 (a b : Nat) (w : World) : Calls Tagg.prog 63 #[.complex .f64 a b] w fun e w' => e = .returned (.complex .f64 a (Op.negFloat .f64 b)) ∧ w' = w := by
  go_enter Tagg.func63, Tagg.ntmps63
  go_wp2
  go_ret
  exact ⟨rfl, rfl⟩

theorem base71 (t : Nat) (h2 : t ≤ 11) (w : World) : Calls Tagg.prog 71 #[.int .u8 (t : Int)] w fun e w' => e = .returned (.complex .f64 (baseB t).1 (baseB t).2) ∧ w' = w := by
  have ht : t = 0 ∨ t = 1 ∨ t = 2 ∨ t = 3 ∨ t = 4 ∨ t = 5 ∨ t = 6 ∨ t = 7 ∨ t = 8 ∨ t = 9 ∨ t = 10 ∨ t = 11 := by omega
  rcases ht with rfl | rfl | rfl | rfl | rfl | rfl | rfl | rfl | rfl | rfl | rfl | rfl
  all_goals
    go_enter Tagg.func71, Tagg.ntmps71
    go_wp2
    go_ret
    exact ⟨rfl, rfl⟩

theorem level99 (k : Nat) (hk : k ≤ 11) (n : Nat) (hn : n = 2 ^ k) (w : World) : Calls Tagg.prog 99 #[.int .i64 (n : Int)] w fun e w' => e = .returned (.int .i64 (k : Int)) ∧ w' = w := by
  have hle : 2 ^ k ≤ 2 ^ 11 := Nat.pow_le_pow_right (by decide) hk
  have hnH : Hid (n = 2 ^ k) := hn
  have hn2 : n ≤ 2048 := by omega
  clear hn hle
  go_enter Tagg.func99, Tagg.ntmps99
  go_wp2_with fail
  go_loopw [3] (fun v wr => ∃ j : Nat, j ≤ k ∧ v = .int .i64 (j : Int) ∧ wr = w) (fun v _ => k - (intOf v).toNat)
  case atStart => exact ⟨0, by omega, rfl, rfl⟩
  case round =>
    obtain ⟨j, hj, rfl, rfl⟩ := hrel
    obtain ⟨Z, hZ⟩ : ∃ Z, Z = 2 ^ j := ⟨_, rfl⟩
    have hZle : Z ≤ 2048 := by rw [hZ]; exact Nat.le_trans (Nat.pow_le_pow_right (by decide) (show j ≤ 11 by omega)) (by decide)
    have e1 : (2 : Int) ^ j = (Z : Int) := by rw [hZ, Int.natCast_pow]; rfl
    have v5 : IntKind.i64.wrap (Z : Int) = (Z : Int) := IntWalk.i64_in _ ⟨by omega, by omega⟩
    have k1 : (j : Int) ≤ 64 := by omega
    have k2 : (j : Int) ≤ 11 := by omega
    by_cases hjk : j = k
    · subst hjk
      have e2 : ((n : Int) == (Z : Int)) = true := by simp; rw [hZ, hnH.out]
      clear hZ
      go_wp2
      go_ret
      exact ⟨rfl, rfl⟩
    · have hlt : Z < n := by rw [hZ, hnH.out]; exact Nat.pow_lt_pow_right (by decide) (by omega)
      have e2 : ((n : Int) == (Z : Int)) = false := by simp; omega
      clear hZ
      go_wp2
      exact ⟨⟨j + 1, by omega, by go_num, trivial⟩, by simp [intOf]; omega⟩

theorem fits98 (k : Nat) (hk1 : 1 ≤ k) (hk : k ≤ 11) (n h : Nat) (hn : n = 2 ^ k) (hh : n = 2 * h) (w : World) : Calls Tagg.prog 98 #[.int .i64 (n : Int), .int .i64 (h : Int)] w fun e w' => e = .returned (.bool true) ∧ w' = w := by
  have hL := level99 k hk n hn
  have hle : 2 ^ k ≤ 2 ^ 11 := Nat.pow_le_pow_right (by decide) hk
  have e1 : 2 * (h : Int) = (n : Int) := by omega
  have e2 : ((n : Int) == (n : Int)) = true := by simp
  have i1 : (1 : Int) ≤ k := by omega
  have v1 : IntKind.i64.wrap (n : Int) = (n : Int) := IntWalk.i64_in _ ⟨by omega, by omega⟩
  clear hn hle hh
  go_enter Tagg.func98, Tagg.ntmps98
  go_wp2_with fail
  with_reducible refine (hL _).mono ?_
  rintro e w1 ⟨rfl, rfl⟩
  go_wp2
  go_ret
  exact ⟨rfl, rfl⟩
end Go.Proofs.Ygctag
