import Derived.Test.YgctagConvQ
import Derived.Test.YgctagNatW
namespace Go.Proofs.Ygctag

/-! ### Digits in base 256 -/
def P8 (i : Nat) : Int := ((256 ^ i : Nat) : Int)
def dg8 (V : Int) (i : Nat) : Int := V / P8 i % 256
theorem P8_zero : P8 0 = 1 := rfl
theorem P8_pos (i : Nat) : 0 < P8 i := by unfold P8; exact_mod_cast Nat.pow_pos (by decide)
theorem P8_succ (i : Nat) : P8 (i + 1) = P8 i * 256 := by
  unfold P8
  rw [Nat.pow_succ, Int.natCast_mul]
  rfl
theorem P8_pow (i : Nat) : P8 i = 256 ^ i := by unfold P8; rw [Int.natCast_pow]; rfl
theorem div8_succ (V : Int) (i : Nat) : V / P8 (i + 1) = V / P8 i / 256 := by
  rw [P8_succ, Int.ediv_ediv_of_nonneg (Int.le_of_lt (P8_pos i))]
theorem dg8_bound (V : Int) (i : Nat) : 0 ≤ dg8 V i ∧ dg8 V i < 256 := by unfold dg8; omega
theorem P8_mono {i j : Nat} (h : i ≤ j) : P8 i ≤ P8 j := by unfold P8; exact_mod_cast Nat.pow_le_pow_right (by decide) h

/-- The value of digits. -/
def val (z : Nat → Int) (n : Nat) : Int := evl z 256 n
theorem val_succ (z : Nat → Int) (n : Nat) : val z (n + 1) = val z n + z n * P8 n := by rw [P8_pow]; rfl
def Bytes (z : Nat → Int) (n : Nat) : Prop := ∀ i, i < n → 0 ≤ z i ∧ z i ≤ 255

theorem val_bound {z : Nat → Int} {n : Nat} (h : Bytes z n) : 0 ≤ val z n ∧ val z n < P8 n := by
  induction n with
  | zero => exact ⟨Int.le_refl 0, by show (0 : Int) < P8 0; rw [P8_zero]; decide⟩
  | succ n ih =>
    obtain ⟨a, b⟩ := ih (fun i hi => h i (by omega))
    obtain ⟨c, d⟩ := h n (by omega)
    have hp := P8_pos n
    rw [val_succ, P8_succ]
    have h1 : 0 ≤ z n * P8 n := Int.mul_nonneg c (Int.le_of_lt hp)
    have h2 : z n * P8 n ≤ 255 * P8 n := Int.mul_le_mul_of_nonneg_right d (Int.le_of_lt hp)
    omega

/-- The digits of the value are the digits. -/
theorem val_digit {z : Nat → Int} {n : Nat} (h : Bytes z n) (i : Nat) (hi : i < n) : dg8 (val z n) i = z i := by
  induction n with
  | zero => omega
  | succ n ih =>
    have hb := val_bound (fun j (hj : j < n) => h j (by omega))
    have hz := h n (by omega)
    rw [val_succ]
    unfold dg8
    by_cases e : i = n
    · subst e
      rw [Int.add_mul_ediv_right _ _ (Int.ne_of_gt (P8_pos i)), Int.ediv_eq_zero_of_lt hb.1 hb.2]
      omega
    · have ep : P8 n = 256 * P8 (n - i - 1) * P8 i := by
        unfold P8
        rw [show n = (n - i - 1) + 1 + i by omega, Nat.pow_add, Nat.pow_succ, Int.natCast_mul, Int.natCast_mul, show n - i - 1 + 1 + i - i - 1 = n - i - 1 by omega, Int.mul_comm ((256 ^ (n - i - 1) : Nat) : Int)]
        rfl
      rw [ep, ← Int.mul_assoc, Int.add_mul_ediv_right _ _ (Int.ne_of_gt (P8_pos i)), ← Int.mul_assoc, Int.mul_comm (z n) 256, Int.mul_assoc 256, Int.add_mul_emod_self_left]
      exact ih (fun j hj => h j (by omega)) (by omega)

theorem val_trim (z : Nat → Int) (n : Nat) : val z (trimLen z n) = val z n := by
  induction n with
  | zero => rfl
  | succ n ih =>
    by_cases h : z n = 0
    · rw [trimLen_zero h, ih, val_succ, h, Int.zero_mul, Int.add_zero]
    · rw [trimLen_hit h]
theorem trim_top (z : Nat → Int) (n : Nat) (h : 0 < trimLen z n) : z (trimLen z n - 1) ≠ 0 := by
  induction n with
  | zero => exact absurd h (by simp [trimLen])
  | succ n ih =>
    by_cases hz : z n = 0
    · rw [trimLen_zero hz] at h ⊢; exact ih h
    · rw [trimLen_hit hz]; exact hz

/-- n is the number of digits of V. -/
def LenIs (V : Int) (n : Nat) : Prop := 0 ≤ V ∧ V < P8 n ∧ (0 < n → dg8 V (n - 1) ≠ 0)
theorem LenIs.uniq {V : Int} {n m : Nat} (h : LenIs V n) (g : LenIs V m) : n = m := by
  have key : ∀ {n m : Nat}, LenIs V n → LenIs V m → n ≤ m := by
    intro n m h g
    by_cases hn : n ≤ m
    · exact hn
    · exfalso
      apply h.2.2 (by omega)
      have hlt : V < P8 (n - 1) := Int.lt_of_lt_of_le g.2.1 (P8_mono (by omega))
      unfold dg8
      rw [Int.ediv_eq_zero_of_lt h.1 hlt]
      rfl
  exact Nat.le_antisymm (key h g) (key g h)
theorem lenIs_trim {z : Nat → Int} {n : Nat} (h : Bytes z n) : LenIs (val z n) (trimLen z n) := by
  have hle := trimLen_le z n
  have hb : Bytes z (trimLen z n) := fun i hi => h i (by omega)
  have hv := val_bound hb
  rw [val_trim] at hv
  refine ⟨hv.1, hv.2, fun h0 => ?_⟩
  rw [← val_trim, val_digit hb _ (by omega)]
  exact trim_top z n h0
theorem digit_trim {z : Nat → Int} {n : Nat} (h : Bytes z n) (i : Nat) (hi : i < trimLen z n) : dg8 (val z n) i = z i := val_digit h i (by have := trimLen_le z n; omega)
end Go.Proofs.Ygctag
