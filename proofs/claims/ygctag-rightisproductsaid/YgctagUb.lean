import Derived.Test.YgctagBase
namespace Go.Proofs.Ygctag

/-- The place value of digit i. -/
def P16 (i : Nat) : Int := ((65536 ^ i : Nat) : Int)
/-- Digit i of the integer V. -/
def dg16 (V : Int) (i : Nat) : Int := V / P16 i % 65536
theorem P16_zero : P16 0 = 1 := rfl
theorem P16_pos (i : Nat) : 0 < P16 i := by unfold P16; exact_mod_cast Nat.pow_pos (by decide)
theorem P16_succ (i : Nat) : P16 (i + 1) = P16 i * 65536 := by
  unfold P16
  rw [Nat.pow_succ, Int.natCast_mul]
  rfl
theorem div16_succ (V : Int) (i : Nat) : V / P16 (i + 1) = V / P16 i / 65536 := by
  rw [P16_succ, Int.ediv_ediv_of_nonneg (Int.le_of_lt (P16_pos i))]
theorem dg16_bound (V : Int) (i : Nat) : 0 ≤ dg16 V i ∧ dg16 V i < 65536 := by unfold dg16; omega

/-- The sum of the first n entries, entries from len on taken for 0. -/
def ubN (c : Nat → Int) (len : Nat) : Nat → Int
  | 0 => 0
  | n + 1 => ubN c len n + (if n < len then c n else 0) * P16 n

theorem ubN_step (c : Nat → Int) (len i : Nat) : ubN c len (i + 1) / P16 i = ubN c len i / P16 i + (if i < len then c i else 0) := by
  show (ubN c len i + (if i < len then c i else 0) * P16 i) / P16 i = _
  rw [Int.add_mul_ediv_right _ _ (Int.ne_of_gt (P16_pos i))]

theorem ubN_after (c : Nat → Int) (len : Nat) {i : Nat} (h : len ≤ i) : ubN c len i = ubN c len len := by
  induction i with
  | zero => have : len = 0 := by omega
            subst this; rfl
  | succ i ih =>
    by_cases e : len = i + 1
    · rw [e]
    · show ubN c len i + (if i < len then c i else 0) * P16 i = _
      rw [if_neg (by omega), Int.zero_mul, Int.add_zero, ih (by omega)]

theorem ubN_bound (c : Nat → Int) (len : Nat) (hc : ∀ i, i < len → -70368744177664 < c i ∧ c i < 70368744177664) (i : Nat) : -70368744177664 ≤ ubN c len i / P16 i ∧ ubN c len i / P16 i ≤ 70368744177664 := by
  induction i with
  | zero => show _ ≤ (0 : Int) / P16 0 ∧ (0 : Int) / P16 0 ≤ _; rw [P16_zero]; decide
  | succ i ih =>
    rw [div16_succ, ubN_step]
    by_cases h : i < len
    · rw [if_pos h]; have := hc i h; omega
    · rw [if_neg h]; omega

theorem ubN_bound' (c : Nat → Int) (len i : Nat) (hc : ∀ j, j < i → j < len → -70368744177664 < c j ∧ c j < 70368744177664) : -70368744177664 ≤ ubN c len i / P16 i ∧ ubN c len i / P16 i ≤ 70368744177664 := by
  induction i with
  | zero => show _ ≤ (0 : Int) / P16 0 ∧ (0 : Int) / P16 0 ≤ _; rw [P16_zero]; decide
  | succ i ih =>
    rw [div16_succ, ubN_step]
    have ih := ih (fun j h1 h2 => hc j (by omega) h2)
    by_cases h : i < len
    · rw [if_pos h]; have := hc i (by omega) h; omega
    · rw [if_neg h]; omega

/-- Digit i is fixed once i + 1 entries are in. -/
theorem ubN_digit (c : Nat → Int) (len i m : Nat) (h : i + 1 ≤ m) : dg16 (ubN c len m) i = dg16 (ubN c len (i + 1)) i := by
  induction m with
  | zero => omega
  | succ m ih =>
    by_cases e : m = i
    · subst e; rfl
    · rw [← ih (by omega)]
      show (ubN c len m + (if m < len then c m else 0) * P16 m) / P16 i % 65536 = _
      obtain ⟨d, rfl⟩ : ∃ d, m = i + (d + 1) := ⟨m - i - 1, by omega⟩
      have ep : P16 (i + (d + 1)) = 65536 * P16 d * P16 i := by
        unfold P16
        rw [Nat.pow_add, Nat.pow_succ, Int.natCast_mul, Int.natCast_mul]
        have : ((65536 : Nat) : Int) = 65536 := rfl
        rw [this, Int.mul_comm, Int.mul_comm ((65536 ^ d : Nat) : Int)]
      rw [ep, ← Int.mul_assoc, Int.add_mul_ediv_right _ _ (Int.ne_of_gt (P16_pos i)), ← Int.mul_assoc, Int.mul_comm _ 65536, Int.mul_assoc 65536, Int.add_mul_emod_self_left]
      rfl

/-- Trimming a zero digit. -/
theorem trim16 {T : Int} {n : Nat} (h0 : 0 ≤ T) (h : T < P16 (n + 1)) (hd : dg16 T n = 0) : T < P16 n := by
  have hp := P16_pos n
  rw [P16_succ] at h
  have l1 : T / P16 n < 65536 := Int.ediv_lt_of_lt_mul hp (by rw [Int.mul_comm]; exact h)
  have l0 : 0 ≤ T / P16 n := Int.ediv_nonneg h0 (Int.le_of_lt hp)
  unfold dg16 at hd
  have e : T / P16 n = 0 := by omega
  have h1 := Int.emod_add_mul_ediv T (P16 n)
  rw [e, Int.mul_zero, Int.add_zero] at h1
  rw [← h1]
  exact Int.emod_lt_of_pos _ hp

/-- A number is the sum of its digits. -/
def sum16 (d : Nat → Int) : Nat → Int
  | 0 => 0
  | n + 1 => sum16 d n + d n * P16 n

theorem sum16_digits (T : Int) (n : Nat) : sum16 (dg16 T) n = T % P16 n := by
  induction n with
  | zero => show (0 : Int) = T % P16 0; rw [P16_zero]; omega
  | succ n ih =>
    show sum16 (dg16 T) n + dg16 T n * P16 n = _
    rw [ih, P16_succ]
    unfold dg16
    have h1 := Int.emod_add_mul_ediv T (P16 n)
    have h2 := Int.emod_add_mul_ediv (T / P16 n) 65536
    have hp := P16_pos n
    generalize hq : T / P16 n = q at *
    generalize hr : T % P16 n = r at *
    have r0 : 0 ≤ r := by rw [← hr]; exact Int.emod_nonneg _ (Int.ne_of_gt hp)
    have r1 : r < P16 n := by rw [← hr]; exact Int.emod_lt_of_pos _ hp
    have e : T = (r + q % 65536 * P16 n) + P16 n * 65536 * (q / 65536) := by
      rw [Int.mul_assoc, Int.mul_comm (q % 65536), Int.add_assoc, ← Int.mul_add, h2]
      exact h1.symm
    have b : r + q % 65536 * P16 n < P16 n * 65536 := by
      have : q % 65536 * P16 n ≤ 65535 * P16 n := Int.mul_le_mul_of_nonneg_right (by omega) (Int.le_of_lt hp)
      omega
    have b0 : 0 ≤ r + q % 65536 * P16 n := by
      have : 0 ≤ q % 65536 * P16 n := Int.mul_nonneg (by omega) (Int.le_of_lt hp)
      omega
    conv => rhs; rw [e]
    rw [Int.add_mul_emod_self_left, Int.emod_eq_of_lt b0 b]

theorem sum16_all {T : Int} {n : Nat} (h0 : 0 ≤ T) (h : T < P16 n) : sum16 (dg16 T) n = T := by
  rw [sum16_digits, Int.emod_eq_of_lt h0 h]

theorem div_neg_iff {T p : Int} (hp : 0 < p) : T / p < 0 ↔ T < 0 := by
  constructor
  · intro h
    by_cases h0 : 0 ≤ T
    · have := Int.ediv_nonneg h0 (Int.le_of_lt hp); omega
    · omega
  · intro h; exact Int.ediv_neg_of_neg_of_pos h hp

theorem lt_of_div_zero {T p : Int} (hp : 0 < p) (h : T / p = 0) : T < p := by
  have h1 := Int.emod_add_mul_ediv T p
  rw [h, Int.mul_zero, Int.add_zero] at h1
  rw [← h1]
  exact Int.emod_lt_of_pos _ hp

/-- Three digits more than entries hold the number. -/
theorem ub_room (c : Nat → Int) (len : Nat) (hc : ∀ i, i < len → -70368744177664 < c i ∧ c i < 70368744177664) (h0 : 0 ≤ ubN c len len) : ubN c len len / P16 (len + 3) = 0 := by
  have h := ubN_bound c len hc len
  rw [show len + 3 = len + 1 + 1 + 1 by omega, div16_succ, div16_succ, div16_succ]
  have : 0 ≤ ubN c len len / P16 len := Int.ediv_nonneg h0 (Int.le_of_lt (P16_pos len))
  omega
end Go.Proofs.Ygctag
