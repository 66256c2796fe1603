import Derived.Test.YgctagBase
namespace Go.Proofs.Ygctag

/-- The place value of word i. -/
def P64 (i : Nat) : Int := ((2 ^ (64 * i) : Nat) : Int)
/-- Word i of the two's complement of the integer V. -/
def dgZ (V : Int) (i : Nat) : Int := V / P64 i % 18446744073709551616

theorem P64_zero : P64 0 = 1 := rfl
theorem P64_pos (i : Nat) : 0 < P64 i := by unfold P64; exact_mod_cast Nat.two_pow_pos _
theorem P64_succ (i : Nat) : P64 (i + 1) = P64 i * 18446744073709551616 := by
  unfold P64
  rw [Nat.mul_add, Nat.pow_add, Int.natCast_mul]
  rfl
theorem div_succ (V : Int) (i : Nat) : V / P64 (i + 1) = V / P64 i / 18446744073709551616 := by
  rw [P64_succ, Int.ediv_ediv_of_nonneg (Int.le_of_lt (P64_pos i))]
theorem dgZ_nonneg (V : Int) (i : Nat) : 0 ≤ dgZ V i := by unfold dgZ; omega
theorem dgZ_lt (V : Int) (i : Nat) : dgZ V i < 18446744073709551616 := by unfold dgZ; omega

/-- The carry into word i of V + W. -/
def carryZ (V W : Int) (i : Nat) : Int := (V + W) / P64 i - V / P64 i - W / P64 i
/-- The borrow into word i of V - W. -/
def borrowZ (V W : Int) (i : Nat) : Int := V / P64 i - W / P64 i - (V - W) / P64 i

theorem div_add_bound (V W p : Int) (hp : 0 < p) : 0 ≤ (V + W) / p - V / p - W / p ∧ (V + W) / p - V / p - W / p ≤ 1 := by
  have h1 := Int.mul_ediv_add_emod V p
  have h2 := Int.mul_ediv_add_emod W p
  have b1 := Int.emod_nonneg V (Int.ne_of_gt hp)
  have b2 := Int.emod_nonneg W (Int.ne_of_gt hp)
  have c1 := Int.emod_lt_of_pos V hp
  have c2 := Int.emod_lt_of_pos W hp
  have e : V + W = (V % p + W % p) + p * (V / p + W / p) := by rw [Int.mul_add]; omega
  rw [e, Int.add_mul_ediv_left _ _ (Int.ne_of_gt hp)]
  have l1 : 0 ≤ (V % p + W % p) / p := Int.ediv_nonneg (by omega) (by omega)
  have l2 : (V % p + W % p) / p < 2 := Int.ediv_lt_of_lt_mul hp (by omega)
  omega

theorem carryZ_bound (V W : Int) (i : Nat) : 0 ≤ carryZ V W i ∧ carryZ V W i ≤ 1 := div_add_bound V W _ (P64_pos i)
theorem borrowZ_bound (V W : Int) (i : Nat) : 0 ≤ borrowZ V W i ∧ borrowZ V W i ≤ 1 := by
  have h := div_add_bound (V - W) W _ (P64_pos i)
  rw [Int.sub_add_cancel] at h
  unfold borrowZ
  omega
theorem carryZ_zero (V W : Int) : carryZ V W 0 = 0 := by unfold carryZ; rw [P64_zero]; simp only [Int.ediv_one]; omega
theorem borrowZ_zero (V W : Int) : borrowZ V W 0 = 0 := by unfold borrowZ; rw [P64_zero]; simp only [Int.ediv_one]; omega

theorem add_word (V W : Int) (i : Nat) : dgZ (V + W) i = (dgZ V i + dgZ W i + carryZ V W i) % 18446744073709551616 ∧
    carryZ V W (i + 1) = (dgZ V i + dgZ W i + carryZ V W i) / 18446744073709551616 := by
  have e : (V + W) / P64 i = V / P64 i + W / P64 i + carryZ V W i := by unfold carryZ; omega
  constructor
  · unfold dgZ; rw [e]; omega
  · rw [carryZ, div_succ, div_succ, div_succ, e]
    unfold dgZ
    omega

theorem sub_word (V W : Int) (i : Nat) : dgZ (V - W) i = (dgZ V i - dgZ W i - borrowZ V W i) % 18446744073709551616 ∧
    borrowZ V W (i + 1) = if dgZ V i < dgZ W i + borrowZ V W i then 1 else 0 := by
  have hb := borrowZ_bound V W i
  have e : (V - W) / P64 i = V / P64 i - W / P64 i - borrowZ V W i := by unfold borrowZ; omega
  constructor
  · unfold dgZ; rw [e]; omega
  · rw [borrowZ, div_succ, div_succ, div_succ, e]
    unfold dgZ
    split <;> omega

/-- An addend that ends below word i. -/
theorem dgZ_small {X : Int} {i : Nat} (h0 : 0 ≤ X) (h : X < P64 i) {j : Nat} (hj : i ≤ j) : dgZ X j = 0 := by
  unfold dgZ
  have : P64 i ≤ P64 j := by unfold P64; exact_mod_cast Nat.pow_le_pow_right (by decide) (Nat.mul_le_mul_left 64 hj)
  rw [Int.ediv_eq_zero_of_lt h0 (by omega)]
  rfl

theorem add_done {V X : Int} {i : Nat} (h0 : 0 ≤ X) (h : X < P64 i) (hc : carryZ V X i = 0) (j : Nat) (hj : i ≤ j) : dgZ (V + X) j = dgZ V j ∧ carryZ V X j = 0 := by
  induction j with
  | zero =>
    have : i = 0 := by omega
    subst this
    refine ⟨?_, hc⟩
    have e := add_word V X 0
    rw [hc, dgZ_small h0 h (Nat.le_refl _)] at e
    rw [e.1]; have := dgZ_nonneg V 0; have := dgZ_lt V 0; omega
  | succ j ih =>
    have hcj : carryZ V X (j + 1) = 0 := by
      by_cases hij : i = j + 1
      · rw [← hij]; exact hc
      · have e := (add_word V X j).2
        have z := dgZ_small h0 h (show i ≤ j by omega)
        rw [(ih (by omega)).2, z] at e
        rw [e]
        have := dgZ_nonneg V j; have := dgZ_lt V j; omega
    have e := (add_word V X (j + 1)).1
    rw [hcj, dgZ_small h0 h hj] at e
    refine ⟨?_, hcj⟩
    rw [e]; have := dgZ_nonneg V (j + 1); have := dgZ_lt V (j + 1); omega

theorem sub_done {V X : Int} {i : Nat} (h0 : 0 ≤ X) (h : X < P64 i) (hc : borrowZ V X i = 0) (j : Nat) (hj : i ≤ j) : dgZ (V - X) j = dgZ V j ∧ borrowZ V X j = 0 := by
  have key : ∀ j, i ≤ j → borrowZ V X j = 0 := by
    intro j hj
    induction j with
    | zero => have : i = 0 := by omega
              subst this; exact hc
    | succ j ih =>
      by_cases hij : i = j + 1
      · rw [← hij]; exact hc
      · have e := (sub_word V X j).2
        have z := dgZ_small h0 h (show i ≤ j by omega)
        rw [ih (by omega), z, if_neg (by have := dgZ_nonneg V j; omega)] at e
        exact e
  have e := (sub_word V X j).1
  rw [key j hj, dgZ_small h0 h hj] at e
  refine ⟨?_, key j hj⟩
  rw [e]; have := dgZ_nonneg V j; have := dgZ_lt V j; omega

/-- An addend that begins at word i: nothing below. -/
theorem low_words (V X : Int) (i j : Nat) (h : j ≤ i) : (V + X * P64 i) / P64 j = V / P64 j + X * P64 (i - j) := by
  have e : P64 i = P64 (i - j) * P64 j := by
    unfold P64
    rw [← Int.natCast_mul, ← Nat.pow_add]
    congr 2; omega
  rw [e, ← Int.mul_assoc, Int.add_mul_ediv_right _ _ (Int.ne_of_gt (P64_pos j))]

theorem P64_dvd {k : Nat} (h : 0 < k) : ∃ q, P64 k = 18446744073709551616 * q := by
  obtain ⟨m, rfl⟩ : ∃ m, k = m + 1 := ⟨k - 1, by omega⟩
  exact ⟨P64 m, by rw [P64_succ, Int.mul_comm]⟩

theorem dgZ_low (V X : Int) {i j : Nat} (h : j < i) : dgZ (V + X * P64 i) j = dgZ V j := by
  unfold dgZ
  rw [low_words V X i j (by omega)]
  obtain ⟨q, hq⟩ := P64_dvd (show 0 < i - j by omega)
  rw [hq, Int.mul_left_comm, Int.add_mul_emod_self_left]

theorem carry_at (V X : Int) (i : Nat) : carryZ V (X * P64 i) i = 0 := by
  unfold carryZ
  rw [low_words V X i i (Nat.le_refl _), Nat.sub_self, P64_zero, Int.mul_ediv_cancel _ (Int.ne_of_gt (P64_pos i))]
  omega

theorem borrow_at (V X : Int) (i : Nat) : borrowZ V (X * P64 i) i = 0 := by
  unfold borrowZ
  rw [show V - X * P64 i = V + (-X) * P64 i by rw [Int.neg_mul]; omega, low_words V _ i i (Nat.le_refl _), Nat.sub_self, P64_zero, Int.mul_ediv_cancel _ (Int.ne_of_gt (P64_pos i))]
  omega

/-- The words of X * 2^(64 w), X in two words. -/
theorem placed (p q : Int) (hp : 0 ≤ p) (hp2 : p < 18446744073709551616) (hq : 0 ≤ q) (hq2 : q < 18446744073709551616) (w : Nat) :
    dgZ ((p + q * 18446744073709551616) * P64 w) w = p ∧ dgZ ((p + q * 18446744073709551616) * P64 w) (w + 1) = q ∧
    0 ≤ (p + q * 18446744073709551616) * P64 w ∧ (p + q * 18446744073709551616) * P64 w < P64 (w + 2) := by
  have hw := P64_pos w
  refine ⟨?_, ?_, Int.mul_nonneg (by omega) (Int.le_of_lt hw), ?_⟩
  · unfold dgZ
    rw [Int.mul_ediv_cancel _ (Int.ne_of_gt hw)]
    omega
  · unfold dgZ
    rw [div_succ, Int.mul_ediv_cancel _ (Int.ne_of_gt hw)]
    omega
  · rw [P64_succ, P64_succ, Int.mul_assoc, Int.mul_comm (P64 w)]
    exact Int.mul_lt_mul_of_pos_right (by omega) hw

/-! ### Shifting -/
theorem P64_split (m d : Nat) : P64 (m + d) = P64 m * P64 d := by
  unfold P64
  rw [← Int.natCast_mul, ← Nat.pow_add]
  congr 2; omega

/-- V * 2^(64 words + low). -/
def shlZ (V : Int) (words low : Nat) : Int := V * ((2 ^ low : Nat) : Int) * P64 words

theorem shl_below (V : Int) (words low i : Nat) (h : i < words) : dgZ (shlZ V words low) i = 0 := by
  have := dgZ_low 0 (V * ((2 ^ low : Nat) : Int)) h
  rw [Int.zero_add] at this
  unfold shlZ
  rw [this]
  unfold dgZ
  simp

theorem shl_div (V : Int) (words low m : Nat) : shlZ V words low / P64 (m + words) = V * ((2 ^ low : Nat) : Int) / P64 m := by
  unfold shlZ
  rw [P64_split, Int.mul_ediv_mul_of_pos_left _ _ (P64_pos words)]

theorem mulmod (V L : Int) : V * L % 18446744073709551616 = V % 18446744073709551616 * L % 18446744073709551616 := by
  have h := Int.emod_add_mul_ediv V 18446744073709551616
  have e : V * L = V % 18446744073709551616 * L + 18446744073709551616 * (V / 18446744073709551616 * L) := by
    rw [← Int.mul_assoc, ← Int.add_mul, h]
  rw [e, Int.add_mul_emod_self_left]

theorem shl_at (V : Int) (words low : Nat) : dgZ (shlZ V words low) words = dgZ V 0 * ((2 ^ low : Nat) : Int) % 18446744073709551616 := by
  unfold dgZ
  have := shl_div V words low 0
  rw [Nat.zero_add] at this
  rw [this, P64_zero, Int.ediv_one, Int.ediv_one]
  exact mulmod V _

theorem two_split (low : Nat) (hl : low < 64) : (18446744073709551616 : Int) = ((2 ^ (64 - low) : Nat) : Int) * ((2 ^ low : Nat) : Int) := by
  rw [← Int.natCast_mul, ← Nat.pow_add, show 64 - low + low = 64 by omega]
  rfl

theorem shl_above (V : Int) (words low m : Nat) (hl : low < 64) :
    dgZ (shlZ V words low) (m + 1 + words) = dgZ V (m + 1) * ((2 ^ low : Nat) : Int) % 18446744073709551616 + dgZ V m / ((2 ^ (64 - low) : Nat) : Int) ∧
    0 ≤ dgZ V m / ((2 ^ (64 - low) : Nat) : Int) ∧ dgZ V m / ((2 ^ (64 - low) : Nat) : Int) < ((2 ^ low : Nat) : Int) := by
  have hB := two_split low hl
  have hd := shl_div V words low (m + 1)
  have hl0 : (0 : Int) < ((2 ^ low : Nat) : Int) := by exact_mod_cast Nat.two_pow_pos _
  have hh0 : (0 : Int) < ((2 ^ (64 - low) : Nat) : Int) := by exact_mod_cast Nat.two_pow_pos _
  generalize ((2 ^ low : Nat) : Int) = L at *
  generalize ((2 ^ (64 - low) : Nat) : Int) = H at *
  have e1 : V * L / P64 (m + 1) = V / P64 m / H := by
    rw [P64_succ, hB, ← Int.mul_assoc, Int.mul_ediv_mul_of_pos_left _ _ hl0, Int.ediv_ediv_of_nonneg (Int.le_of_lt (P64_pos m))]
  have e2 : V / P64 (m + 1) = V / P64 m / 18446744073709551616 := div_succ V m
  have d0 : 0 ≤ dgZ V m := dgZ_nonneg V m
  have d1 : dgZ V m < 18446744073709551616 := dgZ_lt V m
  have ex : V / P64 m = dgZ V m + H * (L * (V / P64 (m + 1))) := by
    have := Int.emod_add_mul_ediv (V / P64 m) 18446744073709551616
    rw [← Int.mul_assoc, ← hB, e2]
    exact this.symm
  have e3 : V / P64 m / H = dgZ V m / H + L * (V / P64 (m + 1)) := by
    rw [ex, Int.add_mul_ediv_left _ _ (Int.ne_of_gt hh0)]
  have b0 : 0 ≤ dgZ V m / H := Int.ediv_nonneg d0 (Int.le_of_lt hh0)
  have b1 : dgZ V m / H < L := Int.ediv_lt_of_lt_mul hh0 (by rw [Int.mul_comm, ← hB]; exact d1)
  refine ⟨?_, b0, b1⟩
  have e4 : dgZ V (m + 1) * L % 18446744073709551616 = V / P64 (m + 1) * L % 18446744073709551616 := (mulmod _ L).symm
  have e5 : dgZ (shlZ V words low) (m + 1 + words) = V / P64 m / H % 18446744073709551616 := by
    rw [← e1, ← hd]
    rfl
  rw [e4, e5, e3, hB, Int.mul_comm (V / P64 (m + 1)) L, Int.mul_comm H L, Int.mul_emod_mul_of_pos _ _ hl0, Int.mul_comm L (_ % H), Int.mul_comm L H]
  have m0 := Int.emod_nonneg (V / P64 (m + 1)) (Int.ne_of_gt hh0)
  have m1 := Int.emod_lt_of_pos (V / P64 (m + 1)) hh0
  have e6 : L * (V / P64 (m + 1)) = V / P64 (m + 1) % H * L + H * L * (V / P64 (m + 1) / H) := by
    have h := Int.emod_add_mul_ediv (V / P64 (m + 1)) H
    calc L * (V / P64 (m + 1)) = L * (V / P64 (m + 1) % H + H * (V / P64 (m + 1) / H)) := by rw [h]
      _ = _ := by rw [Int.mul_add, Int.mul_comm L (_ % H), ← Int.mul_assoc, Int.mul_comm L H]
  rw [e6, ← Int.add_assoc, Int.add_mul_emod_self_left, Int.emod_eq_of_lt]
  · omega
  · have : 0 ≤ V / P64 (m + 1) % H * L := Int.mul_nonneg m0 (Int.le_of_lt hl0)
    omega
  · have : V / P64 (m + 1) % H * L ≤ (H - 1) * L := Int.mul_le_mul_of_nonneg_right (by omega) (Int.le_of_lt hl0)
    rw [Int.sub_mul] at this
    omega

/-! ### The sign -/
theorem dgZ_top_neg (V : Int) (h1 : V < 0) (h2 : -P64 67 * 9223372036854775808 ≤ V) : 9223372036854775808 ≤ dgZ V 67 := by
  have hp := P64_pos 67
  have l1 : V / P64 67 < 0 := Int.ediv_neg_of_neg_of_pos h1 hp
  have l2 : -9223372036854775808 ≤ V / P64 67 := Int.le_ediv_of_mul_le hp (by rw [Int.neg_mul] at h2; rw [Int.neg_mul, Int.mul_comm]; exact h2)
  unfold dgZ
  omega

theorem dgZ_top_nonneg (V : Int) (h1 : 0 ≤ V) (h2 : V < P64 67 * 9223372036854775808) : dgZ V 67 < 9223372036854775808 := by
  have hp := P64_pos 67
  have l1 : 0 ≤ V / P64 67 := Int.ediv_nonneg h1 (Int.le_of_lt hp)
  have l2 : V / P64 67 < 9223372036854775808 := Int.ediv_lt_of_lt_mul hp (by rw [Int.mul_comm]; exact h2)
  unfold dgZ
  omega
end Go.Proofs.Ygctag
