import Derived.Test.YgctagCwH
namespace Go.Proofs.Ygctag
open Go.RowKit
attribute [local go_sem] run_store_complex run_neg_float

/-- The digits, zero behind the last. -/
def aZ (A : Nat → Int) (la i : Nat) : Rat := if i < la then (A i : Rat) else 0
theorem aZ_ab (A : Nat → Int) (la : Nat) (hA : ∀ i, i < la → (A i).natAbs ≤ 32768) (i : Nat) : ab (aZ A la i) ≤ 32768 := by
  unfold aZ
  by_cases h : i < la
  · rw [if_pos h]
    have := hA i h
    refine ab_le (Rat.intCast_le_intCast.2 (show A i ≤ 32768 by omega)) ?_
    rw [← Rat.intCast_neg]
    exact Rat.intCast_le_intCast.2 (show -A i ≤ 32768 by omega)
  · rw [if_neg h, ab_of_nonneg (by decide)]; decide +kernel
/-- The sums, as integers. -/
def cSum (A B : Nat → Int) (la lb m : Nat) : Int := sumI (fun i => sumI (fun j => if i + j = m then A i * B j else 0) lb) la
theorem sumI_cast (f : Nat → Int) (n : Nat) : ((sumI f n : Int) : Rat) = sumR (fun i => (f i : Rat)) n := by
  induction n with
  | zero => rfl
  | succ n ih => show ((sumI f n + f n : Int) : Rat) = _; rw [Rat.intCast_add, ih]; rfl
theorem sumR_cutR {f : Nat → Rat} {n m : Nat} (h : n ≤ m) (hz : ∀ i, n ≤ i → f i = 0) : sumR f m = sumR f n := by
  obtain ⟨d, rfl⟩ : ∃ d, m = n + d := ⟨m - n, by omega⟩
  rw [sumR_split]
  have : sumR (fun i => f (n + i)) d = 0 := by
    rw [sumR_congr (g := fun _ => 0) (fun i _ => hz (n + i) (by omega)), sumR_const]; grind
  rw [this]; grind
theorem cAt_sum (A B : Nat → Int) (la lb N m : Nat) (hla : la ≤ N) (hlb : lb ≤ N) : cAt (aZ A la) (aZ B lb) N m = (cSum A B la lb m : Rat) := by
  unfold cAt cSum
  rw [sumI_cast, sumR_cutR hla (fun i hi => by
    rw [sumR_congr (g := fun _ => 0) (fun j _ => by unfold aZ; rw [if_neg (show ¬ i < la by omega)]; split <;> grind), sumR_const]; grind)]
  refine sumR_congr fun i hi => ?_
  rw [sumI_cast, sumR_cutR hlb (fun j hj => by unfold aZ; rw [if_neg (show ¬ j < lb by omega)]; split <;> grind)]
  refine sumR_congr fun j hj => ?_
  unfold aZ
  rw [if_pos hi, if_pos hj]
  by_cases h : i + j = m
  · rw [if_pos h, if_pos h, Rat.intCast_mul]
  · rw [if_neg h, if_neg h]; rfl
theorem sumI_abs (f : Nat → Int) (n : Nat) (M : Nat) (h : ∀ i, i < n → (f i).natAbs ≤ M) : (sumI f n).natAbs ≤ n * M := by
  induction n with
  | zero => show (0 : Int).natAbs ≤ _; omega
  | succ n ih =>
    show (sumI f n + f n).natAbs ≤ _
    have h1 := ih fun i hi => h i (by omega)
    have h2 := h n (by omega)
    have h3 := Int.natAbs_add_le (sumI f n) (f n)
    rw [Nat.add_mul]; omega
theorem cSum_bound (A B : Nat → Int) (la lb m : Nat) (hla : la ≤ 512) (hlb : lb ≤ 512) (hA : ∀ i, i < la → (A i).natAbs ≤ 32768) (hB : ∀ i, i < lb → (B i).natAbs ≤ 32768) : (cSum A B la lb m).natAbs ≤ 549755813888 := by
  have h1 : ∀ i, i < la → (sumI (fun j => if i + j = m then A i * B j else 0) lb).natAbs ≤ 1073741824 := fun i hi => by
    -- at most one term
    have key : ∀ n, n ≤ lb → (sumI (fun j => if i + j = m then A i * B j else 0) n).natAbs ≤ 1073741824 ∧ (m < i ∨ n ≤ m - i → sumI (fun j => if i + j = m then A i * B j else 0) n = 0) := by
      intro n
      induction n with
      | zero => intro _; exact ⟨by show (0 : Int).natAbs ≤ _; omega, fun _ => rfl⟩
      | succ n ih =>
        intro hn
        obtain ⟨i1, i2⟩ := ih (by omega)
        show (sumI (fun j => if i + j = m then A i * B j else 0) n + (if i + n = m then A i * B n else 0)).natAbs ≤ _ ∧ _
        by_cases h : i + n = m
        · rw [i2 (by omega), if_pos h, Int.zero_add, Int.natAbs_mul]
          refine ⟨Nat.le_trans (Nat.mul_le_mul (hA i hi) (hB n (by omega))) (by decide), fun hh => by omega⟩
        · rw [if_neg h, Int.add_zero]
          refine ⟨i1, fun hh => ?_⟩
          show sumI (fun j => if i + j = m then A i * B j else 0) n + (if i + n = m then A i * B n else 0) = 0
          rw [if_neg h, i2 (by omega)]; rfl
    exact (key lb (Nat.le_refl _)).1
  have := sumI_abs _ la _ h1
  have h2 : la * 1073741824 ≤ 512 * 1073741824 := Nat.mul_le_mul_right _ hla
  unfold cSum
  omega
theorem cSum_zero (A B : Nat → Int) (la lb m : Nat) (h : la + lb ≤ m + 1) : cSum A B la lb m = 0 := by
  unfold cSum
  rw [sumI_congr (g := fun _ => 0) (fun i hi => by
    rw [sumI_congr (g := fun _ => 0) (fun j hj => by rw [if_neg (by omega)]), sumI_zero]), sumI_zero]
/-- The squares of the digits. -/
theorem norm_fold (A : Nat → Int) (la k : Nat) (hla : la ≤ 512) (hl2 : la ≤ 2 * 2 ^ k) (hA : ∀ i, i < la → (A i).natAbs ≤ 32768) : sumR (fun i => nsq (cval (foldAt A (2 ^ k) la i))) (2 ^ k) ≤ 549755813888 := by
  have e : sumR (fun i => nsq (cval (foldAt A (2 ^ k) la i))) (2 ^ k) = sumR (fun i => aZ A la i * aZ A la i) (2 * 2 ^ k) := by
    rw [Nat.two_mul, sumR_split, ← sumR_add]
    refine sumR_congr fun i _ => ?_
    rw [(fold16_ok A (2 ^ k) la i hA).2]
    unfold nsq aZ
    dsimp only
    grind
  rw [e, sumR_cutR hl2 (fun i hi => by unfold aZ; rw [if_neg (by omega)]; grind)]
  have h1 := sumR_le (n := la) (f := fun i => aZ A la i * aZ A la i) (g := fun _ => 1073741824) (fun i _ => by
    have := sq_mono (ab_nonneg (aZ A la i)) (aZ_ab A la hA i)
    rw [sq_ab] at this
    grind)
  rw [sumR_const] at h1
  have h2 : (la : Rat) ≤ 512 := Rat.natCast_le_natCast.2 hla
  grind
end Go.Proofs.Ygctag
