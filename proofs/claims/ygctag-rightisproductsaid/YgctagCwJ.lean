import Derived.Test.YgctagCwI
namespace Go.Proofs.Ygctag
open Go.RowKit
attribute [local go_sem] run_store_complex run_neg_float

theorem leastLog (s : Nat) : ∀ n, 1 ≤ n → s ≤ 2 ^ n → ∃ K, 1 ≤ K ∧ K ≤ n ∧ s ≤ 2 ^ K ∧ ∀ j, 1 ≤ j → j < K → 2 ^ j < s := by
  intro n
  induction n with
  | zero => intro h; omega
  | succ n ih =>
    intro _ hs
    by_cases h : 1 ≤ n ∧ s ≤ 2 ^ n
    · obtain ⟨K, h1, h2, h3, h4⟩ := ih h.1 h.2
      exact ⟨K, h1, by omega, h3, h4⟩
    · refine ⟨n + 1, by omega, Nat.le_refl _, hs, fun j h1 h2 => ?_⟩
      have hn : 2 ^ n < s := by omega
      exact Nat.lt_of_le_of_lt (Nat.pow_le_pow_right (by decide) (by omega)) hn

/-- What is rounded: 2 n reals, their imaginary parts nought. -/
def rawB (Z : Nat → Cb) (n i : Nat) : Cb := if i < n then ((Z i).1, 0) else (Op.negFloat .f64 (Z (i - n)).2, 0)
theorem raw_ok (A B : Nat → Int) (la lb k : Nat) (hk1 : 1 ≤ k) (hk : k ≤ 9) (hla : la ≤ 512) (hlb : lb ≤ 512) (hl1 : 1 ≤ la) (hl2 : 1 ≤ lb) (hfit : la + lb - 1 ≤ 2 * 2 ^ k) (hA : ∀ i, i < la → (A i).natAbs ≤ 32768) (hB : ∀ i, i < lb → (B i).natAbs ≤ 32768) :
    (∀ p, p < 2 ^ k → Gd 41 (divB k (fwdB k (foldAt A (2 ^ k) la)) (fwdB k (foldAt B (2 ^ k) lb)) p) ∧ Gd 47 (outB k (fwdB k (foldAt A (2 ^ k) la)) (fwdB k (foldAt B (2 ^ k) lb)) p)) ∧
    ∀ i, i < 2 * 2 ^ k → ∃ x, Num (rawB (outB k (fwdB k (foldAt A (2 ^ k) la)) (fwdB k (foldAt B (2 ^ k) lb))) (2 ^ k) i).1 x ∧ ab (x - (cSum A B la lb i : Rat)) ≤ 1 / 8 := by
  have hmain := out_all k hk1 hk (aZ A la) (aZ B lb) (aZ_ab A la hA) (aZ_ab B lb hB) (fun i j hij => by
      unfold aZ
      by_cases h1 : i < la
      · rw [if_neg (show ¬ j < lb by omega)]; grind
      · rw [if_neg h1]; grind) (foldAt A (2 ^ k) la) (foldAt B (2 ^ k) lb) (fun i _ => (fold16_ok A (2 ^ k) la i hA).1) (fun i _ => (fold16_ok B (2 ^ k) lb i hB).1)
      (fun i _ => (fold16_ok A (2 ^ k) la i hA).2) (fun i _ => (fold16_ok B (2 ^ k) lb i hB).2) (norm_fold A la k hla (by omega) hA) (norm_fold B lb k hlb (by omega) hB)
  refine ⟨fun p hp => ⟨(hmain p hp).1, (hmain p hp).2.1⟩, fun i hi => ?_⟩
  unfold rawB
  by_cases h : i < 2 ^ k
  · rw [if_pos h]
    obtain ⟨-, g, hl⟩ := hmain i h
    refine ⟨_, g.1, ?_⟩
    have := hl.re
    rw [← cAt_sum A B la lb (2 * 2 ^ k) i (by omega) (by omega)]
    exact Rat.le_trans this (by decide +kernel)
  · rw [if_neg h]
    obtain ⟨p, rfl⟩ : ∃ p, i = 2 ^ k + p := ⟨i - 2 ^ k, by omega⟩
    rw [Nat.add_sub_cancel_left]
    obtain ⟨-, g, hl⟩ := hmain p (by omega)
    refine ⟨_, neg_num g.2.1, ?_⟩
    have := hl.im
    rw [← cAt_sum A B la lb (2 * 2 ^ k) (2 ^ k + p) (by omega) (by omega)]
    have e : -fval (outB k (fwdB k (foldAt A (2 ^ k) la)) (fwdB k (foldAt B (2 ^ k) lb)) p).2 - cAt (aZ A la) (aZ B lb) (2 * 2 ^ k) (2 ^ k + p) = -(cval (outB k (fwdB k (foldAt A (2 ^ k) la)) (fwdB k (foldAt B (2 ^ k) lb)) p) - ⟨cAt (aZ A la) (aZ B lb) (2 * 2 ^ k) p, -cAt (aZ A la) (aZ B lb) (2 * 2 ^ k) (2 ^ k + p)⟩).im := by
      simp [cval]; grind
    rw [e, ab_neg]
    exact Rat.le_trans this (by decide +kernel)
end Go.Proofs.Ygctag
