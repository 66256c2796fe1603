import Derived.Test.YgctagFftB
namespace Go.Proofs.Ygctag

theorem S2_first (F : Nat → Nat → Nat → Rat) (k : Nat) : S2 F k 0 = sumR (fun b => F 0 b 0) (2 ^ k) := by
  unfold S2
  rw [Nat.sub_zero]
  refine sumR_congr fun b _ => ?_
  show (0 : Rat) + F 0 b 0 = _
  grind
theorem S2_last (F : Nat → Nat → Nat → Rat) (k : Nat) : S2 F k k = sumR (fun j => F k 0 j) (2 ^ k) := by
  unfold S2
  rw [Nat.sub_self]
  show (0 : Rat) + sumR (fun j => F k 0 j) (2 ^ k) = _
  grind

/-- A number times a weight of the table. -/
theorem weigh {fb w : Cb} {E : Nat} {W : Cx} (hf : Gd E fb) (hw : Gd 1 w) (hE : E ≤ 800) (hW : nsq W = 1) (hwW : Le (cval w - W) (50 * uu)) :
    Gd (E + 6) (cmulB fb w) ∧ nsq (cval (cmulB fb w) - cval fb * W) ≤ 2970 * (uu * uu) * nsq (cval fb) + 1100 * (eta * eta) ∧ nsq (cval (cmulB fb w)) ≤ 1001 / 1000 * nsq (cval fb) + eta := by
  obtain ⟨-, -, -, -, -, -, m1, m2⟩ := cmulB_ok hf hw (by omega)
  have u0 := uu_pos
  have us := uu_small
  have f0 := nsq_nonneg (cval fb)
  have hu2 := sq_nonneg uu
  have he2 := sq_nonneg eta
  have e0 := eta_pos
  have hcw : nsq (cval w) ≤ 1001 / 1000 := by
    have h := ((Le.unit hW).add hwW).of_eq (show W + (cval w - W) = cval w by (apply Cx.ext' <;> simp <;> grind))
    have h2 := h.2
    have : (1 + 50 * uu) * (1 + 50 * uu) ≤ 1001 / 1000 := by
      have := Rat.mul_le_mul_of_nonneg_left us (Rat.le_of_lt u0)
      grind
    grind
  have h1 : nsq (cval (cmulB fb w) - cval fb * cval w) ≤ 18018 / 1000 * (uu * uu * nsq (cval fb)) + 64 * (eta * eta) := by
    have a := Rat.mul_le_mul_of_nonneg_left hcw f0
    have b := Rat.mul_le_mul_of_nonneg_left a hu2
    grind
  have h2 : nsq (cval fb * (cval w - W)) ≤ 2500 * (uu * uu * nsq (cval fb)) := by
    rw [nsq_mul]
    have := Rat.mul_le_mul_of_nonneg_left hwW.2 f0
    grind
  have huf := Rat.mul_nonneg hu2 f0
  have hy := nsq_young (cval fb * (cval w - W)) (cval (cmulB fb w) - cval fb * cval w) (1 / 16) (by decide +kernel)
  rw [show cval fb * (cval w - W) + (cval (cmulB fb w) - cval fb * cval w) = cval (cmulB fb w) - cval fb * W by (apply Cx.ext' <;> simp <;> grind)] at hy
  have herr : nsq (cval (cmulB fb w) - cval fb * W) ≤ 2970 * (uu * uu) * nsq (cval fb) + 1100 * (eta * eta) := by grind
  refine ⟨m1.mono (by omega), herr, ?_⟩
  have hz := nsq_young (cval fb * W) (cval (cmulB fb w) - cval fb * W) (1 / 2000) (by decide +kernel)
  rw [show cval fb * W + (cval (cmulB fb w) - cval fb * W) = cval (cmulB fb w) by (apply Cx.ext' <;> simp <;> grind), nsq_mul, hW] at hz
  have k1 : uu * uu * nsq (cval fb) ≤ 1 / 1000000000000 * nsq (cval fb) := Rat.mul_le_mul_of_nonneg_right (by unfold uu; grind) f0
  have k2 : eta * eta ≤ 1 / 1000000000000 * eta := Rat.mul_le_mul_of_nonneg_right (by
    have h1 := z2_mono (a := -1075) (b := -80) (by decide)
    have h2 : (2 : Rat) ^ (-80 : Int) * ((2 ^ 80 : Nat) : Rat) = 1 := by rw [← z2_split (a := -80) (b := 0) (n := 80) (by omega), Rat.zpow_zero]
    have h3 : ((2 ^ 80 : Nat) : Rat) = 1208925819614629174706176 := rfl
    rw [h3] at h2
    unfold eta
    grind) (Rat.le_of_lt e0)
  grind

theorem tab_ok40 (k : Nat) (hk1 : 1 ≤ k) (hk : k ≤ 9) : TabOK (tabB k) WW k := by
  intro j hj
  obtain ⟨g, h⟩ := tab_near k hk1 (by omega) (k - 1) j hj (by omega)
  refine ⟨g, ?_⟩
  have u0 := uu_pos
  have hb : ((k - 1 : Nat) : Rat) * (5 * uu) ≤ 40 * uu := by
    have : ((k - 1 : Nat) : Rat) ≤ ((8 : Nat) : Rat) := Rat.natCast_le_natCast.2 (by omega)
    have h3 := Rat.mul_le_mul_of_nonneg_right this (show 0 ≤ 5 * uu by grind)
    rw [show ((8 : Nat) : Rat) = 8 from rfl] at h3
    grind
  exact (h.mono hb).2
theorem tab_ok50 (k : Nat) (hk : k ≤ 9) (j : Nat) (hj : j < 2 ^ (k + 1)) : Gd 1 (tabB (k + 2) j) ∧ Le (cval (tabB (k + 2) j) - WW (2 ^ (9 - k) * j)) (50 * uu) := by
  obtain ⟨g, h⟩ := tab_near (k + 2) (by omega) (by omega) (k + 1) j hj (by omega)
  rw [show 11 - (k + 2) = 9 - k by omega] at h
  refine ⟨g, h.mono ?_⟩
  have u0 := uu_pos
  have : ((k + 1 : Nat) : Rat) ≤ ((10 : Nat) : Rat) := Rat.natCast_le_natCast.2 (by omega)
  have h3 := Rat.mul_le_mul_of_nonneg_right this (show 0 ≤ 5 * uu by grind)
  rw [show ((10 : Nat) : Rat) = 10 from rfl] at h3
  grind

/-- 2^39, and a little more. -/
def Q39 : Rat := 550829555712
/-- One operand, transformed. -/
def fwdB (k : Nat) (fb : Nat → Cb) : Nat → Cb := fftB (tabB k) k (fun p => cmulB (fb (rev k p)) (tabB (k + 2) (rev k p))) k
def refA (k : Nat) (fb : Nat → Cb) (i : Nat) : Cx := cval (fb i) * WW (2 ^ (9 - k) * i)

theorem fwd_all (k : Nat) (hk1 : 1 ≤ k) (hk : k ≤ 9) (fb : Nat → Cb) (hf : ∀ i, i < 2 ^ k → Gd 16 (fb i)) (hN : sumR (fun i => nsq (cval (fb i))) (2 ^ k) ≤ 549755813888) :
    (∀ l, l < 2 ^ k → Gd 103 (fwdB k fb l)) ∧ sumR (fun l => nsq (cval (fwdB k fb l))) (2 ^ k) ≤ ((2 ^ k : Nat) : Rat) * (102 / 100 * Q39) ∧
    sumR (fun l => nsq (cval (fwdB k fb l) - dftC (refA k fb) WW k l)) (2 ^ k) ≤ (505 * uu) * (505 * uu) * (((2 ^ k : Nat) : Rat) * Q39) := by
  have u0 := uu_pos
  have e0 := eta_pos
  have hT := tab_ok40 k hk1 hk
  have hW := rootWW
  have hw : ∀ i, i < 2 ^ k → Gd 22 (cmulB (fb i) (tabB (k + 2) i)) ∧ nsq (cval (cmulB (fb i) (tabB (k + 2) i)) - refA k fb i) ≤ 2970 * (uu * uu) * nsq (cval (fb i)) + 1100 * (eta * eta) ∧ nsq (cval (cmulB (fb i) (tabB (k + 2) i))) ≤ 1001 / 1000 * nsq (cval (fb i)) + eta := by
    intro i hi
    obtain ⟨t1, t2⟩ := tab_ok50 k hk i (by rw [Nat.pow_succ]; omega)
    exact weigh (hf i hi) t1 (by omega) (hW.unit _) t2
  have hx : ∀ p, p < 2 ^ k → Gd 22 ((fun p => cmulB (fb (rev k p)) (tabB (k + 2) (rev k p))) p) := fun p _ => (hw _ (rev_lt k p)).1
  have hB := fft_BF hW hk (by omega) hT hx
  have hm0 : ∀ i, i < 2 ^ k → Le (refA k fb i) 262144 := by
    intro i hi
    have g := hf i hi
    have a := (Le.of_parts (z := cval (fb i)) g.2.2.1 g.2.2.2).mul (hW.le (2 ^ (9 - k) * i))
    refine a.mono ?_
    rw [show (2 : Rat) ^ ((16 : Nat) : Int) = ((2 ^ 16 : Nat) : Rat) from z2_nat 16, show ((2 ^ 16 : Nat) : Rat) = 65536 from rfl]
    grind
  have hE := ex_step (refA k fb) WW hW k hk 262144 (uu / 1000000) (by unfold ew uu; grind) hm0
  have he0 : uu / 1000000 * (uu / 1000000) * 1000000000000 ≤ uu * uu := by grind
  have hn : ((2 ^ k : Nat) : Rat) ≤ 512 := by
    have := Rat.natCast_le_natCast.2 (show 2 ^ k ≤ 2 ^ 9 from Nat.pow_le_pow_right (by decide) hk)
    exact this
  have hX0 : S2 (fun t b j => nsq (cval (fftB (tabB k) k (fun p => cmulB (fb (rev k p)) (tabB (k + 2) (rev k p))) t (b * 2 ^ t + j)))) k 0 ≤ Q39 := by
    rw [S2_first]
    have h1 : sumR (fun b => nsq (cval (fftB (tabB k) k (fun p => cmulB (fb (rev k p)) (tabB (k + 2) (rev k p))) 0 (b * 2 ^ 0 + 0)))) (2 ^ k) ≤ sumR (fun b => 1001 / 1000 * nsq (cval (fb (rev k b))) + eta) (2 ^ k) := by
      refine sumR_le fun b _ => ?_
      have := (hw _ (rev_lt k b)).2.2
      show nsq (cval (cmulB (fb (rev k (b * 2 ^ 0 + 0))) (tabB (k + 2) (rev k (b * 2 ^ 0 + 0))))) ≤ _
      rw [Nat.pow_zero, Nat.mul_one, Nat.add_zero]
      exact this
    rw [sumR_add (fun b => 1001 / 1000 * nsq (cval (fb (rev k b)))) (fun _ => eta), sumR_mul, sumR_const, sumR_rev (fun i => nsq (cval (fb i)))] at h1
    have h2 := Rat.mul_le_mul_of_nonneg_right hn (Rat.le_of_lt e0)
    have h3 := eta_small
    unfold Q39
    grind
  have hD0 : S2 (fun t b j => nsq (cval (fftB (tabB k) k (fun p => cmulB (fb (rev k p)) (tabB (k + 2) (rev k p))) t (b * 2 ^ t + j)) - Ex (refA k fb) WW k t b j)) k 0 ≤ (55 * uu) * (55 * uu) * Q39 := by
    rw [S2_first]
    have h1 : sumR (fun b => nsq (cval (fftB (tabB k) k (fun p => cmulB (fb (rev k p)) (tabB (k + 2) (rev k p))) 0 (b * 2 ^ 0 + 0)) - Ex (refA k fb) WW k 0 b 0)) (2 ^ k) ≤ sumR (fun b => 2970 * (uu * uu) * nsq (cval (fb (rev k b))) + 1100 * (eta * eta)) (2 ^ k) := by
      refine sumR_le fun b _ => ?_
      have := (hw _ (rev_lt k b)).2.1
      rw [ex_zero _ _ hW]
      show nsq (cval (cmulB (fb (rev k (b * 2 ^ 0 + 0))) (tabB (k + 2) (rev k (b * 2 ^ 0 + 0)))) - _) ≤ _
      rw [Nat.pow_zero, Nat.mul_one, Nat.add_zero]
      exact this
    rw [sumR_add (fun b => 2970 * (uu * uu) * nsq (cval (fb (rev k b)))) (fun _ => 1100 * (eta * eta)), sumR_mul, sumR_const, sumR_rev (fun i => nsq (cval (fb i)))] at h1
    have h2 := Rat.mul_le_mul_of_nonneg_right hn (show 0 ≤ 1100 * (eta * eta) by have := sq_nonneg eta; grind)
    have h3 := eta_tiny
    have h4 := Rat.mul_le_mul_of_nonneg_left hN (show 0 ≤ 2970 * (uu * uu) by have := sq_nonneg uu; grind)
    have h5 := sq_nonneg uu
    unfold Q39
    grind
  obtain ⟨r1, r2⟩ := l2_all WW hW k hk _ (Ex (refA k fb) WW k) (uu / 1000000) he0 hB hE Q39 (55 * uu) (by unfold Q39; grind) (by grind) hX0 hD0 k (Nat.le_refl _)
  rw [S2_last] at r1 r2
  have hk9 : (k : Rat) ≤ 9 := Rat.natCast_le_natCast.2 hk
  have hk0 : (0 : Rat) ≤ (k : Rat) := Rat.natCast_nonneg
  have hP : 0 ≤ ((2 ^ k : Nat) : Rat) * Q39 := Rat.mul_nonneg Rat.natCast_nonneg (by unfold Q39; grind)
  have ez : ∀ l : Nat, (0 : Nat) * 2 ^ k + l = l := fun l => by omega
  refine ⟨fun l hl => ?_, ?_, ?_⟩
  · exact (fft_good hW hk (by omega) hT hx k (Nat.le_refl _) l hl).mono (by omega)
  · have h1 : sumR (fun l => nsq (cval (fwdB k fb l))) (2 ^ k) ≤ _ := (by
      have e := sumR_congr (n := 2 ^ k) (f := fun l => nsq (cval (fwdB k fb l))) (g := fun j => nsq (cval (fftB (tabB k) k (fun p => cmulB (fb (rev k p)) (tabB (k + 2) (rev k p))) k (0 * 2 ^ k + j)))) (fun l _ => by rw [ez]; rfl)
      rw [e]; exact r1)
    have h2 := Rat.mul_le_mul_of_nonneg_right (show 1 + (k : Rat) / 450 ≤ 102 / 100 by grind) hP
    grind
  · have h1 : sumR (fun l => nsq (cval (fwdB k fb l) - dftC (refA k fb) WW k l)) (2 ^ k) ≤ _ := (by
      have e := sumR_congr (n := 2 ^ k) (f := fun l => nsq (cval (fwdB k fb l) - dftC (refA k fb) WW k l)) (g := fun j => nsq (cval (fftB (tabB k) k (fun p => cmulB (fb (rev k p)) (tabB (k + 2) (rev k p))) k (0 * 2 ^ k + j)) - Ex (refA k fb) WW k k 0 j)) (fun l _ => by rw [ez, ex_top]; rfl)
      rw [e]; exact r2)
    have h3 : 55 * uu + (k : Rat) * (50 * uu) ≤ 505 * uu := by
      have := Rat.mul_le_mul_of_nonneg_right hk9 (show 0 ≤ 50 * uu by grind)
      grind
    have h4 : 0 ≤ 55 * uu + (k : Rat) * (50 * uu) := by
      have := Rat.mul_nonneg hk0 (show 0 ≤ 50 * uu by grind)
      grind
    have h5 := Rat.mul_le_mul_of_nonneg_right (sq_mono h4 h3) hP
    grind
end Go.Proofs.Ygctag
