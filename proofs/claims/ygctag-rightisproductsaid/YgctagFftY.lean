import Derived.Test.YgctagFftZ
namespace Go.Proofs.Ygctag

set_option maxHeartbeats 1000000 in
/-- The inverse transform's error. -/
theorem inv_all (k : Nat) (hk1 : 1 ≤ k) (hk : k ≤ 9) (A B : Nat → Rat) (hA : ∀ i, ab (A i) ≤ 32768) (hB : ∀ i, ab (B i) ≤ 32768) (fa fb : Nat → Cb)
    (gfa : ∀ i, i < 2 ^ k → Gd 16 (fa i)) (gfb : ∀ i, i < 2 ^ k → Gd 16 (fb i)) (hfa : ∀ i, i < 2 ^ k → cval (fa i) = ⟨A i, -A (2 ^ k + i)⟩) (hfb : ∀ i, i < 2 ^ k → cval (fb i) = ⟨B i, -B (2 ^ k + i)⟩)
    (hNa : sumR (fun i => nsq (cval (fa i))) (2 ^ k) ≤ 549755813888) (hNb : sumR (fun i => nsq (cval (fb i))) (2 ^ k) ≤ 549755813888) (p : Nat) (hp : p < 2 ^ k) :
    Gd 292 (invB k (fwdB k fa) (fwdB k fb) p) ∧ Le (cval (invB k (fwdB k fa) (fwdB k fb) p)) (1022 / 1000 * (((2 ^ k : Nat) : Rat) * Q39)) ∧
    Le (cval (invB k (fwdB k fa) (fwdB k fb) p) - dftC (evC A B k) WB k p) (1503 * uu * (((2 ^ k : Nat) : Rat) * Q39)) := by
  have u0 := uu_pos
  have us := uu_small
  have e0 := eta_pos
  have es := eta_small
  obtain ⟨ga, na, da⟩ := fwd_all k hk1 hk fa gfa hNa
  obtain ⟨gb, nb, db⟩ := fwd_all k hk1 hk fb gfb hNb
  have hbn := both_near k hk A B hA hB fa fb hfa hfb
  generalize fwdB k fa = xa at *
  generalize fwdB k fb = xb at *
  generalize dftC (refA k fa) WW k = ra at *
  generalize dftC (refA k fb) WW k = rb at *
  have hW := rootWB
  have hT := ctab_ok k hk1 hk
  have hg : (0 : Rat) < 505 * uu := by grind
  -- bounds point by point
  obtain ⟨L, hL⟩ : ∃ L : Nat → Rat, L = fun l => (1 + 5 * uu) * ((nsq (cval (xa l)) + nsq (cval (xb l))) / 2) + 1 := ⟨_, rfl⟩
  obtain ⟨d, hd⟩ : ∃ d : Nat → Rat, d = fun l => 17 / 4 * uu * ((nsq (cval (xa l)) + nsq (cval (xb l))) / 2) + 8 * eta + (nsq (cval (xa l) - ra l) / (505 * uu) + 505 * uu * nsq (cval (xb l))) / 2 + (nsq (cval (xb l) - rb l) / (505 * uu) + 505 * uu * nsq (cval (xa l))) / 2 + (nsq (cval (xa l) - ra l) / 1 + 1 * nsq (cval (xb l) - rb l)) / 2 + uu := ⟨_, rfl⟩
  have hpt : ∀ l, l < 2 ^ k → Gd 211 (prodB xa xb l) ∧ Le (cval (prodB xa xb l)) (L l) ∧ Le (cval (prodB xa xb l) - evC A B k l) (d l) := by
    intro l hl
    obtain ⟨g1, g2, g3⟩ := prod_le (ga l hl) (gb l hl) (by omega)
    have q1 := Le.prod (a := cval (xa l) - ra l) (b := cval (xb l)) (g := 505 * uu) hg
    have q2 := Le.prod (a := cval (xb l) - rb l) (b := cval (xa l)) (g := 505 * uu) hg
    have q3 := Le.prod (a := cval (xa l) - ra l) (b := cval (xb l) - rb l) (g := 1) (by decide)
    have q4 := hbn l
    refine ⟨g1, ?_, ?_⟩
    · have hM := g3.1
      refine ((g2.add g3).of_eq (show cval (cmulB (xa l) (xb l)) - cval (xa l) * cval (xb l) + cval (xa l) * cval (xb l) = cval (prodB xa xb l) by show _ = cval (cmulB (xa l) (xb l)); (apply Cx.ext' <;> simp <;> grind))).mono ?_
      rw [hL]
      dsimp only
      have := Rat.mul_nonneg (Rat.le_of_lt u0) hM
      have e8 : 8 * eta ≤ 1 := by
        have h1 := z2_mono (a := -1075) (b := -80) (by decide)
        have h2 : (2 : Rat) ^ (-80 : Int) * ((2 ^ 80 : Nat) : Rat) = 1 := by rw [← z2_split (a := -80) (b := 0) (n := 80) (by omega), Rat.zpow_zero]
        have h3 : ((2 ^ 80 : Nat) : Rat) = 1208925819614629174706176 := rfl
        rw [h3] at h2
        unfold eta
        grind
      grind
    · have t := ((((g2.add q1).add q2).sub q3).add q4)
      refine (t.of_eq ?_).mono (by rw [hd]; dsimp only; grind)
      show _ = cval (cmulB (xa l) (xb l)) - evC A B k l
      (apply Cx.ext' <;> simp <;> grind)
  have hL1 : ∀ i, 1 ≤ L i := fun i => by
    rw [hL]
    dsimp only
    have h1 := nsq_nonneg (cval (xa i))
    have h2 := nsq_nonneg (cval (xb i))
    have := Rat.mul_nonneg (show 0 ≤ 1 + 5 * uu by grind) (show 0 ≤ (nsq (cval (xa i)) + nsq (cval (xb i))) / 2 by grind)
    grind
  have hx : ∀ p, p < 2 ^ k → Gd 211 ((fun p => prodB xa xb (rev k p)) p) := fun p _ => (hpt _ (rev_lt k p)).1
  have hBF := fft_BF hW hk (by omega) hT hx
  have hE := ex_step (evC A B k) WB hW k hk 1125899906842624 uu (by unfold ew uu; grind) (fun i _ => evC_le k hk A B hA hB i)
  have hr := l1_all WB hW k hk _ (Ex (evC A B k) WB k) uu Rat.le_refl hBF hE (fun b => L (rev k b)) (fun b => d (rev k b)) (fun i => hL1 _)
    (fun b _ => by
      show Le (cval (fftB (ctabB k) k (fun p => prodB xa xb (rev k p)) 0 (b * 2 ^ 0 + 0))) _
      rw [Nat.pow_zero, Nat.mul_one, Nat.add_zero]
      exact (hpt _ (rev_lt k b)).2.1)
    (fun b _ => by
      show Le (cval (fftB (ctabB k) k (fun p => prodB xa xb (rev k p)) 0 (b * 2 ^ 0 + 0)) - Ex (evC A B k) WB k 0 b 0) _
      rw [Nat.pow_zero, Nat.mul_one, Nat.add_zero, ex_zero _ _ hW]
      exact (hpt _ (rev_lt k b)).2.2) k (Nat.le_refl _) 0 p (by rw [Nat.sub_self]; decide) hp
  have bs : ∀ f : Nat → Rat, bsum (fun b => f (rev k b)) k 0 = sumR f (2 ^ k) := fun f => by
    unfold bsum
    rw [← sumR_rev f k]
    exact sumR_congr fun i _ => by rw [Nat.zero_mul, Nat.zero_add]
  rw [bs, bs, ex_top] at hr
  rw [show 0 * 2 ^ k + p = p by omega] at hr
  have hk9 : (k : Rat) ≤ 9 := Rat.natCast_le_natCast.2 hk
  have hk0 : (0 : Rat) ≤ (k : Rat) := Rat.natCast_nonneg
  have hP1 := pow2_one k
  have hQ : (550829555712 : Rat) ≤ ((2 ^ k : Nat) : Rat) * Q39 := by
    have := Rat.mul_le_mul_of_nonneg_right hP1 (show 0 ≤ Q39 by unfold Q39; grind)
    unfold Q39 at *
    grind
  have hn5 : ((2 ^ k : Nat) : Rat) ≤ 512 := Rat.natCast_le_natCast.2 (show 2 ^ k ≤ 2 ^ 9 from Nat.pow_le_pow_right (by decide) hk)
  have na' : sumR (fun l => nsq (cval (xa l))) (2 ^ k) ≤ 102 / 100 * (((2 ^ k : Nat) : Rat) * Q39) := by grind
  have nb' : sumR (fun l => nsq (cval (xb l))) (2 ^ k) ≤ 102 / 100 * (((2 ^ k : Nat) : Rat) * Q39) := by grind
  -- the sums of the bounds
  have sL : sumR L (2 ^ k) = (1 + 5 * uu) / 2 * sumR (fun l => nsq (cval (xa l))) (2 ^ k) + ((1 + 5 * uu) / 2 * sumR (fun l => nsq (cval (xb l))) (2 ^ k) + ((2 ^ k : Nat) : Rat) * 1) := by
    rw [hL, ← sumR_mul, ← sumR_mul, ← sumR_const, ← sumR_add, ← sumR_add]
    exact sumR_congr fun i _ => by grind
  have hLs : sumR L (2 ^ k) ≤ 1021 / 1000 * (((2 ^ k : Nat) : Rat) * Q39) := by
    rw [sL]
    have a1 := Rat.mul_le_mul_of_nonneg_left na' (show 0 ≤ (1 + 5 * uu) / 2 by grind)
    have a2 := Rat.mul_le_mul_of_nonneg_left nb' (show 0 ≤ (1 + 5 * uu) / 2 by grind)
    generalize ((2 ^ k : Nat) : Rat) * Q39 = Z at *
    have a3 := Rat.mul_le_mul_of_nonneg_right us (show 0 ≤ Z by grind)
    grind
  have hL0 : 0 ≤ sumR L (2 ^ k) := sumR_nonneg fun i _ => by have := hL1 i; grind
  have sd : sumR d (2 ^ k) = (17 / 8 * uu + 505 / 2 * uu) * sumR (fun l => nsq (cval (xa l))) (2 ^ k) + ((17 / 8 * uu + 505 / 2 * uu) * sumR (fun l => nsq (cval (xb l))) (2 ^ k) + ((1 / (505 * uu) / 2 + 1 / 2) * sumR (fun l => nsq (cval (xa l) - ra l)) (2 ^ k) + ((1 / (505 * uu) / 2 + 1 / 2) * sumR (fun l => nsq (cval (xb l) - rb l)) (2 ^ k) + ((2 ^ k : Nat) : Rat) * (8 * eta + uu)))) := by
    rw [hd, ← sumR_mul, ← sumR_mul, ← sumR_mul, ← sumR_mul, ← sumR_const, ← sumR_add, ← sumR_add, ← sumR_add, ← sumR_add]
    exact sumR_congr fun i _ => by grind
  have hds : sumR d (2 ^ k) ≤ 1025 * uu * (((2 ^ k : Nat) : Rat) * Q39) := by
    rw [sd]
    have a1 := Rat.mul_le_mul_of_nonneg_left na' (show 0 ≤ 17 / 8 * uu + 505 / 2 * uu by grind)
    have a2 := Rat.mul_le_mul_of_nonneg_left nb' (show 0 ≤ 17 / 8 * uu + 505 / 2 * uu by grind)
    have hi : 1 / (505 * uu) * (505 * uu) = 1 := by grind
    have hi0 : 0 ≤ 1 / (505 * uu) := by unfold uu; grind
    have a3 := Rat.mul_le_mul_of_nonneg_left da (show 0 ≤ 1 / (505 * uu) / 2 + 1 / 2 by grind)
    have a4 := Rat.mul_le_mul_of_nonneg_left db (show 0 ≤ 1 / (505 * uu) / 2 + 1 / 2 by grind)
    have hn2 := Rat.mul_le_mul_of_nonneg_right hn5 (show 0 ≤ 8 * eta + uu by grind)
    generalize ((2 ^ k : Nat) : Rat) * Q39 = Z at *
    have b1 : (1 / (505 * uu) / 2 + 1 / 2) * (505 * uu * (505 * uu) * Z) = (505 * uu * Z) / 2 * (1 / (505 * uu) * (505 * uu)) + (505 * uu * (505 * uu) * Z) / 2 := by grind
    rw [hi] at b1
    have hZ : 0 ≤ uu * Z := Rat.mul_nonneg (Rat.le_of_lt u0) (by grind)
    have b2 := Rat.mul_le_mul_of_nonneg_right us hZ
    have b3 : eta ≤ uu := by
      have := eta_tiny
      have h1 := z2_mono (a := -1075) (b := -80) (by decide)
      have h2 : (2 : Rat) ^ (-80 : Int) * ((2 ^ 80 : Nat) : Rat) = 1 := by rw [← z2_split (a := -80) (b := 0) (n := 80) (by omega), Rat.zpow_zero]
      have h3 : ((2 ^ 80 : Nat) : Rat) = 1208925819614629174706176 := rfl
      rw [h3] at h2
      unfold eta uu
      grind
    have b4 : uu * 550829555712 ≤ uu * Z := Rat.mul_le_mul_of_nonneg_left hQ (Rat.le_of_lt u0)
    grind
  generalize ((2 ^ k : Nat) : Rat) * Q39 = Z at *
  have hZ : 0 ≤ uu * Z := Rat.mul_nonneg (Rat.le_of_lt u0) (by grind)
  refine ⟨(fft_good hW hk (by omega) hT hx k (Nat.le_refl _) p hp).mono (by omega), hr.1.mono ?_, hr.2.mono ?_⟩
  · have c1 : 1 + (k : Rat) * (51 * uu) ≤ 1 + 1 / 2000 := by
      have := Rat.mul_le_mul_of_nonneg_right hk9 (show 0 ≤ 51 * uu by grind)
      grind
    have c2 := Rat.mul_le_mul_of_nonneg_right c1 hL0
    grind
  · have c1 : (k : Rat) * (52 * uu) ≤ 468 * uu := by
      have := Rat.mul_le_mul_of_nonneg_right hk9 (show 0 ≤ 52 * uu by grind)
      grind
    have c2 := Rat.mul_le_mul_of_nonneg_right c1 hL0
    have c3 := Rat.mul_le_mul_of_nonneg_left hLs (show 0 ≤ 468 * uu by grind)
    grind
end Go.Proofs.Ygctag
