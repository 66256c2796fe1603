import Derived.Test.YgctagFftY
namespace Go.Proofs.Ygctag

theorem out_ar {u n Q e : Rat} (b4 : e * 1000 * n ≤ u * n) (b5 : u * n * 1 ≤ u * n * Q) (b6 : 0 ≤ u * n) : 2 * u * (1022 / 1000 * (n * Q)) + 2 * e * n + (2 * u * (1022 / 1000 * (n * Q)) + 2 * e * n) ≤ n * (41 / 10 * u * Q) := by grind
theorem out_ar2 {u q e X Y : Rat} (m2 : X ≤ 18 * (u * u) * Y + 64 * (e * e)) (a4 : 18 * (u * u) * Y ≤ 18 * (u * u) * (1024 / 1000 * q * (1024 / 1000 * q))) (a5 : e * e * 1000000000000 ≤ u * u) (a6 : u * u * 1 ≤ u * u * (q * q)) (a7 : 0 ≤ u * u) : X ≤ 5 * u * q * (5 * u * q) := by grind
set_option maxHeartbeats 1000000 in
/-- The right-angle convolution before rounding: within 1/10 of the sums. -/
theorem out_all (k : Nat) (hk1 : 1 ≤ k) (hk : k ≤ 9) (A B : Nat → Rat) (hA : ∀ i, ab (A i) ≤ 32768) (hB : ∀ i, ab (B i) ≤ 32768) (hAB : ∀ i j, 2 * 2 ^ k ≤ i + j → A i * B j = 0) (fa fb : Nat → Cb)
    (gfa : ∀ i, i < 2 ^ k → Gd 16 (fa i)) (gfb : ∀ i, i < 2 ^ k → Gd 16 (fb i)) (hfa : ∀ i, i < 2 ^ k → cval (fa i) = ⟨A i, -A (2 ^ k + i)⟩) (hfb : ∀ i, i < 2 ^ k → cval (fb i) = ⟨B i, -B (2 ^ k + i)⟩)
    (hNa : sumR (fun i => nsq (cval (fa i))) (2 ^ k) ≤ 549755813888) (hNb : sumR (fun i => nsq (cval (fb i))) (2 ^ k) ≤ 549755813888) (p : Nat) (hp : p < 2 ^ k) :
    Gd 41 (divB k (fwdB k fa) (fwdB k fb) p) ∧ Gd 47 (outB k (fwdB k fa) (fwdB k fb) p) ∧ Le (cval (outB k (fwdB k fa) (fwdB k fb) p) - ⟨cAt A B (2 * 2 ^ k) p, -cAt A B (2 * 2 ^ k) (2 ^ k + p)⟩) (1 / 10) := by
  have u0 := uu_pos
  have us := uu_small
  have e0 := eta_pos
  obtain ⟨g1, l1, l2⟩ := inv_all k hk1 hk A B hA hB fa fb gfa gfb hfa hfb hNa hNb p hp
  have hin := inv_near k hk A B hA hB hAB p hp
  obtain ⟨t1, t2⟩ := tab_ok50 k hk p (by rw [Nat.pow_succ]; omega)
  obtain ⟨t3, t4⟩ := conjB_ok t1
  have hwW : Le (cval (conjB (tabB (k + 2) p)) - WB (2 ^ (9 - k) * p)) (50 * uu) := by
    rw [t4]
    exact t2.conj.of_eq (by show _ = Cx.conj (cval (tabB (k + 2) p)) - Cx.conj (WW (2 ^ (9 - k) * p)); (apply Cx.ext' <;> simp <;> grind))
  obtain ⟨-, n1, d1⟩ := div_ok (k := k) hk g1.1 g1.2.2.1 (by omega)
  obtain ⟨-, n2, d2⟩ := div_ok (k := k) hk g1.2.1 g1.2.2.2 (by omega)
  have hP1 := pow2_one k
  have hP5 : ((2 ^ k : Nat) : Rat) ≤ 512 := Rat.natCast_le_natCast.2 (show 2 ^ k ≤ 2 ^ 9 from Nat.pow_le_pow_right (by decide) hk)
  have hB0 := rootWB.le (2 ^ (9 - k) * p)
  have hBu := rootWB.unit (2 ^ (9 - k) * p)
  generalize dftC (evC A B k) WB k p = R at *
  -- the quotients
  have hy : Le (rl ((2 ^ k : Nat) : Rat) * cval (divB k (fwdB k fa) (fwdB k fb) p) - cval (invB k (fwdB k fa) (fwdB k fb) p)) (((2 ^ k : Nat) : Rat) * (41 / 10 * uu * Q39)) := by
    have r1 := l1.re
    have r2 := l1.im
    have a1 := Rat.mul_le_mul_of_nonneg_left r1 (show 0 ≤ 2 * uu by grind)
    have a2 := Rat.mul_le_mul_of_nonneg_left r2 (show 0 ≤ 2 * uu by grind)
    have h := Le.of_parts (z := rl ((2 ^ k : Nat) : Rat) * cval (divB k (fwdB k fa) (fwdB k fb) p) - cval (invB k (fwdB k fa) (fwdB k fb) p)) (a := 2 * uu * (1022 / 1000 * (((2 ^ k : Nat) : Rat) * Q39)) + 2 * eta * ((2 ^ k : Nat) : Rat)) (b := 2 * uu * (1022 / 1000 * (((2 ^ k : Nat) : Rat) * Q39)) + 2 * eta * ((2 ^ k : Nat) : Rat))
      (by
        have e : (rl ((2 ^ k : Nat) : Rat) * cval (divB k (fwdB k fa) (fwdB k fb) p) - cval (invB k (fwdB k fa) (fwdB k fb) p)).re = fval (fdiv (invB k (fwdB k fa) (fwdB k fb) p).1 (fi ((2 ^ k : Nat) : Int))) * ((2 ^ k : Nat) : Rat) - fval (invB k (fwdB k fa) (fwdB k fb) p).1 := by
          simp [rl, cval, divB]; grind
        rw [e]
        have a3 : 2 * uu * ab (fval (invB k (fwdB k fa) (fwdB k fb) p).1) ≤ _ := a1
        grind)
      (by
        have e : (rl ((2 ^ k : Nat) : Rat) * cval (divB k (fwdB k fa) (fwdB k fb) p) - cval (invB k (fwdB k fa) (fwdB k fb) p)).im = fval (fdiv (invB k (fwdB k fa) (fwdB k fb) p).2 (fi ((2 ^ k : Nat) : Int))) * ((2 ^ k : Nat) : Rat) - fval (invB k (fwdB k fa) (fwdB k fb) p).2 := by
          simp [rl, cval, divB]; grind
        rw [e]
        have a3 : 2 * uu * ab (fval (invB k (fwdB k fa) (fwdB k fb) p).2) ≤ _ := a2
        grind)
    refine h.mono ?_
    have b3 : eta * 1000 ≤ uu := by
      have h1 := z2_mono (a := -1075) (b := -80) (by decide)
      have h2 : (2 : Rat) ^ (-80 : Int) * ((2 ^ 80 : Nat) : Rat) = 1 := by rw [← z2_split (a := -80) (b := 0) (n := 80) (by omega), Rat.zpow_zero]
      have h3 : ((2 ^ 80 : Nat) : Rat) = 1208925819614629174706176 := rfl
      rw [h3] at h2
      unfold eta uu
      grind
    have b4 := Rat.mul_le_mul_of_nonneg_right b3 (show 0 ≤ ((2 ^ k : Nat) : Rat) by grind)
    have b6 : 0 ≤ uu * ((2 ^ k : Nat) : Rat) := Rat.mul_nonneg (Rat.le_of_lt u0) (by grind)
    have b5 : uu * ((2 ^ k : Nat) : Rat) * 1 ≤ uu * ((2 ^ k : Nat) : Rat) * Q39 := Rat.mul_le_mul_of_nonneg_left (by unfold Q39; grind) b6
    exact out_ar b4 b5 b6
  have hQ0 : 0 < Q39 := by unfold Q39; grind
  have huQ : 0 ≤ uu * Q39 := Rat.mul_nonneg (Rat.le_of_lt u0) (Rat.le_of_lt hQ0)
  have huQ2 := Rat.mul_le_mul_of_nonneg_right us (Rat.le_of_lt hQ0)
  have hn0 : 0 < ((2 ^ k : Nat) : Rat) := by grind
  have hyl : Le (cval (divB k (fwdB k fa) (fwdB k fb) p)) (1023 / 1000 * Q39) := by
    apply Le.unscale hn0 (by grind)
    refine ((hy.add l1).of_eq (show _ = rl ((2 ^ k : Nat) : Rat) * cval (divB k (fwdB k fa) (fwdB k fb) p) by (apply Cx.ext' <;> simp <;> grind))).mono ?_
    have := Rat.mul_le_mul_of_nonneg_left huQ2 (show 0 ≤ ((2 ^ k : Nat) : Rat) by grind)
    have := Rat.mul_nonneg (show 0 ≤ ((2 ^ k : Nat) : Rat) by grind) (Rat.le_of_lt hQ0)
    grind
  have hGd : Gd 41 (divB k (fwdB k fa) (fwdB k fb) p) := by
    have hle : 1023 / 1000 * Q39 ≤ 2 ^ ((41 : Nat) : Int) := by
      rw [z2_nat, show ((2 ^ 41 : Nat) : Rat) = 2199023255552 from rfl]
      unfold Q39; grind
    exact ⟨n1, n2, Rat.le_trans hyl.re hle, Rat.le_trans hyl.im hle⟩
  obtain ⟨-, -, -, -, -, -, m1, m2⟩ := cmulB_ok hGd t3 (by omega)
  refine ⟨hGd, m1, ?_⟩
  -- y near R / n
  have hyR : Le (rl ((2 ^ k : Nat) : Rat) * (cval (divB k (fwdB k fa) (fwdB k fb) p) * WB (2 ^ (9 - k) * p) - ⟨cAt A B (2 * 2 ^ k) p, -cAt A B (2 * 2 ^ k) (2 ^ k + p)⟩)) (((2 ^ k : Nat) : Rat) * (1508 * uu * Q39)) := by
    have h1 := ((hy.add l2).mul hB0).add hin
    refine (h1.of_eq ?_).mono ?_
    · (apply Cx.ext' <;> simp <;> grind)
    · have w1 : 1729382256910270464 * ew ≤ uu / 1000 := by unfold ew uu; grind
      have w2 : uu * 1 ≤ uu * Q39 := Rat.mul_le_mul_of_nonneg_left (by unfold Q39; grind) (Rat.le_of_lt u0)
      have w3 := Rat.mul_le_mul_of_nonneg_right hP1 huQ
      grind
  have hyR2 := Le.unscale hn0 (by grind) hyR
  generalize cval (divB k (fwdB k fa) (fwdB k fb) p) = y at *
  have hcw : Le (cval (conjB (tabB (k + 2) p))) (1 + 50 * uu) := (hB0.add hwW).of_eq (by (apply Cx.ext' <;> simp <;> grind))
  generalize cval (conjB (tabB (k + 2) p)) = w at *
  generalize WB (2 ^ (9 - k) * p) = v at *
  have hz : Le (cval (outB k (fwdB k fa) (fwdB k fb) p) - y * w) (5 * uu * Q39) := by
    refine ⟨by grind, ?_⟩
    show nsq (cval (cmulB (divB k (fwdB k fa) (fwdB k fb) p) (conjB (tabB (k + 2) p))) - y * w) ≤ _
    have a1 := (hyl.mul hcw).2
    rw [nsq_mul] at a1
    have a2 : 1023 / 1000 * Q39 * (1 + 50 * uu) ≤ 1024 / 1000 * Q39 := by grind
    have a3 := sq_mono (Rat.mul_nonneg (show 0 ≤ 1023 / 1000 * Q39 by grind) (show 0 ≤ 1 + 50 * uu by grind)) a2
    have a4 := Rat.mul_le_mul_of_nonneg_left (show nsq y * nsq w ≤ 1024 / 1000 * Q39 * (1024 / 1000 * Q39) by grind) (show 0 ≤ 18 * (uu * uu) by have := sq_nonneg uu; grind)
    have a5 := eta_tiny
    have a6 : uu * uu * 1 ≤ uu * uu * (Q39 * Q39) := Rat.mul_le_mul_of_nonneg_left (by unfold Q39; grind) (sq_nonneg uu)
    have a7 := sq_nonneg uu
    exact out_ar2 m2 a4 a5 a6 a7
  have ht := (hz.add (hyl.mul hwW)).add hyR2
  refine (ht.of_eq (by (apply Cx.ext' <;> simp <;> grind))).mono ?_
  have k1 : 1023 / 1000 * Q39 * (50 * uu) = 5115 / 100 * (uu * Q39) := by grind
  rw [k1]
  unfold Q39 uu
  grind
end Go.Proofs.Ygctag
