import Derived.Test.YgctagFftP
namespace Go.Proofs.Ygctag

/-- Passes, each butterfly with its own error. X t b j: the cell j of block b after t passes. -/
def BF (W : Nat → Cx) (k : Nat) (X : Nat → Nat → Nat → Cx) : Prop := ∀ t b j, t + 1 ≤ k → b < 2 ^ (k - (t + 1)) → j < 2 ^ t →
  nsq (X (t + 1) b j - (X t (2 * b) j + W (2 ^ (10 - t) * j) * X t (2 * b + 1) j)) ≤ kk * kk * (nsq (X t (2 * b) j) + nsq (X t (2 * b + 1) j)) + 5000 * (eta * eta) ∧
  nsq (X (t + 1) b (2 ^ t + j) - (X t (2 * b) j - W (2 ^ (10 - t) * j) * X t (2 * b + 1) j)) ≤ kk * kk * (nsq (X t (2 * b) j) + nsq (X t (2 * b + 1) j)) + 5000 * (eta * eta)

/-- The sum over all cells. -/
def S2 (F : Nat → Nat → Nat → Rat) (k t : Nat) : Rat := sumR (fun b => sumR (fun j => F t b j) (2 ^ t)) (2 ^ (k - t))
theorem S2_up (F : Nat → Nat → Nat → Rat) (k t : Nat) : S2 F k (t + 1) = sumR (fun b => sumR (fun j => F (t + 1) b j + F (t + 1) b (2 ^ t + j)) (2 ^ t)) (2 ^ (k - (t + 1))) := by
  unfold S2
  refine sumR_congr fun b _ => ?_
  rw [Nat.pow_succ, Nat.mul_two, sumR_split, ← sumR_add]
theorem S2_dn (F : Nat → Nat → Nat → Rat) (k t : Nat) (h : t + 1 ≤ k) : S2 F k t = sumR (fun b => sumR (fun j => F t (2 * b) j + F t (2 * b + 1) j) (2 ^ t)) (2 ^ (k - (t + 1))) := by
  unfold S2
  rw [show 2 ^ (k - t) = 2 * 2 ^ (k - (t + 1)) by rw [← Nat.pow_succ']; congr 1; omega, sumR_parity, ← sumR_add]
  refine sumR_congr fun b _ => ?_
  rw [← sumR_add]
/-- A bound for each pair bounds the sums. -/
theorem S2_le (F G : Nat → Nat → Nat → Rat) (k t : Nat) (h : t + 1 ≤ k) (c e : Rat)
    (hp : ∀ b j, b < 2 ^ (k - (t + 1)) → j < 2 ^ t → F (t + 1) b j + F (t + 1) b (2 ^ t + j) ≤ c * (G t (2 * b) j + G t (2 * b + 1) j) + e) :
    S2 F k (t + 1) ≤ c * S2 G k t + ((2 ^ (k - 1) : Nat) : Rat) * e := by
  rw [S2_up, S2_dn G k t h]
  have h1 : sumR (fun b => sumR (fun j => F (t + 1) b j + F (t + 1) b (2 ^ t + j)) (2 ^ t)) (2 ^ (k - (t + 1))) ≤ sumR (fun b => c * sumR (fun j => G t (2 * b) j + G t (2 * b + 1) j) (2 ^ t) + ((2 ^ t : Nat) : Rat) * e) (2 ^ (k - (t + 1))) := by
    refine sumR_le fun b hb => ?_
    have h2 := sumR_le (n := 2 ^ t) (f := fun j => F (t + 1) b j + F (t + 1) b (2 ^ t + j)) (g := fun j => c * (G t (2 * b) j + G t (2 * b + 1) j) + e) (fun j hj => hp b j hb hj)
    have e2 : sumR (fun j => c * (G t (2 * b) j + G t (2 * b + 1) j) + e) (2 ^ t) = c * sumR (fun j => G t (2 * b) j + G t (2 * b + 1) j) (2 ^ t) + ((2 ^ t : Nat) : Rat) * e := by
      rw [sumR_add (fun j => c * (G t (2 * b) j + G t (2 * b + 1) j)) (fun _ => e), sumR_mul, sumR_const]
    rw [e2] at h2
    exact h2
  rw [sumR_add (fun b => c * sumR (fun j => G t (2 * b) j + G t (2 * b + 1) j) (2 ^ t)) (fun _ => ((2 ^ t : Nat) : Rat) * e), sumR_mul, sumR_const] at h1
  have e1 : ((2 ^ (k - (t + 1)) : Nat) : Rat) * (((2 ^ t : Nat) : Rat) * e) = ((2 ^ (k - 1) : Nat) : Rat) * e := by
    rw [← Rat.mul_assoc, ← Rat.natCast_mul, ← Nat.pow_add]
    congr 3
    omega
  rw [e1] at h1
  exact h1
theorem S2_two (F G H : Nat → Nat → Nat → Rat) (k t : Nat) (c d : Rat) (hp : ∀ b j, F t b j = c * G t b j + d * H t b j) : S2 F k t = c * S2 G k t + d * S2 H k t := by
  unfold S2
  rw [← sumR_mul, ← sumR_mul, ← sumR_add]
  refine sumR_congr fun b _ => ?_
  rw [← sumR_mul, ← sumR_mul, ← sumR_add]
  exact sumR_congr fun j _ => hp b j

theorem kk_pos : 0 < kk := by unfold kk; have := uu_pos; grind
theorem kk_small : kk ≤ 1 / 10000 := by unfold kk uu; grind
theorem eta_tiny : eta * eta * 1000000000000 ≤ uu * uu := by
  have e2 : eta ≤ 1 / 1000000 * uu := by
    have h1 := z2_mono (a := -1075) (b := -80) (by decide)
    have h2 : (2 : Rat) ^ (-80 : Int) * ((2 ^ 80 : Nat) : Rat) = 1 := by rw [← z2_split (a := -80) (b := 0) (n := 80) (by omega), Rat.zpow_zero]
    have h3 : ((2 ^ 80 : Nat) : Rat) = 1208925819614629174706176 := rfl
    rw [h3] at h2
    unfold eta uu
    grind
  have := sq_mono (Rat.le_of_lt eta_pos) e2
  grind
theorem pow512 (k : Nat) (h : k ≤ 9) : ((2 ^ (k - 1) : Nat) : Rat) ≤ 256 := by
  have h1 : 2 ^ (k - 1) ≤ 2 ^ 8 := Nat.pow_le_pow_right (by decide) (by omega)
  have := Rat.natCast_le_natCast.2 h1
  rw [show ((2 ^ 8 : Nat) : Rat) = 256 from rfl] at this
  exact this

/-- The growth of the whole: a little more than doubled. -/
theorem norm_step (W : Nat → Cx) (hW : Root W) (k : Nat) (hk : k ≤ 9) (X : Nat → Nat → Nat → Cx) (hB : BF W k X) (t : Nat) (ht : t + 1 ≤ k) (B : Rat) (hB1 : 1 ≤ B) (h : S2 (fun t b j => nsq (X t b j)) k t ≤ B) :
    S2 (fun t b j => nsq (X t b j)) k (t + 1) ≤ 2 * (1 + 1 / 512) * B := by
  have hkk : kk * kk ≤ 1 / 100000000 := by
    have := sq_mono (Rat.le_of_lt kk_pos) kk_small
    grind
  have hkk2 : kk * kk * 1000000000 ≤ 1 := by unfold kk uu; grind
  have he := eta_tiny
  have hu : uu * uu ≤ 1 / 1000000000000 := by unfold uu; grind
  have h2 := S2_le (fun t b j => nsq (X t b j)) (fun t b j => nsq (X t b j)) k t ht (2 * (1 + 1 / 1000)) (11000000 * (eta * eta)) (fun b j hb hj => by
    obtain ⟨r1, r2⟩ := hB t b j ht hb hj
    generalize X t (2 * b) j = p at *
    generalize X t (2 * b + 1) j = q at *
    have hw := hW.unit (2 ^ (10 - t) * j)
    generalize W (2 ^ (10 - t) * j) = w at *
    have y1 := nsq_young (p + w * q) (X (t + 1) b j - (p + w * q)) (1 / 1024) (by decide +kernel)
    have y2 := nsq_young (p - w * q) (X (t + 1) b (2 ^ t + j) - (p - w * q)) (1 / 1024) (by decide +kernel)
    rw [show p + w * q + (X (t + 1) b j - (p + w * q)) = X (t + 1) b j by (apply Cx.ext' <;> simp <;> grind)] at y1
    rw [show p - w * q + (X (t + 1) b (2 ^ t + j) - (p - w * q)) = X (t + 1) b (2 ^ t + j) by (apply Cx.ext' <;> simp <;> grind)] at y2
    have hp := nsq_pair p (w * q)
    rw [nsq_mul, hw, Rat.one_mul] at hp
    have p0 := nsq_nonneg p
    have q0 := nsq_nonneg q
    have k1 : kk * kk * (nsq p + nsq q) ≤ 1 / 1000000000 * (nsq p + nsq q) := Rat.mul_le_mul_of_nonneg_right (by grind) (by grind)
    have e0 := sq_nonneg eta
    grind)
  have h3 := pow512 k hk
  have e0 := sq_nonneg eta
  have h4 := Rat.mul_le_mul_of_nonneg_right h3 (show 0 ≤ 11000000 * (eta * eta) by grind)
  grind

theorem pair_arith {P1 Q1 S1 S3 R1 R2 dp dq np nq i s K T : Rat} (y1 : P1 ≤ (1 + s) * S1 + i * R1) (y2 : Q1 ≤ (1 + s) * S3 + i * R2) (hp : S1 + S3 = 2 * (dp + dq)) (hm : i * (R1 + R2) ≤ i * (2 * (K * (np + nq)) + T)) :
    P1 + Q1 ≤ 2 * ((1 + s) * dp + i * K * np + ((1 + s) * dq + i * K * nq)) + i * T := by
  have h : (1 + s) * S1 + (1 + s) * S3 = (1 + s) * (2 * (dp + dq)) := by rw [← hp, Rat.mul_add]
  grind
/-- The errors' step: the L2 norm of the error grows by 50 u of the whole. -/
theorem err_step (W : Nat → Cx) (hW : Root W) (k : Nat) (hk : k ≤ 9) (X E : Nat → Nat → Nat → Cx) (e0 : Rat) (he0 : e0 * e0 * 1000000000000 ≤ uu * uu) (hB : BF W k X)
    (hE : ∀ t b j, t + 1 ≤ k → b < 2 ^ (k - (t + 1)) → j < 2 ^ t → Le (E (t + 1) b j - (E t (2 * b) j + W (2 ^ (10 - t) * j) * E t (2 * b + 1) j)) e0 ∧ Le (E (t + 1) b (2 ^ t + j) - (E t (2 * b) j - W (2 ^ (10 - t) * j) * E t (2 * b + 1) j)) e0)
    (t : Nat) (ht : t + 1 ≤ k) (Q A : Rat) (hQ : 1 ≤ Q) (hA : 0 < A) (hX : S2 (fun t b j => nsq (X t b j)) k t ≤ 102 / 100 * Q) (hD : S2 (fun t b j => nsq (X t b j - E t b j)) k t ≤ A * A * Q) :
    S2 (fun t b j => nsq (X t b j - E t b j)) k (t + 1) ≤ 2 * ((A + 50 * uu) * (A + 50 * uu) * Q) := by
  have u0 := uu_pos
  have hs : 0 < 50 * uu / A := by
    have : 50 * uu / A * A = 50 * uu := by grind
    rcases Rat.le_total (a := 50 * uu / A) (b := 0) with h | h
    · exfalso
      have := Rat.mul_le_mul_of_nonneg_right h (Rat.le_of_lt hA)
      grind
    · rcases Rat.le_iff_lt_or_eq.1 h with h1 | h1
      · exact h1
      · exfalso; grind
  obtain ⟨s, hse⟩ : ∃ s, s = 50 * uu / A := ⟨_, rfl⟩
  rw [← hse] at hs
  have hsA : s * A = 50 * uu := by rw [hse]; grind
  -- pair by pair
  have h2 := S2_le (fun t b j => nsq (X t b j - E t b j)) (fun t b j => (1 + s) * nsq (X t b j - E t b j) + (1 + 1 / s) * (101 / 100 * (kk * kk)) * nsq (X t b j)) k t ht 2 ((1 + 1 / s) * (20200 * (eta * eta) + 202 * (e0 * e0))) (fun b j hb hj => by
    obtain ⟨r1, r2⟩ := hB t b j ht hb hj
    obtain ⟨f1, f2⟩ := hE t b j ht hb hj
    have f1 := f1.2
    have f2 := f2.2
    generalize X t (2 * b) j = p at *
    generalize X t (2 * b + 1) j = q at *
    generalize E t (2 * b) j = a at *
    generalize E t (2 * b + 1) j = c at *
    have hw := hW.unit (2 ^ (10 - t) * j)
    generalize W (2 ^ (10 - t) * j) = w at *
    generalize X (t + 1) b j = p1 at *
    generalize X (t + 1) b (2 ^ t + j) = q1 at *
    generalize E (t + 1) b j = a1 at *
    generalize E (t + 1) b (2 ^ t + j) = c1 at *
    have y1 := nsq_young ((p - a) + w * (q - c)) ((p1 - (p + w * q)) - (a1 - (a + w * c))) s hs
    have y2 := nsq_young ((p - a) - w * (q - c)) ((q1 - (p - w * q)) - (c1 - (a - w * c))) s hs
    rw [show (p - a) + w * (q - c) + ((p1 - (p + w * q)) - (a1 - (a + w * c))) = p1 - a1 by (apply Cx.ext' <;> simp <;> grind)] at y1
    rw [show (p - a) - w * (q - c) + ((q1 - (p - w * q)) - (c1 - (a - w * c))) = q1 - c1 by (apply Cx.ext' <;> simp <;> grind)] at y2
    have hp := nsq_pair (p - a) (w * (q - c))
    rw [nsq_mul, hw, Rat.one_mul] at hp
    have z1 := nsq_young (p1 - (p + w * q)) (-(a1 - (a + w * c))) (1 / 100) (by decide +kernel)
    have z2 := nsq_young (q1 - (p - w * q)) (-(c1 - (a - w * c))) (1 / 100) (by decide +kernel)
    rw [nsq_neg, show (p1 - (p + w * q)) + -(a1 - (a + w * c)) = (p1 - (p + w * q)) - (a1 - (a + w * c)) by (apply Cx.ext' <;> simp <;> grind)] at z1
    rw [nsq_neg, show (q1 - (p - w * q)) + -(c1 - (a - w * c)) = (q1 - (p - w * q)) - (c1 - (a - w * c)) by (apply Cx.ext' <;> simp <;> grind)] at z2
    have hsum : nsq ((p1 - (p + w * q)) - (a1 - (a + w * c))) + nsq ((q1 - (p - w * q)) - (c1 - (a - w * c))) ≤ 2 * (101 / 100 * (kk * kk) * (nsq p + nsq q)) + (20200 * (eta * eta) + 202 * (e0 * e0)) := by
      have e1 := sq_nonneg eta
      grind
    have hinv : 0 ≤ 1 + 1 / s := by
      have : 0 ≤ 1 / s := by
        have h3 : s * (1 / s) = 1 := by grind
        rcases Rat.le_total (a := 0) (b := 1 / s) with h | h
        · exact h
        · exfalso
          have := Rat.mul_le_mul_of_nonneg_left h (Rat.le_of_lt hs)
          grind
      grind
    have hm := Rat.mul_le_mul_of_nonneg_left hsum hinv
    exact pair_arith y1 y2 hp hm)
  have e1 : S2 (fun t b j => (1 + s) * nsq (X t b j - E t b j) + (1 + 1 / s) * (101 / 100 * (kk * kk)) * nsq (X t b j)) k t = (1 + s) * S2 (fun t b j => nsq (X t b j - E t b j)) k t + (1 + 1 / s) * (101 / 100 * (kk * kk)) * S2 (fun t b j => nsq (X t b j)) k t :=
    S2_two _ (fun t b j => nsq (X t b j - E t b j)) (fun t b j => nsq (X t b j)) k t _ _ (fun _ _ => rfl)
  rw [e1] at h2
  have h3 := pow512 k hk
  have hinv : 0 ≤ 1 / s := by
    have h3 : s * (1 / s) = 1 := by grind
    rcases Rat.le_total (a := 0) (b := 1 / s) with h | h
    · exact h
    · exfalso
      have := Rat.mul_le_mul_of_nonneg_left h (Rat.le_of_lt hs)
      grind
  have hiA : 1 / s * (50 * uu) = A := by
    rw [← hsA]; grind
  generalize S2 (fun t b j => nsq (X t b j - E t b j)) k t = D at *
  generalize S2 (fun t b j => nsq (X t b j)) k t = N at *
  -- all that is added, at most (50 u)^2 Q
  have hu2 : 0 < uu * uu := Rat.mul_pos u0 u0
  have hadd : 101 / 100 * (kk * kk) * N + 128 * (20200 * (eta * eta) + 202 * (e0 * e0)) ≤ (50 * uu) * (50 * uu) * Q := by
    have a1 : 101 / 100 * (kk * kk) * N ≤ 101 / 100 * (kk * kk) * (102 / 100 * Q) := Rat.mul_le_mul_of_nonneg_left hX (by have := sq_nonneg kk; grind)
    have a2 := eta_tiny
    have a3 : uu * uu * 1 ≤ uu * uu * Q := Rat.mul_le_mul_of_nonneg_left hQ (Rat.le_of_lt hu2)
    unfold kk at a1 ⊢
    grind
  have b1 : (1 + s) * D ≤ (1 + s) * (A * A * Q) := Rat.mul_le_mul_of_nonneg_left hD (by grind)
  have b2 := Rat.mul_le_mul_of_nonneg_left hadd (show 0 ≤ 1 + 1 / s by grind)
  have b3 : ((2 ^ (k - 1) : Nat) : Rat) * ((1 + 1 / s) * (20200 * (eta * eta) + 202 * (e0 * e0))) ≤ 256 * ((1 + 1 / s) * (20200 * (eta * eta) + 202 * (e0 * e0))) := Rat.mul_le_mul_of_nonneg_right h3 (Rat.mul_nonneg (by grind) (by have := sq_nonneg eta; have := sq_nonneg e0; grind))
  have c1 : (1 + s) * (A * A * Q) = A * A * Q + 50 * uu * A * Q := by rw [← hsA]; grind
  have c2 : (1 + 1 / s) * ((50 * uu) * (50 * uu) * Q) = (50 * uu) * (50 * uu) * Q + A * (50 * uu) * Q := by
    rw [← hiA]; grind
  generalize 1 / s = i at *
  grind
end Go.Proofs.Ygctag
