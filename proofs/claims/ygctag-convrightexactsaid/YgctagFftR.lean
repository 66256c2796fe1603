import Derived.Test.YgctagFftQ
namespace Go.Proofs.Ygctag

theorem cast_succ (t : Nat) : ((t + 1 : Nat) : Rat) = (t : Rat) + 1 := by rw [Rat.natCast_add]; rfl
theorem pow2_succ (t : Nat) : ((2 ^ (t + 1) : Nat) : Rat) = 2 * ((2 ^ t : Nat) : Rat) := by rw [Nat.pow_succ', Rat.natCast_mul]; rfl
theorem pow2_one (t : Nat) : (1 : Rat) ≤ ((2 ^ t : Nat) : Rat) := by
  have : ((1 : Nat) : Rat) ≤ ((2 ^ t : Nat) : Rat) := Rat.natCast_le_natCast.2 (Nat.two_pow_pos t)
  exact this

/-- The exact blocks' own step. -/
def ExStep (W : Nat → Cx) (k : Nat) (E : Nat → Nat → Nat → Cx) (e0 : Rat) : Prop := ∀ t b j, t + 1 ≤ k → b < 2 ^ (k - (t + 1)) → j < 2 ^ t → Le (E (t + 1) b j - (E t (2 * b) j + W (2 ^ (10 - t) * j) * E t (2 * b + 1) j)) e0 ∧ Le (E (t + 1) b (2 ^ t + j) - (E t (2 * b) j - W (2 ^ (10 - t) * j) * E t (2 * b + 1) j)) e0

/-- All passes, in the L2 norm. -/
theorem l2_all (W : Nat → Cx) (hW : Root W) (k : Nat) (hk : k ≤ 9) (X E : Nat → Nat → Nat → Cx) (e0 : Rat) (he0 : e0 * e0 * 1000000000000 ≤ uu * uu) (hB : BF W k X) (hE : ExStep W k E e0)
    (Q a : Rat) (hQ : 1 ≤ Q) (ha : 0 < a) (hX : S2 (fun t b j => nsq (X t b j)) k 0 ≤ Q) (hD : S2 (fun t b j => nsq (X t b j - E t b j)) k 0 ≤ a * a * Q) (t : Nat) (ht : t ≤ k) :
    S2 (fun t b j => nsq (X t b j)) k t ≤ ((2 ^ t : Nat) : Rat) * ((1 + (t : Rat) / 450) * Q) ∧
    S2 (fun t b j => nsq (X t b j - E t b j)) k t ≤ (a + (t : Rat) * (50 * uu)) * (a + (t : Rat) * (50 * uu)) * (((2 ^ t : Nat) : Rat) * Q) := by
  have u0 := uu_pos
  induction t with
  | zero =>
    rw [show ((2 ^ 0 : Nat) : Rat) = 1 from rfl, show ((0 : Nat) : Rat) = 0 from rfl]
    exact ⟨by grind, by grind⟩
  | succ t ih =>
    obtain ⟨i1, i2⟩ := ih (by omega)
    have hP := pow2_one t
    have ht0 : (0 : Rat) ≤ (t : Rat) := Rat.natCast_nonneg
    have ht9 : (t : Rat) ≤ 8 := by
      have := Rat.natCast_le_natCast.2 (show t ≤ 8 by omega)
      exact this
    rw [pow2_succ, cast_succ]
    generalize ((2 ^ t : Nat) : Rat) = P at *
    generalize (t : Rat) = T at *
    have hPQ : 1 ≤ P * Q := by
      have := Rat.mul_le_mul_of_nonneg_left hQ (show 0 ≤ P by grind)
      grind
    have hg1 : (1 : Rat) ≤ (1 + T / 450) := by grind
    have hg2 : (1 + T / 450) ≤ 102 / 100 := by grind
    refine ⟨?_, ?_⟩
    · have hB1 : 1 ≤ P * ((1 + T / 450) * Q) := by
        have := Rat.mul_le_mul_of_nonneg_right hg1 (show 0 ≤ P * Q by grind)
        grind
      have h := norm_step W hW k hk X hB t ht _ hB1 i1
      have h2 : 2 * (1 + 1 / 512) * (P * ((1 + T / 450) * Q)) ≤ 2 * (1 + (T + 1) / 450) * (P * Q) := by
        have : (1 + 1 / 512) * (1 + T / 450) ≤ 1 + (T + 1) / 450 := by grind
        have := Rat.mul_le_mul_of_nonneg_right this (show 0 ≤ P * Q by grind)
        grind
      grind
    · have hA : 0 < a + T * (50 * uu) := by
        have := Rat.mul_nonneg ht0 (show 0 ≤ 50 * uu by grind)
        grind
      have hX2 : S2 (fun t b j => nsq (X t b j)) k t ≤ 102 / 100 * (P * Q) := by
        have := Rat.mul_le_mul_of_nonneg_right hg2 (show 0 ≤ P * Q by grind)
        grind
      have h := err_step W hW k hk X E e0 he0 hB hE t ht (P * Q) (a + T * (50 * uu)) hPQ hA hX2 i2
      rw [show a + (T + 1) * (50 * uu) = a + T * (50 * uu) + 50 * uu by grind]
      grind

/-- The sum over a block. -/
def bsum (f : Nat → Rat) (t b : Nat) : Rat := sumR (fun i => f (b * 2 ^ t + i)) (2 ^ t)
theorem bsum_up (f : Nat → Rat) (t b : Nat) : bsum f (t + 1) b = bsum f t (2 * b) + bsum f t (2 * b + 1) := by
  unfold bsum
  rw [Nat.pow_succ, Nat.mul_two, sumR_split]
  congr 1
  · exact sumR_congr fun i _ => by congr 1; rw [Nat.mul_add, ← Nat.two_mul, Nat.mul_assoc, Nat.mul_left_comm]
  · exact sumR_congr fun i _ => by congr 1; rw [Nat.add_mul, Nat.one_mul, Nat.mul_add, Nat.mul_assoc, Nat.two_mul (b * 2 ^ t)]; omega
theorem bsum_nonneg {f : Nat → Rat} (h : ∀ i, 0 ≤ f i) (t b : Nat) : 0 ≤ bsum f t b := sumR_nonneg fun _ _ => h _

/-- The bound of one butterfly's own error. -/
theorem own_le {r p q : Cx} {m n : Rat} (h : nsq r ≤ kk * kk * (nsq p + nsq q) + 5000 * (eta * eta)) (hp : Le p m) (hq : Le q n) (hm : 1 ≤ m) (hn : 1 ≤ n) : Le r (50 * uu * (m + n)) := by
  have u0 := uu_pos
  refine ⟨Rat.mul_nonneg (by grind) (by grind), ?_⟩
  have h1 := hp.2
  have h2 := hq.2
  have k0 := sq_nonneg kk
  have hmn : 0 ≤ m * n := Rat.mul_nonneg (by grind) (by grind)
  have h3 := Rat.mul_le_mul_of_nonneg_left (show nsq p + nsq q ≤ (m + n) * (m + n) by grind) k0
  have he := eta_tiny
  have hmm : 1 ≤ (m + n) * (m + n) := by
    have := sq_mono (x := 1) (y := m + n) (by decide) (by grind)
    grind
  have hu2 := sq_nonneg uu
  have h4 := Rat.mul_le_mul_of_nonneg_left hmm hu2
  unfold kk at *
  grind

/-- All passes, from the sum of the moduli. -/
theorem l1_all (W : Nat → Cx) (hW : Root W) (k : Nat) (hk : k ≤ 9) (X E : Nat → Nat → Nat → Cx) (e0 : Rat) (he0 : e0 ≤ uu) (hB : BF W k X) (hE : ExStep W k E e0)
    (L d : Nat → Rat) (hL1 : ∀ i, 1 ≤ L i) (hX : ∀ b, b < 2 ^ k → Le (X 0 b 0) (L b)) (hD : ∀ b, b < 2 ^ k → Le (X 0 b 0 - E 0 b 0) (d b)) (t : Nat) (ht : t ≤ k) :
    ∀ b j, b < 2 ^ (k - t) → j < 2 ^ t → Le (X t b j) ((1 + (t : Rat) * (51 * uu)) * bsum L t b) ∧ Le (X t b j - E t b j) (bsum d t b + (t : Rat) * (52 * uu) * bsum L t b) := by
  have u0 := uu_pos
  have us := uu_small
  have hLb : ∀ t b, 1 ≤ bsum L t b := fun t b => by
    have h := sumR_le (n := 2 ^ t) (f := fun _ => 1) (g := fun i => L (b * 2 ^ t + i)) (fun i _ => hL1 _)
    rw [sumR_const] at h
    have := pow2_one t
    unfold bsum
    grind
  induction t with
  | zero =>
    intro b j hb hj
    have hj0 : j = 0 := by rw [Nat.pow_zero] at hj; omega
    subst hj0
    have e1 : ∀ f : Nat → Rat, bsum f 0 b = f b := fun f => by
      unfold bsum
      show (0 : Rat) + f (b * 1 + 0) = f b
      rw [Nat.mul_one, Nat.add_zero]; grind
    rw [e1, e1, show ((0 : Nat) : Rat) = 0 from rfl]
    exact ⟨(hX b hb).mono (by grind), (hD b hb).mono (by grind)⟩
  | succ t ih =>
    intro b j hb hj
    have ht0 : (0 : Rat) ≤ (t : Rat) := Rat.natCast_nonneg
    have ht9 : (t : Rat) ≤ 8 := Rat.natCast_le_natCast.2 (show t ≤ 8 by omega)
    have key : ∀ j', j' < 2 ^ t → (Le (X (t + 1) b j') ((1 + ((t : Rat) + 1) * (51 * uu)) * bsum L (t + 1) b) ∧ Le (X (t + 1) b j' - E (t + 1) b j') (bsum d (t + 1) b + ((t : Rat) + 1) * (52 * uu) * bsum L (t + 1) b)) ∧
        (Le (X (t + 1) b (2 ^ t + j')) ((1 + ((t : Rat) + 1) * (51 * uu)) * bsum L (t + 1) b) ∧ Le (X (t + 1) b (2 ^ t + j') - E (t + 1) b (2 ^ t + j')) (bsum d (t + 1) b + ((t : Rat) + 1) * (52 * uu) * bsum L (t + 1) b)) := by
      intro j' hj'
      have hb2 : 2 * b + 1 < 2 ^ (k - t) := by
        rw [show 2 ^ (k - t) = 2 * 2 ^ (k - (t + 1)) by rw [← Nat.pow_succ']; congr 1; omega]; omega
      obtain ⟨a1, a2⟩ := ih (by omega) (2 * b) j' (by omega) hj'
      obtain ⟨b1, b2⟩ := ih (by omega) (2 * b + 1) j' hb2 hj'
      obtain ⟨r1, r2⟩ := hB t b j' ht hb hj'
      obtain ⟨f1, f2⟩ := hE t b j' ht hb hj'
      have l1 := hLb t (2 * b)
      have l2 := hLb t (2 * b + 1)
      rw [bsum_up, bsum_up]
      generalize bsum L t (2 * b) = L1 at *
      generalize bsum L t (2 * b + 1) = L2 at *
      generalize bsum d t (2 * b) = d1 at *
      generalize bsum d t (2 * b + 1) = d2 at *
      generalize X t (2 * b) j' = p at *
      generalize X t (2 * b + 1) j' = q at *
      generalize E t (2 * b) j' = a at *
      generalize E t (2 * b + 1) j' = c at *
      have hw := hW.le (2 ^ (10 - t) * j')
      generalize W (2 ^ (10 - t) * j') = w at *
      generalize X (t + 1) b j' = p1 at *
      generalize X (t + 1) b (2 ^ t + j') = q1 at *
      generalize E (t + 1) b j' = e1 at *
      generalize E (t + 1) b (2 ^ t + j') = e2 at *
      generalize (t : Rat) = T at *
      have hTu : 0 ≤ T * (51 * uu) := Rat.mul_nonneg ht0 (by grind)
      have hTu2 : T * (51 * uu) ≤ 1 / 1000 := by
        have := Rat.mul_le_mul_of_nonneg_right ht9 (show 0 ≤ 51 * uu by grind)
        grind
      have m1 : 1 ≤ (1 + T * (51 * uu)) * L1 := by
        have := Rat.mul_le_mul_of_nonneg_right (show (1 : Rat) ≤ 1 + T * (51 * uu) by grind) (show 0 ≤ L1 by grind)
        grind
      have m2 : 1 ≤ (1 + T * (51 * uu)) * L2 := by
        have := Rat.mul_le_mul_of_nonneg_right (show (1 : Rat) ≤ 1 + T * (51 * uu) by grind) (show 0 ≤ L2 by grind)
        grind
      have o1 := own_le r1 a1 b1 m1 m2
      have o2 := own_le r2 a1 b1 m1 m2
      have hwq := hw.mul b1
      have hwd := hw.mul b2
      have hL12 : 0 ≤ L1 + L2 := by grind
      have huL : 0 ≤ uu * (L1 + L2) := Rat.mul_nonneg (Rat.le_of_lt u0) hL12
      have hgrow : T * (51 * uu) * (uu * (L1 + L2)) ≤ 1 / 1000 * (uu * (L1 + L2)) := Rat.mul_le_mul_of_nonneg_right hTu2 huL
      have hone : uu * 1 ≤ uu * (L1 + L2) := Rat.mul_le_mul_of_nonneg_left (by grind) (Rat.le_of_lt u0)
      refine ⟨⟨?_, ?_⟩, ⟨?_, ?_⟩⟩
      · exact (((a1.add hwq).add o1).of_eq (by (apply Cx.ext' <;> simp <;> grind))).mono (by grind)
      · exact (((a2.add hwd).add (o1.sub f1)).of_eq (by (apply Cx.ext' <;> simp <;> grind))).mono (by grind)
      · exact (((a1.sub hwq).add o2).of_eq (by (apply Cx.ext' <;> simp <;> grind))).mono (by grind)
      · exact (((a2.sub hwd).add (o2.sub f2)).of_eq (by (apply Cx.ext' <;> simp <;> grind))).mono (by grind)
    rw [cast_succ]
    by_cases hjl : j < 2 ^ t
    · exact (key j hjl).1
    · obtain ⟨j', rfl⟩ : ∃ j', j = 2 ^ t + j' := ⟨j - 2 ^ t, by omega⟩
      exact (key j' (by rw [Nat.pow_succ] at hj; omega)).2

/-- Turning the indices about leaves the sum. -/
theorem sumR_rev (f : Nat → Rat) (k : Nat) : sumR (fun i => f (rev k i)) (2 ^ k) = sumR f (2 ^ k) := by
  induction k generalizing f with
  | zero => rfl
  | succ k ih =>
    rw [Nat.pow_succ', sumR_parity]
    have h1 : sumR (fun i => f (rev (k + 1) (2 * i))) (2 ^ k) = sumR (fun i => f (rev k i)) (2 ^ k) := sumR_congr fun i _ => by rw [rev_even (k + 1) i (by omega)]; rfl
    have h2 : sumR (fun i => f (rev (k + 1) (2 * i + 1))) (2 ^ k) = sumR (fun i => f (2 ^ k + rev k i)) (2 ^ k) := sumR_congr fun i _ => by rw [rev_odd (k + 1) i (by omega), Nat.add_comm]; rfl
    rw [h1, h2, ih, ih (fun i => f (2 ^ k + i)), Nat.two_mul, sumR_split]
end Go.Proofs.Ygctag
