import Derived.Test.YgctagCb
namespace Go.Proofs.Ygctag

/-- What one butterfly adds to the error. -/
def kk : Rat := 49 * uu
theorem nsq_two (a b : Cx) : nsq (a + b) ≤ 2 * nsq a + 2 * nsq b := by
  have := nsq_young a b 1 (by decide)
  grind
theorem nsq_sub_two (a b : Cx) : nsq (a - b) ≤ 2 * nsq a + 2 * nsq b := by
  have := nsq_two a (-b)
  rw [nsq_neg, show a + -b = a - b by (apply Cx.ext' <;> simp <;> grind)] at this
  exact this

/-- The arithmetic of a butterfly's error. -/
theorem bfly_err (cu cq cw w v p' : Cx) (hw : nsq w = 1) (hcw : nsq (cw - w) ≤ (40 * uu) * (40 * uu))
    (h1 : nsq (v - cq * cw) ≤ 18 * (uu * uu) * (nsq cq * nsq cw) + 64 * (eta * eta))
    (h2 : nsq (p' - (cu + v)) ≤ 2 * (uu * uu) * nsq (cu + v) + 4 * (eta * eta)) :
    nsq (p' - (cu + w * cq)) ≤ kk * kk * (nsq cu + nsq cq) + 5000 * (eta * eta) := by
  have hu := uu_pos
  have hus := uu_small
  have hu2 : uu * uu ≤ 1 / 1000000000000 := by
    have a := Rat.mul_le_mul_of_nonneg_left hus (Rat.le_of_lt hu)
    have b := Rat.mul_le_mul_of_nonneg_right hus (show (0 : Rat) ≤ 1 / 1000000 by decide +kernel)
    grind
  have hu0 := sq_nonneg uu
  have he0 := sq_nonneg eta
  have u0 := nsq_nonneg cu
  have q0 := nsq_nonneg cq
  -- the table's modulus
  have hcw2 : nsq cw ≤ 101 / 100 := by
    have a := nsq_young w (cw - w) (1 / 1000) (by decide +kernel)
    rw [show w + (cw - w) = cw by (apply Cx.ext' <;> simp <;> grind), hw] at a
    grind
  have hqw : nsq cq * nsq cw ≤ 101 / 100 * nsq cq := by
    have := Rat.mul_le_mul_of_nonneg_left hcw2 q0
    grind
  have e1 : nsq (v - cq * cw) ≤ 1818 / 100 * (uu * uu * nsq cq) + 64 * (eta * eta) := by
    have := Rat.mul_le_mul_of_nonneg_left hqw hu0
    grind
  have huq := Rat.mul_nonneg hu0 q0
  have huu := Rat.mul_nonneg hu0 u0
  have huq2 : uu * uu * nsq cq ≤ 1 / 1000000000000 * nsq cq := Rat.mul_le_mul_of_nonneg_right hu2 q0
  have hv : nsq v ≤ 203 / 100 * nsq cq + 128 * (eta * eta) := by
    have a := nsq_two (cq * cw) (v - cq * cw)
    rw [show cq * cw + (v - cq * cw) = v by (apply Cx.ext' <;> simp <;> grind), nsq_mul] at a
    grind
  have hs : nsq (cu + v) ≤ 2 * nsq cu + 5 * nsq cq + 256 * (eta * eta) := by
    have := nsq_two cu v
    grind
  have e2 : nsq (p' - (cu + v)) ≤ 4 * (uu * uu * nsq cu) + 10 * (uu * uu * nsq cq) + 5 * (eta * eta) := by
    have a := Rat.mul_le_mul_of_nonneg_left hs hu0
    have b : uu * uu * (eta * eta) ≤ 1 / 1000000000000 * (eta * eta) := Rat.mul_le_mul_of_nonneg_right hu2 he0
    grind
  have e3 : nsq (cq * (cw - w)) ≤ 1600 * (uu * uu * nsq cq) := by
    rw [nsq_mul]
    have := Rat.mul_le_mul_of_nonneg_left hcw q0
    grind
  have hsum := nsq_two (v - cq * cw) (p' - (cu + v))
  have hy := nsq_young ((v - cq * cw) + (p' - (cu + v))) (cq * (cw - w)) 8 (by decide)
  have ee : (v - cq * cw) + (p' - (cu + v)) + cq * (cw - w) = p' - (cu + w * cq) := by (apply Cx.ext' <;> simp <;> grind)
  rw [ee] at hy
  unfold kk
  grind

theorem bflyB_ok {u q t : Cb} {E : Nat} (w : Cx) (hu : Gd E u) (hq : Gd E q) (ht : Gd 1 t) (hE : E ≤ 800) (hw : nsq w = 1) (htw : nsq (cval t - w) ≤ (40 * uu) * (40 * uu)) :
    Gd (E + 9) (caddB u (cmulB q t)) ∧ Gd (E + 9) (csubB u (cmulB q t)) ∧
    nsq (cval (caddB u (cmulB q t)) - (cval u + w * cval q)) ≤ kk * kk * (nsq (cval u) + nsq (cval q)) + 5000 * (eta * eta) ∧
    nsq (cval (csubB u (cmulB q t)) - (cval u - w * cval q)) ≤ kk * kk * (nsq (cval u) + nsq (cval q)) + 5000 * (eta * eta) := by
  obtain ⟨-, -, -, -, -, -, m1, m2⟩ := cmulB_ok hq ht (by omega)
  obtain ⟨-, -, a1, a2⟩ := caddB_ok (hu.mono (show E ≤ E + 1 + 5 by omega)) m1 (by omega)
  obtain ⟨-, -, s1, s2⟩ := csubB_ok (hu.mono (show E ≤ E + 1 + 5 by omega)) m1 (by omega)
  refine ⟨a1.mono (by omega), s1.mono (by omega), bfly_err _ _ _ w _ _ hw htw m2 a2, ?_⟩
  have hm : nsq (-cval (cmulB q t) - cval q * -cval t) ≤ 18 * (uu * uu) * (nsq (cval q) * nsq (-cval t)) + 64 * (eta * eta) := by
    rw [nsq_neg, show -cval (cmulB q t) - cval q * -cval t = -(cval (cmulB q t) - cval q * cval t) by (apply Cx.ext' <;> simp <;> grind), nsq_neg]; exact m2
  have h := bfly_err (cval u) (cval q) (-cval t) (-w) (-cval (cmulB q t)) (cval (csubB u (cmulB q t))) (by rw [nsq_neg]; exact hw)
    (by rw [show -cval t - -w = -(cval t - w) by (apply Cx.ext' <;> simp <;> grind), nsq_neg]; exact htw) hm (by rw [show cval u + -cval (cmulB q t) = cval u - cval (cmulB q t) by (apply Cx.ext' <;> simp <;> grind)]; exact s2)
  rw [show cval u + -w * cval q = cval u - w * cval q by (apply Cx.ext' <;> simp <;> grind)] at h
  exact h
end Go.Proofs.Ygctag
