import Derived.Test.YgctagRoots
namespace Go.Proofs.Ygctag

def sg (p : Nat) (z : Cx) : Cx := if p % 2 = 0 then z else -z
/-- The root's powers, with 1024 half a turn exactly. -/
def WW (m : Nat) : Cx := sg (m / 1024) (cpow om (m % 1024))
structure Root (W : Nat → Cx) : Prop where
  unit : ∀ m, nsq (W m) = 1
  half : ∀ m, W (m + 1024) = -W m
  mul : ∀ a b, nsq (W (a + b) - W a * W b) ≤ ew * ew
  zero : W 0 = 1
theorem sg_nsq (p : Nat) (z : Cx) : nsq (sg p z) = nsq z := by unfold sg; split; · rfl
                                                               · exact nsq_neg z
theorem sg_succ (p : Nat) (z : Cx) : sg (p + 1) z = -sg p z := by
  unfold sg
  by_cases h : p % 2 = 0
  · rw [if_pos h, if_neg (by omega)]
  · rw [if_neg h, if_pos (by omega)]; (apply Cx.ext' <;> simp <;> grind)
theorem sg_add (p q : Nat) (y z : Cx) : sg (p + q) (y * z) = sg p y * sg q z := by
  unfold sg
  by_cases h : p % 2 = 0 <;> by_cases g : q % 2 = 0
  · rw [if_pos h, if_pos g, if_pos (by omega)]
  · rw [if_pos h, if_neg g, if_neg (by omega)]; (apply Cx.ext' <;> simp <;> grind)
  · rw [if_neg h, if_pos g, if_neg (by omega)]; (apply Cx.ext' <;> simp <;> grind)
  · rw [if_neg h, if_neg g, if_pos (by omega)]; (apply Cx.ext' <;> simp <;> grind)
theorem sg_sub (p : Nat) (y z : Cx) : sg p (y - z) = sg p y - sg p z := by
  unfold sg
  split
  · rfl
  · (apply Cx.ext' <;> simp <;> grind)
theorem ew_nonneg : 0 ≤ ew * ew := sq_nonneg ew
theorem rootWW : Root WW where
  unit m := by unfold WW; rw [sg_nsq]; exact cpow_unit _
  half m := by
    unfold WW
    rw [show (m + 1024) / 1024 = m / 1024 + 1 by omega, show (m + 1024) % 1024 = m % 1024 by omega, sg_succ]
  zero := rfl
  mul a b := by
    unfold WW
    obtain ⟨p, i, hi, rfl⟩ : ∃ p i, i < 1024 ∧ a = 1024 * p + i := ⟨a / 1024, a % 1024, by omega, by omega⟩
    obtain ⟨q, j, hj, rfl⟩ : ∃ q j, j < 1024 ∧ b = 1024 * q + j := ⟨b / 1024, b % 1024, by omega, by omega⟩
    rw [show (1024 * p + i) / 1024 = p by omega, show (1024 * p + i) % 1024 = i by omega, show (1024 * q + j) / 1024 = q by omega, show (1024 * q + j) % 1024 = j by omega, ← sg_add, ← cpow_add]
    by_cases h : i + j < 1024
    · rw [show (1024 * p + i + (1024 * q + j)) / 1024 = p + q by omega, show (1024 * p + i + (1024 * q + j)) % 1024 = i + j by omega]
      rw [show sg (p + q) (cpow om (i + j)) - sg (p + q) (cpow om (i + j)) = 0 by (apply Cx.ext' <;> simp <;> grind), nsq_zero]
      exact ew_nonneg
    · obtain ⟨r, hr⟩ : ∃ r, i + j = r + 1024 := ⟨i + j - 1024, by omega⟩
      rw [show (1024 * p + i + (1024 * q + j)) / 1024 = p + q + 1 by omega, show (1024 * p + i + (1024 * q + j)) % 1024 = r by omega, hr, sg_succ, cpow_add]
      have e : -sg (p + q) (cpow om r) - sg (p + q) (cpow om r * cpow om 1024) = -sg (p + q) (cpow om r * (1 + cpow om 1024)) := by
        unfold sg
        split <;> (apply Cx.ext' <;> simp <;> grind)
      rw [e, nsq_neg, sg_nsq, nsq_mul, cpow_unit, Rat.one_mul]
      exact om_half
theorem Root.conj {W : Nat → Cx} (h : Root W) : Root (fun m => Cx.conj (W m)) where
  unit m := by rw [nsq_conj]; exact h.unit m
  half m := by rw [h.half]; (apply Cx.ext' <;> simp <;> grind)
  zero := by rw [h.zero]; (apply Cx.ext' <;> simp <;> grind)
  mul a b := by
    rw [show Cx.conj (W (a + b)) - Cx.conj (W a) * Cx.conj (W b) = Cx.conj (W (a + b) - W a * W b) by (apply Cx.ext' <;> simp <;> grind), nsq_conj]
    exact h.mul a b
theorem Root.full {W : Nat → Cx} (h : Root W) (m : Nat) : W (m + 2048) = W m := by
  rw [show m + 2048 = m + 1024 + 1024 by omega, h.half, h.half]; (apply Cx.ext' <;> simp <;> grind)
theorem Root.turns {W : Nat → Cx} (h : Root W) (m k : Nat) : W (m + 2048 * k) = W m := by
  induction k with
  | zero => rfl
  | succ k ih => rw [show m + 2048 * (k + 1) = m + 2048 * k + 2048 by omega, h.full, ih]
theorem Root.le {W : Nat → Cx} (h : Root W) (m : Nat) : Le (W m) 1 := Le.unit (h.unit m)
theorem ew_pos : 0 < ew := by unfold ew; grind
theorem Root.mulLe {W : Nat → Cx} (h : Root W) (a b : Nat) : Le (W (a + b) - W a * W b) ew := ⟨Rat.le_of_lt ew_pos, h.mul a b⟩

/-! ### The table -/
/-- The bits of tw.Table(k), entry j. -/
def tabB (k : Nat) (j : Nat) : Cb :=
  if _h : j = 0 then (4607182418800017408, 0) else cmulB (tabB k (j - 2 ^ j.log2)) (baseB (k - j.log2))
termination_by j
decreasing_by
  have := Nat.log2_self_le _h
  have := Nat.two_pow_pos j.log2
  omega
theorem one_num : Num 4607182418800017408 1 := by
  have h : Num 4607182418800017408 (nv false 4503599627370496 (-((52 : Nat) : Int))) := ⟨by decide, false, 4503599627370496, _, by decide +kernel, rfl⟩
  have e : nv false 4503599627370496 (-((52 : Nat) : Int)) = 1 := by
    unfold nv sgn
    have e1 : (2 : Rat) ^ (-((52 : Nat) : Int)) * ((2 ^ 52 : Nat) : Rat) = 1 := by rw [← z2_split (a := -((52 : Nat) : Int)) (b := 0) (n := 52) (by omega), Rat.zpow_zero]
    rw [if_neg (by decide), show ((4503599627370496 : Nat) : Rat) = ((2 ^ 52 : Nat) : Rat) from rfl]
    grind
  rw [e] at h
  exact h
theorem zero_num : Num 0 0 := by
  have h : Num 0 (nv false 0 (-1074)) := ⟨by decide, false, 0, _, by decide +kernel, rfl⟩
  have e : nv false 0 (-1074) = 0 := by unfold nv; rw [show ((0 : Nat) : Rat) = 0 from rfl]; grind
  rw [e] at h
  exact h
theorem oneB_ok : Gd 1 (4607182418800017408, 0) ∧ cval (4607182418800017408, 0) = 1 := by
  have v1 := one_num.val
  have v2 := zero_num.val
  have h2 : (2 : Rat) ^ ((1 : Nat) : Int) = 2 := Rat.zpow_one 2
  refine ⟨⟨by rw [v1]; exact one_num, by rw [v2]; exact zero_num, ?_, ?_⟩, ?_⟩
  · show ab (fval 4607182418800017408) ≤ _
    rw [v1, h2]; unfold ab; split <;> grind
  · show ab (fval 0) ≤ _
    rw [v2, h2]; unfold ab; split <;> grind
  · unfold cval
    rw [v1, v2]; rfl
theorem base_ok (t : Nat) (h : 2 ≤ t) (h2 : t ≤ 11) : Gd 1 (baseB t) ∧ nsq (cval (baseB t) - WW (2 ^ (11 - t))) ≤ (3 / 4 * uu) * (3 / 4 * uu) := by
  have key : ∀ j, j ≤ 9 → WW (2 ^ j) = cpow om (2 ^ j) := by
    intro j hj
    have : 2 ^ j ≤ 2 ^ 9 := Nat.pow_le_pow_right (by decide) hj
    have h9 : 2 ^ 9 = 512 := rfl
    unfold WW
    rw [Nat.div_eq_of_lt (by omega), Nat.mod_eq_of_lt (by omega)]
    rfl
  rw [key _ (by omega)]
  have ht : t = 2 ∨ t = 3 ∨ t = 4 ∨ t = 5 ∨ t = 6 ∨ t = 7 ∨ t = 8 ∨ t = 9 ∨ t = 10 ∨ t = 11 := by omega
  rcases ht with rfl | rfl | rfl | rfl | rfl | rfl | rfl | rfl | rfl | rfl
  · exact base2_ok
  · exact base3_ok
  · exact base4_ok
  · exact base5_ok
  · exact base6_ok
  · exact base7_ok
  · exact base8_ok
  · exact base9_ok
  · exact base10_ok
  · exact base11_ok

/-- One more factor of the table. -/
theorem tab_step {x y : Cb} {W1 W2 W3 : Cx} {r : Rat} (hx : Gd 1 x) (hy : Gd 1 y) (hw1 : Le W1 1) (hw2 : Le W2 1) (hw3 : Le W3 1) (hr : r ≤ 60 * uu) (h1 : Le (cval x - W1) r) (h2 : Le (cval y - W2) (3 / 4 * uu)) (h3 : Le (W3 - W1 * W2) ew) :
    Gd 1 (cmulB x y) ∧ Le (cval (cmulB x y) - W3) (r + 5 * uu) := by
  obtain ⟨-, -, -, -, -, -, m1, m2⟩ := cmulB_ok hx hy (by omega)
  have u0 := uu_pos
  have us := uu_small
  have r0 := h1.1
  have cx1 : Le (cval x) (1 + r) := (hw1.add h1).of_eq (by (apply Cx.ext' <;> simp <;> grind))
  have cy1 : Le (cval y) (1 + 3 / 4 * uu) := (hw2.add h2).of_eq (by (apply Cx.ext' <;> simp <;> grind))
  have hxx : nsq (cval x) * nsq (cval y) ≤ 1001 / 1000 := by
    have := (cx1.mul cy1).2
    rw [nsq_mul] at this
    have a : (1 + r) * (1 + 3 / 4 * uu) ≤ 10001 / 10000 := by
      have b1 : (1 + r) ≤ 100001 / 100000 + 60 * uu := by grind
      have b2 : (1 + r) * (1 + 3 / 4 * uu) ≤ (1 + 60 * uu) * (1 + 3 / 4 * uu) := Rat.mul_le_mul_of_nonneg_right (by grind) (by grind)
      have b3 := Rat.mul_le_mul_of_nonneg_left us (Rat.le_of_lt u0)
      grind
    have b := sq_mono (x := (1 + r) * (1 + 3 / 4 * uu)) (Rat.mul_nonneg (by grind) (by grind)) a
    grind
  -- the product's own error
  have he : Le (cval (cmulB x y) - cval x * cval y) (4247 / 1000 * uu) := by
    refine ⟨by grind, ?_⟩
    have a := Rat.mul_le_mul_of_nonneg_left hxx (show 0 ≤ 18 * (uu * uu) by have := sq_nonneg uu; grind)
    have e1 : eta * eta ≤ 1 / 1000000 * (uu * uu) := by
      have e2 : eta ≤ 1 / 1000 * uu := by
        have h1 := z2_mono (a := -1075) (b := -64) (by decide)
        have h2 : (2 : Rat) ^ (-64 : Int) * ((2 ^ 64 : Nat) : Rat) = 1 := by rw [← z2_split (a := -64) (b := 0) (n := 64) (by omega), Rat.zpow_zero]
        have h3 : ((2 ^ 64 : Nat) : Rat) = 18446744073709551616 := rfl
        rw [h3] at h2
        unfold eta uu
        grind
      have := sq_mono (Rat.le_of_lt eta_pos) e2
      grind
    have u2 := sq_nonneg uu
    grind
  have hew : ew ≤ 1 / 1000 * uu := by unfold ew uu; grind
  -- x (y - W2) + (x - W1) W2 - (W3 - W1 W2)
  have h5 := (he.add (cx1.mul h2)).add ((h1.mul hw2).sub h3)
  have ee : cval (cmulB x y) - cval x * cval y + cval x * (cval y - W2) + ((cval x - W1) * W2 - (W3 - W1 * W2)) = cval (cmulB x y) - W3 := by (apply Cx.ext' <;> simp <;> grind)
  have h6 := (h5.of_eq ee).mono (k := r + 5 * uu) (by
    have b2 : (1 + r) * (3 / 4 * uu) ≤ (1 + 60 * uu) * (3 / 4 * uu) := Rat.mul_le_mul_of_nonneg_right (by grind) (by grind)
    have b3 := Rat.mul_le_mul_of_nonneg_left us (Rat.le_of_lt u0)
    grind)
  refine ⟨⟨m1.1, m1.2.1, ?_, ?_⟩, h6⟩
  · have h7 : Le (cval (cmulB x y)) 2 := ((hw3.add h6).of_eq (by (apply Cx.ext' <;> simp <;> grind))).mono (by grind)
    have := h7.re
    rw [show (2 : Rat) ^ ((1 : Nat) : Int) = 2 from Rat.zpow_one 2]
    exact this
  · have h7 : Le (cval (cmulB x y)) 2 := ((hw3.add h6).of_eq (by (apply Cx.ext' <;> simp <;> grind))).mono (by grind)
    have := h7.im
    rw [show (2 : Rat) ^ ((1 : Nat) : Int) = 2 from Rat.zpow_one 2]
    exact this

/-- The table lies near the roots. -/
theorem tab_near (k : Nat) (hk1 : 1 ≤ k) (hk : k ≤ 11) (b : Nat) : ∀ j, j < 2 ^ b → b + 1 ≤ k → Gd 1 (tabB k j) ∧ Le (cval (tabB k j) - WW (2 ^ (11 - k) * j)) ((b : Rat) * (5 * uu)) := by
  have u0 := uu_pos
  induction b with
  | zero =>
    intro j hj _
    obtain rfl : j = 0 := by rw [Nat.pow_zero] at hj; omega
    rw [tabB, dif_pos rfl, Nat.mul_zero, rootWW.zero, oneB_ok.2]
    refine ⟨oneB_ok.1, ?_⟩
    rw [show (1 : Cx) - 1 = 0 by (apply Cx.ext' <;> simp <;> grind)]
    exact Le.zero.mono (by rw [show ((0 : Nat) : Rat) = 0 from rfl]; grind)
  | succ b ih =>
    intro j hj hb
    have hcast : ((b + 1 : Nat) : Rat) = (b : Rat) + 1 := by rw [Rat.natCast_add]; rfl
    by_cases hlt : j < 2 ^ b
    · obtain ⟨g, h⟩ := ih j hlt (by omega)
      exact ⟨g, h.mono (by rw [hcast]; grind)⟩
    · have hl : j.log2 = b := by
        have hj0 : j ≠ 0 := by have := Nat.two_pow_pos b; omega
        have h1 := (Nat.le_log2 hj0).2 (show 2 ^ b ≤ j by omega)
        have h2 := (Nat.log2_lt hj0).2 hj
        omega
      have hj0 : j ≠ 0 := by have := Nat.two_pow_pos b; omega
      have hp : 2 ^ (b + 1) = 2 * 2 ^ b := Nat.pow_succ'
      rw [tabB, dif_neg hj0, hl]
      obtain ⟨g, h⟩ := ih (j - 2 ^ b) (by omega) (by omega)
      obtain ⟨gb, hbb⟩ := base_ok (k - b) (by omega) (by omega)
      have e1 : 2 ^ (11 - k) * j = 2 ^ (11 - k) * (j - 2 ^ b) + 2 ^ (11 - (k - b)) := by
        have : 2 ^ (11 - (k - b)) = 2 ^ (11 - k) * 2 ^ b := by rw [← Nat.pow_add]; congr 1; omega
        rw [this, ← Nat.mul_add]; congr 1; omega
      have hb60 : (b : Rat) * (5 * uu) ≤ 60 * uu := by
        have : (b : Rat) ≤ ((10 : Nat) : Rat) := Rat.natCast_le_natCast.2 (by omega)
        have h3 := Rat.mul_le_mul_of_nonneg_right this (show 0 ≤ 5 * uu by grind)
        rw [show ((10 : Nat) : Rat) = 10 from rfl] at h3
        grind
      have h4 := tab_step (W1 := WW (2 ^ (11 - k) * (j - 2 ^ b))) (W2 := WW (2 ^ (11 - (k - b)))) (W3 := WW (2 ^ (11 - k) * j)) g gb (rootWW.le _) (rootWW.le _) (rootWW.le _) hb60 h ⟨by grind, hbb⟩ (by rw [e1]; exact rootWW.mulLe _ _)
      exact ⟨h4.1, h4.2.mono (by rw [hcast]; grind)⟩
end Go.Proofs.Ygctag
