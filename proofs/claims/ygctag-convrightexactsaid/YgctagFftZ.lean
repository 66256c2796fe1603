import Derived.Test.YgctagFftK
namespace Go.Proofs.Ygctag

theorem amgm {x y g : Rat} (hg : 0 < g) : x * y ≤ ((x / g + g * y) / 2) * ((x / g + g * y) / 2) := by
  have h := sq_nonneg (x / g - g * y)
  have e : x / g * (g * y) = x * y := by grind
  grind
theorem Le.prod {a b : Cx} {g : Rat} (hg : 0 < g) : Le (a * b) ((nsq a / g + g * nsq b) / 2) := by
  have ha := nsq_nonneg a
  have hb := nsq_nonneg b
  refine ⟨?_, by rw [nsq_mul]; exact amgm hg⟩
  have h1 : 0 ≤ nsq a / g := by
    have : nsq a / g * g = nsq a := by grind
    rcases Rat.le_total (a := 0) (b := nsq a / g) with h | h
    · exact h
    · have := Rat.mul_le_mul_of_nonneg_right h (Rat.le_of_lt hg)
      have h0 : nsq a = 0 := by grind
      rw [h0]; grind
  have h2 := Rat.mul_nonneg (Rat.le_of_lt hg) hb
  grind
theorem Le.unscale {z : Cx} {n m : Rat} (hn : 0 < n) (hm : 0 ≤ m) (h : Le (rl n * z) (n * m)) : Le z m := by
  refine ⟨hm, ?_⟩
  have h2 := h.2
  rw [nsq_mul] at h2
  have e : nsq (rl n) = n * n := by unfold nsq rl; grind
  rw [e] at h2
  have hnn := Rat.mul_pos hn hn
  apply Rat.le_of_mul_le_mul_left (c := n * n) _ hnn
  grind

def fdiv (a b : Nat) : Nat := (floatBits .quo .f64 a b).getD 0
/-- The product, transformed back, divided, unweighted. -/
def ctabB (k j : Nat) : Cb := conjB (tabB k j)
def prodB (xa xb : Nat → Cb) (l : Nat) : Cb := cmulB (xa l) (xb l)
def invB (k : Nat) (xa xb : Nat → Cb) : Nat → Cb := fftB (ctabB k) k (fun p => prodB xa xb (rev k p)) k
def divB (k : Nat) (xa xb : Nat → Cb) (p : Nat) : Cb := (fdiv (invB k xa xb p).1 (fi ((2 ^ k : Nat) : Int)), fdiv (invB k xa xb p).2 (fi ((2 ^ k : Nat) : Int)))
def outB (k : Nat) (xa xb : Nat → Cb) (p : Nat) : Cb := cmulB (divB k xa xb p) (conjB (tabB (k + 2) p))

theorem ctab_ok (k : Nat) (hk1 : 1 ≤ k) (hk : k ≤ 9) : TabOK (ctabB k) WB k := by
  intro j hj
  obtain ⟨g, h⟩ := tab_ok40 k hk1 hk j hj
  obtain ⟨g2, e⟩ := conjB_ok g
  refine ⟨g2, ?_⟩
  show nsq (cval (conjB (tabB k j)) - WB (2 ^ (11 - k) * j)) ≤ _
  rw [e, show Cx.conj (cval (tabB k j)) - WB (2 ^ (11 - k) * j) = Cx.conj (cval (tabB k j) - WW (2 ^ (11 - k) * j)) by show Cx.conj (cval (tabB k j)) - Cx.conj (WW (2 ^ (11 - k) * j)) = _; (apply Cx.ext' <;> simp <;> grind), nsq_conj]
  exact h

/-- The modulus of a product, rounded. -/
theorem prod_le {x y : Cb} {E F : Nat} (hx : Gd E x) (hy : Gd F y) (h : E + F ≤ 900) :
    Gd (E + F + 5) (cmulB x y) ∧ Le (cval (cmulB x y) - cval x * cval y) (17 / 4 * uu * ((nsq (cval x) + nsq (cval y)) / 2) + 8 * eta) ∧ Le (cval x * cval y) ((nsq (cval x) + nsq (cval y)) / 2) := by
  obtain ⟨-, -, -, -, -, -, m1, m2⟩ := cmulB_ok hx hy h
  have x0 := nsq_nonneg (cval x)
  have y0 := nsq_nonneg (cval y)
  have u0 := uu_pos
  have e0 := eta_pos
  have hp := Le.prod (a := cval x) (b := cval y) (g := 1) (by decide)
  have hp' : Le (cval x * cval y) ((nsq (cval x) + nsq (cval y)) / 2) := hp.mono (by grind)
  refine ⟨m1, ⟨?_, ?_⟩, hp'⟩
  · have := Rat.mul_nonneg (Rat.le_of_lt u0) hp'.1
    grind
  · have h2 := hp'.2
    rw [nsq_mul] at h2
    have hM := hp'.1
    generalize (nsq (cval x) + nsq (cval y)) / 2 = M at *
    have a1 := Rat.mul_le_mul_of_nonneg_left h2 (show 0 ≤ 18 * (uu * uu) by have := sq_nonneg uu; grind)
    have a2 := Rat.mul_nonneg (Rat.mul_nonneg (Rat.le_of_lt u0) hM) (Rat.le_of_lt e0)
    have a3 := Rat.mul_nonneg (sq_nonneg uu) (sq_nonneg M)
    grind

theorem evC_le (k : Nat) (hk : k ≤ 9) (A B : Nat → Rat) (hA : ∀ i, ab (A i) ≤ 32768) (hB : ∀ i, ab (B i) ≤ 32768) (l : Nat) : Le (evC A B k l) 1125899906842624 := by
  have hn := pow1024 k hk
  have hab : ∀ i j, ab (A i * B j) ≤ 1073741824 := fun i j => by
    rw [ab_mul]
    have h1 := Rat.mul_le_mul_of_nonneg_right (hA i) (ab_nonneg (B j))
    have h2 := Rat.mul_le_mul_of_nonneg_left (hB j) (show (0 : Rat) ≤ 32768 by decide)
    grind
  exact (sumc_le (m := 1024 * (1073741824 * 1)) (M := 1024) (by grind) hn fun i _ => sumc_le (m := 1073741824 * 1) (M := 1024) (by grind) hn fun j _ => (rl_le (hab i j)).mul (rootWW.le _)).mono (by grind)
theorem evA_le (k : Nat) (hk : k ≤ 9) (A : Nat → Rat) (hA : ∀ i, ab (A i) ≤ 32768) (l : Nat) : Le (evA A k l) 33554432 :=
  (sumc_le (m := 32768 * 1) (M := 1024) (by grind) (pow1024 k hk) fun i _ => (rl_le (hA i)).mul (rootWW.le _)).mono (by grind)

/-- The two transforms' product beside the product's points. -/
theorem both_near (k : Nat) (hk : k ≤ 9) (A B : Nat → Rat) (hA : ∀ i, ab (A i) ≤ 32768) (hB : ∀ i, ab (B i) ≤ 32768) (fa fb : Nat → Cb) (hfa : ∀ i, i < 2 ^ k → cval (fa i) = ⟨A i, -A (2 ^ k + i)⟩) (hfb : ∀ i, i < 2 ^ k → cval (fb i) = ⟨B i, -B (2 ^ k + i)⟩) (l : Nat) :
    Le (dftC (refA k fa) WW k l * dftC (refA k fb) WW k l - evC A B k l) uu := by
  have h1 := eval_near k hk A hA fa hfa l
  have h2 := eval_near k hk B hB fb hfb l
  have h3 := evC_near k hk A B hA hB l
  have a1 := evA_le k hk A hA l
  have b1 := evA_le k hk B hB l
  have w0 := ew_pos
  have hs : ew * 100000000000000000000 ≤ uu / 1000000 := by unfold ew uu; grind
  have hs2 : ew * ew ≤ ew := by
    have : ew ≤ 1 := by unfold ew; grind
    have := Rat.mul_le_mul_of_nonneg_left this (Rat.le_of_lt w0)
    grind
  generalize dftC (refA k fa) WW k l = a at *
  generalize dftC (refA k fb) WW k l = b at *
  generalize evA A k l = x at *
  generalize evA B k l = y at *
  have t := (((h1.mul h2).add (h1.mul b1)).add (a1.mul h2)).add h3
  exact (t.of_eq (by (apply Cx.ext' <;> simp <;> grind))).mono (by grind)

theorem div_ok {a : Nat} {E k : Nat} (hk : k ≤ 9) (ha : Num a (fval a)) (hE : ab (fval a) ≤ 2 ^ (E : Int)) (hE2 : E ≤ 900) :
    floatBits .quo .f64 a (fi ((2 ^ k : Nat) : Int)) = some (fdiv a (fi ((2 ^ k : Nat) : Int))) ∧ Num (fdiv a (fi ((2 ^ k : Nat) : Int))) (fval (fdiv a (fi ((2 ^ k : Nat) : Int)))) ∧
    ab (fval (fdiv a (fi ((2 ^ k : Nat) : Int))) * ((2 ^ k : Nat) : Rat) - fval a) ≤ 2 * uu * ab (fval a) + 2 * eta * ((2 ^ k : Nat) : Rat) := by
  have hle : 2 ^ k ≤ 2 ^ 9 := Nat.pow_le_pow_right (by decide) hk
  have hn := num_fi ((2 ^ k : Nat) : Int) (by rw [Int.natAbs_natCast]; omega)
  rw [Rat.intCast_natCast] at hn
  have hp := pow2_one k
  obtain ⟨r, z, h1, h2, h3⟩ := div_num ha hn (by grind) (by
    have h4 := z2_mono (a := (E : Int)) (b := 900) (by omega)
    have h5 := Rat.mul_le_mul_of_nonneg_left hp (Rat.le_of_lt (z2_pos 900))
    grind)
  have e : fdiv a (fi ((2 ^ k : Nat) : Int)) = r := by unfold fdiv; rw [h1]; rfl
  rw [e, h2.val]
  exact ⟨h1, h2, h3⟩
end Go.Proofs.Ygctag
