import Derived.Test.YgctagCx
import Derived.Test.YgctagRndC
namespace Go.Proofs.Ygctag

/-! ### Complex doubles: bits, their numbers, and one operation's error -/
def fadd (a b : Nat) : Nat := (floatBits .add .f64 a b).getD 0
def fsub (a b : Nat) : Nat := (floatBits .sub .f64 a b).getD 0
def fmul (a b : Nat) : Nat := (floatBits .mul .f64 a b).getD 0
/-- The number of a float's bits. -/
def fval (b : Nat) : Rat := match Ieee.double.read b with | .number s m e => nv s m e | _ => 0
theorem Num.val {b : Nat} {x : Rat} (h : Num b x) : fval b = x := by
  obtain ⟨-, s, m, e, h1, rfl⟩ := h
  unfold fval
  rw [h1]
abbrev Cb := Nat × Nat
def cval (z : Cb) : Cx := ⟨fval z.1, fval z.2⟩
/-- Finite, both parts at most 2^E. -/
def Gd (E : Nat) (z : Cb) : Prop := Num z.1 (fval z.1) ∧ Num z.2 (fval z.2) ∧ ab (fval z.1) ≤ 2 ^ (E : Int) ∧ ab (fval z.2) ≤ 2 ^ (E : Int)
theorem Gd.mono {E F : Nat} {z : Cb} (h : Gd E z) (hE : E ≤ F) : Gd F z := by
  obtain ⟨h1, h2, h3, h4⟩ := h
  have := z2_mono (a := (E : Int)) (b := F) (by omega)
  exact ⟨h1, h2, Rat.le_trans h3 this, Rat.le_trans h4 this⟩
def cmulB (x y : Cb) : Cb := (fsub (fmul x.1 y.1) (fmul x.2 y.2), fadd (fmul x.1 y.2) (fmul x.2 y.1))
def caddB (x y : Cb) : Cb := (fadd x.1 y.1, fadd x.2 y.2)
def csubB (x y : Cb) : Cb := (fsub x.1 y.1, fsub x.2 y.2)
def conjB (x : Cb) : Cb := (x.1, Op.negFloat .f64 x.2)

theorem ab_mul (x y : Rat) : ab (x * y) = ab x * ab y := by
  unfold ab
  by_cases h : 0 ≤ x <;> by_cases g : 0 ≤ y
  · rw [if_pos h, if_pos g, if_pos (Rat.mul_nonneg h g)]
  · rw [if_pos h, if_neg g]
    have : 0 ≤ x * -y := Rat.mul_nonneg h (by grind)
    split <;> grind
  · rw [if_neg h, if_pos g]
    have : 0 ≤ -x * y := Rat.mul_nonneg (by grind) g
    split <;> grind
  · rw [if_neg h, if_neg g]
    have : 0 ≤ -x * -y := Rat.mul_nonneg (by grind) (by grind)
    split <;> grind
theorem ab_add (x y : Rat) : ab (x + y) ≤ ab x + ab y := by
  have h1 := le_ab x
  have h2 := le_ab y
  apply ab_le <;> grind
theorem ab_sub (x y : Rat) : ab (x - y) ≤ ab x + ab y := by
  have h1 := le_ab x
  have h2 := le_ab y
  apply ab_le <;> grind
theorem uu_pos : 0 < uu := by unfold uu; grind
theorem uu_small : uu ≤ 1 / 1000000 := by unfold uu; grind
theorem eta_pos : 0 < eta := z2_pos _
theorem eta_small : eta ≤ 1 := by
  have := z2_mono (a := -1075) (b := 0) (by decide)
  rw [Rat.zpow_zero] at this
  exact this
/-- What is rounded is at most twice as great, and one more. -/
theorem Rd.size {z x : Rat} (h : Rd z x) : ab z ≤ ab x * (1 + uu) + eta := by
  unfold Rd at h
  have h1 := le_ab (z - x)
  have h2 := le_ab x
  apply ab_le <;> grind
theorem z2_succ (n : Nat) : (2 : Rat) ^ ((n + 1 : Nat) : Int) = 2 * 2 ^ (n : Int) := by
  rw [z2_split (a := (n : Int)) (b := ((n + 1 : Nat) : Int)) (n := 1) (by omega), show ((2 ^ 1 : Nat) : Rat) = 2 from rfl]; grind
theorem Rd.pow {z x : Rat} {E : Nat} (h : Rd z x) (hx : ab x ≤ 2 ^ (E : Int)) : ab z ≤ 2 ^ ((E + 2 : Nat) : Int) := by
  have h1 := h.size
  have h2 := z2_one_le E
  have h3 := uu_small
  have h4 := eta_small
  have h5 := ab_nonneg x
  have h6 := Rat.mul_le_mul_of_nonneg_left h3 h5
  rw [z2_succ, z2_succ]
  grind

theorem le1000 {E : Nat} (h : E ≤ 1000) {x : Rat} (hx : ab x ≤ 2 ^ (E : Int)) : ab x ≤ 2 ^ (1000 : Int) := Rat.le_trans hx (z2_mono (by omega))
theorem fmul_ok {a b : Nat} {E F : Nat} (ha : Num a (fval a)) (hb : Num b (fval b)) (hE : ab (fval a) ≤ 2 ^ (E : Int)) (hF : ab (fval b) ≤ 2 ^ (F : Int)) (h : E + F ≤ 1000) :
    floatBits .mul .f64 a b = some (fmul a b) ∧ Num (fmul a b) (fval (fmul a b)) ∧ Rd (fval (fmul a b)) (fval a * fval b) ∧ ab (fval (fmul a b)) ≤ 2 ^ ((E + F + 2 : Nat) : Int) := by
  have hp : ab (fval a * fval b) ≤ 2 ^ ((E + F : Nat) : Int) := by
    rw [ab_mul, show ((E + F : Nat) : Int) = (E : Int) + (F : Int) by omega, z2_add]
    have h1 := Rat.mul_le_mul_of_nonneg_right hE (ab_nonneg (fval b))
    have h2 := Rat.mul_le_mul_of_nonneg_left hF (Rat.le_of_lt (z2_pos (E : Int)))
    grind
  obtain ⟨r, z, h1, h2, h3⟩ := mul_num ha hb (le1000 h hp)
  have e : fmul a b = r := by unfold fmul; rw [h1]; rfl
  rw [e, h2.val]
  exact ⟨h1, h2, h3, h3.pow hp⟩
theorem fadd_ok {a b : Nat} {E : Nat} (ha : Num a (fval a)) (hb : Num b (fval b)) (hE : ab (fval a) ≤ 2 ^ (E : Int)) (hF : ab (fval b) ≤ 2 ^ (E : Int)) (h : E + 1 ≤ 1000) :
    floatBits .add .f64 a b = some (fadd a b) ∧ Num (fadd a b) (fval (fadd a b)) ∧ Rd (fval (fadd a b)) (fval a + fval b) ∧ ab (fval (fadd a b)) ≤ 2 ^ ((E + 3 : Nat) : Int) := by
  have hp : ab (fval a + fval b) ≤ 2 ^ ((E + 1 : Nat) : Int) := by
    rw [z2_succ]
    have := ab_add (fval a) (fval b)
    grind
  obtain ⟨r, z, h1, h2, h3⟩ := add_num ha hb (le1000 h hp)
  have e : fadd a b = r := by unfold fadd; rw [h1]; rfl
  rw [e, h2.val]
  exact ⟨h1, h2, h3, h3.pow hp⟩
theorem fsub_ok {a b : Nat} {E : Nat} (ha : Num a (fval a)) (hb : Num b (fval b)) (hE : ab (fval a) ≤ 2 ^ (E : Int)) (hF : ab (fval b) ≤ 2 ^ (E : Int)) (h : E + 1 ≤ 1000) :
    floatBits .sub .f64 a b = some (fsub a b) ∧ Num (fsub a b) (fval (fsub a b)) ∧ Rd (fval (fsub a b)) (fval a - fval b) ∧ ab (fval (fsub a b)) ≤ 2 ^ ((E + 3 : Nat) : Int) := by
  have hp : ab (fval a - fval b) ≤ 2 ^ ((E + 1 : Nat) : Int) := by
    rw [z2_succ]
    have := ab_sub (fval a) (fval b)
    grind
  obtain ⟨r, z, h1, h2, h3⟩ := sub_num ha hb (le1000 h hp)
  have e : fsub a b = r := by unfold fsub; rw [h1]; rfl
  rw [e, h2.val]
  exact ⟨h1, h2, h3, h3.pow hp⟩

/-- Two products and their sum, each rounded. -/
theorem rd3 {p q z x y : Rat} (hp : Rd p x) (hq : Rd q y) (hz : Rd z (p + q)) : ab (z - (x + y)) ≤ uu * 21 / 10 * (ab x + ab y) + 4 * eta := by
  have s1 := hp.size
  have s2 := hq.size
  unfold Rd at *
  have a1 := le_ab (p - x)
  have a2 := le_ab (q - y)
  have a3 := le_ab (z - (p + q))
  have a4 := ab_add p q
  have u1 := uu_pos
  have u2 := uu_small
  have e1 := eta_pos
  have x0 := ab_nonneg x
  have y0 := ab_nonneg y
  -- u * |p + q|
  have b1 : uu * ab (p + q) ≤ uu * (ab x * (1 + uu) + eta + (ab y * (1 + uu) + eta)) := Rat.mul_le_mul_of_nonneg_left (by grind) (Rat.le_of_lt u1)
  have b2 : uu * uu * (ab x + ab y) ≤ uu * (1 / 10) * (ab x + ab y) := Rat.mul_le_mul_of_nonneg_right (by
    have := Rat.mul_le_mul_of_nonneg_left u2 (Rat.le_of_lt u1)
    grind) (by grind)
  have b3 : uu * eta ≤ 1 / 1000000 * eta := Rat.mul_le_mul_of_nonneg_right u2 (Rat.le_of_lt e1)
  apply ab_le <;> grind
theorem sq_ab (x : Rat) : ab x * ab x = x * x := by unfold ab; split <;> grind
theorem cs2 (a b c d : Rat) : (ab (a * c) + ab (b * d)) * (ab (a * c) + ab (b * d)) ≤ (a * a + b * b) * (c * c + d * d) := by
  have h := sq_nonneg (ab a * ab d - ab b * ab c)
  rw [ab_mul, ab_mul]
  have e1 := sq_ab a
  have e2 := sq_ab b
  have e3 := sq_ab c
  have e4 := sq_ab d
  rw [← e1, ← e2, ← e3, ← e4]
  grind
/-- A square bound. -/
theorem sq_two {z a b : Rat} (h : ab z ≤ a + b) : z * z ≤ 2 * (a * a) + 2 * (b * b) := by
  have h1 := sq_mono (ab_nonneg z) h
  rw [sq_ab] at h1
  have h2 := sq_nonneg (a - b)
  grind

/-- Mul: bits, size, error. -/
theorem cmulB_ok {x y : Cb} {E F : Nat} (hx : Gd E x) (hy : Gd F y) (h : E + F ≤ 900) :
    floatBits .mul .f64 x.1 y.1 = some (fmul x.1 y.1) ∧ floatBits .mul .f64 x.2 y.2 = some (fmul x.2 y.2) ∧ floatBits .mul .f64 x.1 y.2 = some (fmul x.1 y.2) ∧ floatBits .mul .f64 x.2 y.1 = some (fmul x.2 y.1) ∧
    floatBits .sub .f64 (fmul x.1 y.1) (fmul x.2 y.2) = some (cmulB x y).1 ∧ floatBits .add .f64 (fmul x.1 y.2) (fmul x.2 y.1) = some (cmulB x y).2 ∧
    Gd (E + F + 5) (cmulB x y) ∧ nsq (cval (cmulB x y) - cval x * cval y) ≤ 18 * (uu * uu) * (nsq (cval x) * nsq (cval y)) + 64 * (eta * eta) := by
  obtain ⟨x1, x2, x3, x4⟩ := hx
  obtain ⟨y1, y2, y3, y4⟩ := hy
  obtain ⟨a1, a2, a3, a4⟩ := fmul_ok x1 y1 x3 y3 (by omega)
  obtain ⟨b1, b2, b3, b4⟩ := fmul_ok x2 y2 x4 y4 (by omega)
  obtain ⟨c1, c2, c3, c4⟩ := fmul_ok x1 y2 x3 y4 (by omega)
  obtain ⟨d1, d2, d3, d4⟩ := fmul_ok x2 y1 x4 y3 (by omega)
  obtain ⟨r1, r2, r3, r4⟩ := fsub_ok a2 b2 a4 b4 (by omega)
  obtain ⟨s1, s2, s3, s4⟩ := fadd_ok c2 d2 c4 d4 (by omega)
  refine ⟨a1, b1, c1, d1, r1, s1, ⟨r2, s2, r4, s4⟩, ?_⟩
  have b3' : Rd (-fval (fmul x.2 y.2)) (-(fval x.2 * fval y.2)) := by
    unfold Rd at *
    rw [ab_neg, show -fval (fmul x.2 y.2) - -(fval x.2 * fval y.2) = -(fval (fmul x.2 y.2) - fval x.2 * fval y.2) by grind, ab_neg]
    exact b3
  have er := rd3 a3 b3' (by rw [show fval (fmul x.1 y.1) + -fval (fmul x.2 y.2) = fval (fmul x.1 y.1) - fval (fmul x.2 y.2) by grind]; exact r3)
  have ei := rd3 c3 d3 s3
  rw [ab_neg, show fval x.1 * fval y.1 + -(fval x.2 * fval y.2) = fval x.1 * fval y.1 - fval x.2 * fval y.2 by grind] at er
  have u0 := uu_pos
  have e0 := eta_pos
  have hS := cs2 (fval x.1) (fval x.2) (fval y.1) (fval y.2)
  have hT := cs2 (fval x.1) (fval x.2) (fval y.2) (fval y.1)
  have q1 := sq_two er
  have q2 := sq_two ei
  have hx0 := nsq_nonneg (cval x)
  have hy0 := nsq_nonneg (cval y)
  have hP : (fval x.1 * fval x.1 + fval x.2 * fval x.2) * (fval y.1 * fval y.1 + fval y.2 * fval y.2) = nsq (cval x) * nsq (cval y) := rfl
  have hP2 : (fval x.1 * fval x.1 + fval x.2 * fval x.2) * (fval y.2 * fval y.2 + fval y.1 * fval y.1) = nsq (cval x) * nsq (cval y) := by rw [← hP]; grind
  rw [hP] at hS
  rw [hP2] at hT
  have hu2 := sq_nonneg uu
  have hP0 := Rat.mul_nonneg hx0 hy0
  generalize nsq (cval x) * nsq (cval y) = PP at *
  generalize ab (fval x.1 * fval y.1) + ab (fval x.2 * fval y.2) = S at *
  generalize ab (fval x.1 * fval y.2) + ab (fval x.2 * fval y.1) = T at *
  have k1 := Rat.mul_le_mul_of_nonneg_left hS hu2
  have k2 := Rat.mul_le_mul_of_nonneg_left hT hu2
  have k3 := Rat.mul_nonneg hu2 hP0
  show (fval (cmulB x y).1 - (fval x.1 * fval y.1 - fval x.2 * fval y.2)) * (fval (cmulB x y).1 - (fval x.1 * fval y.1 - fval x.2 * fval y.2)) + (fval (cmulB x y).2 - (fval x.1 * fval y.2 + fval x.2 * fval y.1)) * (fval (cmulB x y).2 - (fval x.1 * fval y.2 + fval x.2 * fval y.1)) ≤ _
  have f1 : (cmulB x y).1 = fsub (fmul x.1 y.1) (fmul x.2 y.2) := rfl
  have f2 : (cmulB x y).2 = fadd (fmul x.1 y.2) (fmul x.2 y.1) := rfl
  rw [f1, f2]
  grind

/-- + and -: bits, size, error. -/
theorem sq_rd {z x : Rat} (h : Rd z x) : (z - x) * (z - x) ≤ 2 * (uu * uu) * (x * x) + 2 * (eta * eta) := by
  unfold Rd at h
  have h2 := sq_two h
  rw [show uu * ab x * (uu * ab x) = uu * uu * (ab x * ab x) by grind, sq_ab] at h2
  grind
theorem caddB_ok {x y : Cb} {E : Nat} (hx : Gd E x) (hy : Gd E y) (h : E ≤ 900) :
    floatBits .add .f64 x.1 y.1 = some (caddB x y).1 ∧ floatBits .add .f64 x.2 y.2 = some (caddB x y).2 ∧ Gd (E + 3) (caddB x y) ∧ nsq (cval (caddB x y) - (cval x + cval y)) ≤ 2 * (uu * uu) * nsq (cval x + cval y) + 4 * (eta * eta) := by
  obtain ⟨x1, x2, x3, x4⟩ := hx
  obtain ⟨y1, y2, y3, y4⟩ := hy
  obtain ⟨a1, a2, a3, a4⟩ := fadd_ok x1 y1 x3 y3 (by omega)
  obtain ⟨b1, b2, b3, b4⟩ := fadd_ok x2 y2 x4 y4 (by omega)
  refine ⟨a1, b1, ⟨a2, b2, a4, b4⟩, ?_⟩
  have q1 := sq_rd a3
  have q2 := sq_rd b3
  unfold nsq cval caddB
  simp
  grind
theorem csubB_ok {x y : Cb} {E : Nat} (hx : Gd E x) (hy : Gd E y) (h : E ≤ 900) :
    floatBits .sub .f64 x.1 y.1 = some (csubB x y).1 ∧ floatBits .sub .f64 x.2 y.2 = some (csubB x y).2 ∧ Gd (E + 3) (csubB x y) ∧ nsq (cval (csubB x y) - (cval x - cval y)) ≤ 2 * (uu * uu) * nsq (cval x - cval y) + 4 * (eta * eta) := by
  obtain ⟨x1, x2, x3, x4⟩ := hx
  obtain ⟨y1, y2, y3, y4⟩ := hy
  obtain ⟨a1, a2, a3, a4⟩ := fsub_ok x1 y1 x3 y3 (by omega)
  obtain ⟨b1, b2, b3, b4⟩ := fsub_ok x2 y2 x4 y4 (by omega)
  refine ⟨a1, b1, ⟨a2, b2, a4, b4⟩, ?_⟩
  have q1 := sq_rd a3
  have q2 := sq_rd b3
  unfold nsq cval csubB
  simp
  grind
theorem conjB_ok {x : Cb} {E : Nat} (hx : Gd E x) : Gd E (conjB x) ∧ cval (conjB x) = Cx.conj (cval x) := by
  obtain ⟨x1, x2, x3, x4⟩ := hx
  have h := neg_num x2
  have e := h.val
  refine ⟨⟨x1, by show Num (Op.negFloat .f64 x.2) (fval (Op.negFloat .f64 x.2)); rw [e]; exact h, x3, by show ab (fval (Op.negFloat .f64 x.2)) ≤ _; rw [e, ab_neg]; exact x4⟩, ?_⟩
  unfold cval conjB Cx.conj
  simp only
  rw [e]
end Go.Proofs.Ygctag
