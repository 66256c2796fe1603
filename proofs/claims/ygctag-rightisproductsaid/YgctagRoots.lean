import Derived.Test.YgctagCb
namespace Go.Proofs.Ygctag

/-! ### A rational point on the circle, near exp(-2 pi i / 2048), and its powers -/
def P0 : Int := 2241917191612204660862357234855001259164475863
def sq3 (p : Int × Int × Int) : Int × Int × Int := (p.1 * p.1 - p.2.1 * p.2.1, 2 * p.1 * p.2.1, p.2.2 * p.2.2)
def o3 : Nat → Int × Int × Int
  | 0 => (2 ^ 320 - P0 * P0, -2 * P0 * 2 ^ 160, 2 ^ 320 + P0 * P0)
  | n + 1 => sq3 (o3 n)
def om : Cx := ⟨((o3 0).1 : Rat) / ((o3 0).2.2 : Rat), ((o3 0).2.1 : Rat) / ((o3 0).2.2 : Rat)⟩
def cpow (z : Cx) : Nat → Cx
  | 0 => 1
  | n + 1 => cpow z n * z
theorem cpow_add (z : Cx) (m n : Nat) : cpow z (m + n) = cpow z m * cpow z n := by
  induction n with
  | zero => exact (cmul_one _).symm
  | succ n ih => show cpow z (m + n) * z = cpow z m * (cpow z n * z); rw [ih, cmul_assoc]
theorem o3_pos (j : Nat) : 0 < (o3 j).2.2 := by
  induction j with
  | zero => decide +kernel
  | succ j ih => exact Int.mul_pos ih ih
theorem om_pow (j : Nat) : cpow om (2 ^ j) = ⟨((o3 j).1 : Rat) / ((o3 j).2.2 : Rat), ((o3 j).2.1 : Rat) / ((o3 j).2.2 : Rat)⟩ := by
  induction j with
  | zero => show 1 * om = om; exact cone_mul _
  | succ j ih =>
    have hp : (0 : Rat) < ((o3 j).2.2 : Rat) := Rat.intCast_pos.2 (o3_pos j)
    rw [Nat.pow_succ, Nat.mul_two, cpow_add, ih]
    have e1 : (o3 (j + 1)).1 = (o3 j).1 * (o3 j).1 - (o3 j).2.1 * (o3 j).2.1 := rfl
    have e2 : (o3 (j + 1)).2.1 = 2 * (o3 j).1 * (o3 j).2.1 := rfl
    have e3 : (o3 (j + 1)).2.2 = (o3 j).2.2 * (o3 j).2.2 := rfl
    rw [e1, e2, e3]
    simp only [Rat.intCast_sub, Rat.intCast_mul]
    generalize ((o3 j).1 : Rat) = A
    generalize ((o3 j).2.1 : Rat) = B
    generalize ((o3 j).2.2 : Rat) = C at *
    have h2 : ((2 : Int) : Rat) = 2 := rfl
    rw [h2]
    apply Cx.ext'
    · show A / C * (A / C) - B / C * (B / C) = (A * A - B * B) / (C * C)
      grind
    · show A / C * (B / C) + B / C * (A / C) = 2 * A * B / (C * C)
      grind
theorem om_unit : nsq om = 1 := by
  have h : (o3 0).1 * (o3 0).1 + (o3 0).2.1 * (o3 0).2.1 = (o3 0).2.2 * (o3 0).2.2 := by decide +kernel
  have hp : (0 : Rat) < ((o3 0).2.2 : Rat) := Rat.intCast_pos.2 (o3_pos 0)
  have h2 := congrArg (fun z : Int => (z : Rat)) h
  simp only [Rat.intCast_add, Rat.intCast_mul] at h2
  unfold nsq om
  dsimp only
  generalize ((o3 0).1 : Rat) = A at *
  generalize ((o3 0).2.1 : Rat) = B at *
  generalize ((o3 0).2.2 : Rat) = C at *
  have h3 : A / C * (A / C) + B / C * (B / C) = (A * A + B * B) / (C * C) := by grind
  rw [h3, h2]
  grind
theorem cpow_unit (n : Nat) : nsq (cpow om n) = 1 := by
  induction n with
  | zero => exact nsq_one
  | succ n ih => show nsq (cpow om n * om) = 1; rw [nsq_mul, ih, om_unit]; grind
/-- How far the 1024th power lies from -1. -/
def ew : Rat := 1 / 1393796574908163946345982392040522594123776
theorem om_half : nsq (1 + cpow om 1024) ≤ ew * ew := by
  have h : 1942668892225729070919461906823518906642406839052139521251812409738904285205208498176 * (((o3 10).2.2 + (o3 10).1) * ((o3 10).2.2 + (o3 10).1) + (o3 10).2.1 * (o3 10).2.1) ≤ (o3 10).2.2 * (o3 10).2.2 := by decide +kernel
  have hp : (0 : Rat) < ((o3 10).2.2 : Rat) := Rat.intCast_pos.2 (o3_pos 10)
  have h2 := Rat.intCast_le_intCast.2 h
  simp only [Rat.intCast_add, Rat.intCast_mul] at h2
  rw [show 1024 = 2 ^ 10 by decide, om_pow 10]
  unfold nsq ew
  simp only [Cx.add_re, Cx.add_im, Cx.one_re, Cx.one_im]
  have h4 : ((1942668892225729070919461906823518906642406839052139521251812409738904285205208498176 : Int) : Rat) = 1942668892225729070919461906823518906642406839052139521251812409738904285205208498176 := rfl
  rw [h4] at h2
  generalize ((o3 10).1 : Rat) = A at *
  generalize ((o3 10).2.1 : Rat) = B at *
  generalize ((o3 10).2.2 : Rat) = C at *
  have h3 : (1 + A / C) * (1 + A / C) + (0 + B / C) * (0 + B / C) = ((C + A) * (C + A) + B * B) / (C * C) := by grind
  rw [h3]
  have hCC := Rat.mul_pos hp hp
  apply Rat.le_of_mul_le_mul_right (c := C * C) _ hCC
  have h5 : ((C + A) * (C + A) + B * B) / (C * C) * (C * C) = (C + A) * (C + A) + B * B := by grind
  rw [h5]
  grind

theorem om_quarter : nsq (⟨0, 1⟩ + cpow om 512) ≤ ew * ew := by
  have h : 1942668892225729070919461906823518906642406839052139521251812409738904285205208498176 * ((o3 9).1 * (o3 9).1 + ((o3 9).2.2 + (o3 9).2.1) * ((o3 9).2.2 + (o3 9).2.1)) ≤ (o3 9).2.2 * (o3 9).2.2 := by decide +kernel
  have hp : (0 : Rat) < ((o3 9).2.2 : Rat) := Rat.intCast_pos.2 (o3_pos 9)
  have h2 := Rat.intCast_le_intCast.2 h
  simp only [Rat.intCast_add, Rat.intCast_mul] at h2
  rw [show 512 = 2 ^ 9 by decide, om_pow 9]
  unfold nsq ew
  simp only [Cx.add_re, Cx.add_im]
  have h4 : ((1942668892225729070919461906823518906642406839052139521251812409738904285205208498176 : Int) : Rat) = 1942668892225729070919461906823518906642406839052139521251812409738904285205208498176 := rfl
  rw [h4] at h2
  generalize ((o3 9).1 : Rat) = A at *
  generalize ((o3 9).2.1 : Rat) = B at *
  generalize ((o3 9).2.2 : Rat) = C at *
  have h3 : (0 + A / C) * (0 + A / C) + (1 + B / C) * (1 + B / C) = (A * A + (C + B) * (C + B)) / (C * C) := by grind
  rw [h3]
  have hCC := Rat.mul_pos hp hp
  apply Rat.le_of_mul_le_mul_right (c := C * C) _ hCC
  have h5 : (A * A + (C + B) * (C + B)) / (C * C) * (C * C) = A * A + (C + B) * (C + B) := by grind
  rw [h5]
  grind

def baseB : Nat → Cb
  | 0 => (4607182418800017408, 0)
  | 1 => (13830554455654793216, 0)
  | 2 => (0, 13830554455654793216)
  | 3 => (4604544271217802189, 13827916308072577997)
  | 4 => (4606496786581982534, 13823937468626282851)
  | 5 => (4607009347991985328, 13819568926757594635)
  | 6 => (4607139046673687846, 13815099336824566828)
  | 7 => (4607171569234046334, 13810604255004710932)
  | 8 => (4607179706000002317, 13806102785791583870)
  | 9 => (4607181740574479067, 13801599718827935620)
  | 10 => (4607182249242036882, 13797096252370255985)
  | 11 => (4607182376410422530, 13792592686035543226)
  | _ => (0, 0)
theorem base_chk (z : Cb) (j : Nat) (s1 s2 : Bool) (m1 m2 d1 d2 : Nat) (l1 : z.1 < 18446744073709551616) (l2 : z.2 < 18446744073709551616)
    (h1 : Ieee.double.read z.1 = .number s1 m1 (-(d1 : Int))) (h2 : Ieee.double.read z.2 = .number s2 m2 (-(d2 : Int)))
    (b1 : m1 ≤ 2 * 2 ^ d1) (b2 : m2 ≤ 2 * 2 ^ d2)
    (hc : 1298074214633706907132624082305024 * (((sv s1 m1 * (o3 j).2.2 - (o3 j).1 * 2 ^ d1) * 2 ^ d2) * ((sv s1 m1 * (o3 j).2.2 - (o3 j).1 * 2 ^ d1) * 2 ^ d2) + ((sv s2 m2 * (o3 j).2.2 - (o3 j).2.1 * 2 ^ d2) * 2 ^ d1) * ((sv s2 m2 * (o3 j).2.2 - (o3 j).2.1 * 2 ^ d2) * 2 ^ d1)) ≤ 9 * ((2 ^ d1 * 2 ^ d2 * (o3 j).2.2) * (2 ^ d1 * 2 ^ d2 * (o3 j).2.2))) :
    Gd 1 z ∧ nsq (cval z - cpow om (2 ^ j)) ≤ (3 / 4 * uu) * (3 / 4 * uu) := by
  have key : ∀ (s : Bool) (m d : Nat), nv s m (-(d : Int)) * ((2 ^ d : Int) : Rat) = ((sv s m : Int) : Rat) := by
    intro s m d
    have e1 : (2 : Rat) ^ (-(d : Int)) * ((2 ^ d : Nat) : Rat) = 1 := by rw [← z2_split (a := -(d : Int)) (b := 0) (n := d) (by omega), Rat.zpow_zero]
    have e2 : ((2 ^ d : Int) : Rat) = ((2 ^ d : Nat) : Rat) := by
      rw [← Rat.intCast_natCast, Int.natCast_pow]; rfl
    rw [e2]
    unfold nv sgn sv
    cases s
    · rw [if_neg (by decide), if_neg (by decide), Rat.intCast_natCast, Rat.one_mul, Rat.mul_assoc, e1]; grind
    · rw [if_pos rfl, if_pos rfl, Rat.intCast_neg, Rat.intCast_natCast]
      have : -1 * ((m : Rat) * 2 ^ (-(d : Int))) * ((2 ^ d : Nat) : Rat) = -1 * ((m : Rat) * (2 ^ (-(d : Int)) * ((2 ^ d : Nat) : Rat))) := by grind
      rw [this, e1]; grind
  have hpw : ∀ d : Nat, (0 : Rat) < ((2 ^ d : Int) : Rat) := fun d => Rat.intCast_pos.2 (Int.pow_pos (by decide))
  have bnd : ∀ (s : Bool) (m d : Nat), m ≤ 2 * 2 ^ d → ab (nv s m (-(d : Int))) ≤ 2 ^ ((1 : Nat) : Int) := by
    intro s m d h
    rw [ab_nv]
    have e1 : (2 : Rat) ^ (-(d : Int)) * ((2 ^ d : Nat) : Rat) = 1 := by rw [← z2_split (a := -(d : Int)) (b := 0) (n := d) (by omega), Rat.zpow_zero]
    have h3 := Rat.natCast_le_natCast.2 h
    rw [Rat.natCast_mul] at h3
    have h4 := Rat.mul_le_mul_of_nonneg_right h3 (Rat.le_of_lt (z2_pos (-(d : Int))))
    have h5 : (2 : Rat) ^ ((1 : Nat) : Int) = 2 := Rat.zpow_one 2
    rw [h5]
    have h6 : ((2 : Nat) : Rat) * ((2 ^ d : Nat) : Rat) * 2 ^ (-(d : Int)) = 2 * (2 ^ (-(d : Int)) * ((2 ^ d : Nat) : Rat)) := by
      rw [show ((2 : Nat) : Rat) = 2 from rfl]; grind
    rw [h6, e1] at h4
    grind
  have n1 : Num z.1 (nv s1 m1 (-(d1 : Int))) := ⟨l1, s1, m1, _, h1, rfl⟩
  have n2 : Num z.2 (nv s2 m2 (-(d2 : Int))) := ⟨l2, s2, m2, _, h2, rfl⟩
  have v1 := n1.val
  have v2 := n2.val
  refine ⟨⟨by rw [v1]; exact n1, by rw [v2]; exact n2, by rw [v1]; exact bnd _ _ _ b1, by rw [v2]; exact bnd _ _ _ b2⟩, ?_⟩
  have k1 := key s1 m1 d1
  have k2 := key s2 m2 d2
  have p1 := hpw d1
  have p2 := hpw d2
  have hp : (0 : Rat) < ((o3 j).2.2 : Rat) := Rat.intCast_pos.2 (o3_pos j)
  have hc2 := Rat.intCast_le_intCast.2 hc
  simp only [Rat.intCast_add, Rat.intCast_mul, Rat.intCast_sub] at hc2
  rw [om_pow]
  unfold nsq cval uu
  simp only [Cx.sub_re, Cx.sub_im]
  rw [v1, v2]
  have c1 : ((1298074214633706907132624082305024 : Int) : Rat) = 1298074214633706907132624082305024 := rfl
  have c2 : ((9 : Int) : Rat) = 9 := rfl
  rw [c1, c2, ← k1, ← k2] at hc2
  generalize nv s1 m1 (-(d1 : Int)) = x at *
  generalize nv s2 m2 (-(d2 : Int)) = y at *
  generalize ((2 ^ d1 : Int) : Rat) = T1 at *
  generalize ((2 ^ d2 : Int) : Rat) = T2 at *
  generalize ((o3 j).1 : Rat) = A at *
  generalize ((o3 j).2.1 : Rat) = B at *
  generalize ((o3 j).2.2 : Rat) = C at *
  have hD : 0 < T1 * T2 * C := Rat.mul_pos (Rat.mul_pos p1 p2) hp
  have hDD := Rat.mul_pos hD hD
  have f1 : (x * T1 * C - A * T1) * T2 = (x - A / C) * (T1 * T2 * C) := by grind
  have f2 : (y * T2 * C - B * T2) * T1 = (y - B / C) * (T1 * T2 * C) := by grind
  rw [f1, f2] at hc2
  generalize T1 * T2 * C = D at *
  generalize x - A / C = X at *
  generalize y - B / C = Y at *
  apply Rat.le_of_mul_le_mul_right (c := D * D) _ hDD
  grind
theorem base2_ok : Gd 1 (baseB 2) ∧ nsq (cval (baseB 2) - cpow om (2 ^ 9)) ≤ (3 / 4 * uu) * (3 / 4 * uu) :=
  base_chk (baseB 2) 9 false true 0 4503599627370496 1074 52 (by decide +kernel) (by decide +kernel) (by decide +kernel) (by decide +kernel) (by decide +kernel) (by decide +kernel) (by decide +kernel)
theorem base3_ok : Gd 1 (baseB 3) ∧ nsq (cval (baseB 3) - cpow om (2 ^ 8)) ≤ (3 / 4 * uu) * (3 / 4 * uu) :=
  base_chk (baseB 3) 8 false true 6369051672525773 6369051672525773 53 53 (by decide +kernel) (by decide +kernel) (by decide +kernel) (by decide +kernel) (by decide +kernel) (by decide +kernel) (by decide +kernel)
theorem base4_ok : Gd 1 (baseB 4) ∧ nsq (cval (baseB 4) - cpow om (2 ^ 7)) ≤ (3 / 4 * uu) * (3 / 4 * uu) :=
  base_chk (baseB 4) 7 false true 8321567036706118 6893811853601123 53 54 (by decide +kernel) (by decide +kernel) (by decide +kernel) (by decide +kernel) (by decide +kernel) (by decide +kernel) (by decide +kernel)
theorem base5_ok : Gd 1 (baseB 5) ∧ nsq (cval (baseB 5) - cpow om (2 ^ 6)) ≤ (3 / 4 * uu) * (3 / 4 * uu) :=
  base_chk (baseB 5) 6 false true 8834128446708912 7028869612283403 53 55 (by decide +kernel) (by decide +kernel) (by decide +kernel) (by decide +kernel) (by decide +kernel) (by decide +kernel) (by decide +kernel)
theorem base6_ok : Gd 1 (baseB 6) ∧ nsq (cval (baseB 6) - cpow om (2 ^ 5)) ≤ (3 / 4 * uu) * (3 / 4 * uu) :=
  base_chk (baseB 6) 5 false true 8963827128411430 7062879306626092 53 56 (by decide +kernel) (by decide +kernel) (by decide +kernel) (by decide +kernel) (by decide +kernel) (by decide +kernel) (by decide +kernel)
theorem base7_ok : Gd 1 (baseB 7) ∧ nsq (cval (baseB 7) - cpow om (2 ^ 4)) ≤ (3 / 4 * uu) * (3 / 4 * uu) :=
  base_chk (baseB 7) 4 false true 8996349688769918 7071397114140692 53 57 (by decide +kernel) (by decide +kernel) (by decide +kernel) (by decide +kernel) (by decide +kernel) (by decide +kernel) (by decide +kernel)
theorem base8_ok : Gd 1 (baseB 8) ∧ nsq (cval (baseB 8) - cpow om (2 ^ 3)) ≤ (3 / 4 * uu) * (3 / 4 * uu) :=
  base_chk (baseB 8) 3 false true 9004486454725901 7073527528384126 53 58 (by decide +kernel) (by decide +kernel) (by decide +kernel) (by decide +kernel) (by decide +kernel) (by decide +kernel) (by decide +kernel)
theorem base9_ok : Gd 1 (baseB 9) ∧ nsq (cval (baseB 9) - cpow om (2 ^ 2)) ≤ (3 / 4 * uu) * (3 / 4 * uu) :=
  base_chk (baseB 9) 2 false true 9006521029202651 7074060192106372 53 59 (by decide +kernel) (by decide +kernel) (by decide +kernel) (by decide +kernel) (by decide +kernel) (by decide +kernel) (by decide +kernel)
theorem base10_ok : Gd 1 (baseB 10) ∧ nsq (cval (baseB 10) - cpow om (2 ^ 1)) ≤ (3 / 4 * uu) * (3 / 4 * uu) :=
  base_chk (baseB 10) 1 false true 9007029696760466 7074193361797233 53 60 (by decide +kernel) (by decide +kernel) (by decide +kernel) (by decide +kernel) (by decide +kernel) (by decide +kernel) (by decide +kernel)
theorem base11_ok : Gd 1 (baseB 11) ∧ nsq (cval (baseB 11) - cpow om (2 ^ 0)) ≤ (3 / 4 * uu) * (3 / 4 * uu) :=
  base_chk (baseB 11) 0 false true 9007156865146114 7074226654454970 53 61 (by decide +kernel) (by decide +kernel) (by decide +kernel) (by decide +kernel) (by decide +kernel) (by decide +kernel) (by decide +kernel)
end Go.Proofs.Ygctag
