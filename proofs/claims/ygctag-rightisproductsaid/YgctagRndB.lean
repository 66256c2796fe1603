import Derived.Test.YgctagRnd
namespace Go.Proofs.Ygctag

theorem signed_val (s : Bool) (m up : Nat) : ((Ieee.signed s m up : Int) : Rat) = sgn s * ((m : Rat) * ((2 ^ up : Nat) : Rat)) := by
  unfold Ieee.signed sgn
  cases s
  · rw [if_neg (by decide), if_neg (by decide), Nat.shiftLeft_eq, Rat.intCast_natCast, Rat.natCast_mul]; grind
  · rw [if_pos rfl, if_pos rfl, Nat.shiftLeft_eq, Rat.intCast_neg, Rat.intCast_natCast, Rat.natCast_mul]; grind
theorem nv_total (T : Int) (z : Bool) (e : Int) : nv (if T = 0 then z else decide (T < 0)) T.natAbs e = (T : Rat) * 2 ^ e := by
  unfold nv
  by_cases h : T = 0
  · subst h
    rw [if_pos rfl, show ((Int.natAbs 0 : Nat) : Rat) = 0 from rfl, show ((0 : Int) : Rat) = 0 from rfl]
    grind
  · rw [if_neg h]
    by_cases h1 : T < 0
    · have e1 : (T : Rat) = -((T.natAbs : Nat) : Rat) := by
        rw [← Rat.intCast_natCast, ← Rat.intCast_neg]; congr 1; omega
      rw [e1]
      unfold sgn
      rw [if_pos (by simpa using h1)]
      grind
    · have e1 : (T : Rat) = ((T.natAbs : Nat) : Rat) := by
        rw [← Rat.intCast_natCast]; congr 1; omega
      rw [e1]
      unfold sgn
      rw [if_neg (by simpa using h1)]
      grind
theorem nv_place (s : Bool) (m : Nat) (i b : Int) (h : b ≤ i) : nv s m i = ((Ieee.signed s m (i - b).toNat : Int) : Rat) * 2 ^ b := by
  rw [signed_val]
  unfold nv
  rw [z2_split (a := b) (b := i) (n := (i - b).toNat) (by omega)]
  grind

/-- Rounded once. -/
def Rd (z x : Rat) : Prop := ab (z - x) ≤ uu * ab x + eta

theorem write_num (s : Bool) (m : Nat) (e : Int) (hb : ab (nv s m e) ≤ 2 ^ (1000 : Int)) : ∃ y, Num (Ieee.double.write (.number s m e)) y ∧ Rd y (nv s m e) := by
  rw [ab_nv] at hb
  obtain ⟨y, h1, h2⟩ := nearest_num s m e hb
  refine ⟨y, h1, ?_⟩
  unfold Rd
  rw [ab_nv]
  exact h2

theorem sum_num (s t : Bool) (m n : Nat) (i j : Int) (hb : ab (nv s m i + nv t n j) ≤ 2 ^ (1000 : Int)) :
    ∃ r z, ((Ieee.Datum.number s m i).sum (.number t n j)).map Ieee.double.write = some r ∧ Num r z ∧ Rd z (nv s m i + nv t n j) := by
  obtain ⟨b, hbb⟩ : ∃ b, b = min i j := ⟨_, rfl⟩
  obtain ⟨T, hT⟩ : ∃ T, T = Ieee.signed s m (i - b).toNat + Ieee.signed t n (j - b).toNat := ⟨_, rfl⟩
  have e : nv s m i + nv t n j = nv (if T = 0 then s && t else decide (T < 0)) T.natAbs b := by
    rw [nv_total, hT, Rat.intCast_add, Rat.add_mul, ← nv_place s m i b (by omega), ← nv_place t n j b (by omega)]
  rw [e] at hb
  obtain ⟨y, h1, h2⟩ := write_num _ _ _ hb
  refine ⟨_, y, ?_, h1, by rw [e]; exact h2⟩
  show some (Ieee.double.write (.number _ _ _)) = _
  rw [hT, hbb]

theorem add_num {a b : Nat} {x y : Rat} (ha : Num a x) (hb : Num b y) (h : ab (x + y) ≤ 2 ^ (1000 : Int)) : ∃ r z, floatBits .add .f64 a b = some r ∧ Num r z ∧ Rd z (x + y) := by
  obtain ⟨-, s, m, i, h1, rfl⟩ := ha
  obtain ⟨-, t, n, j, h2, rfl⟩ := hb
  obtain ⟨r, z, h3, h4⟩ := sum_num s t m n i j h
  refine ⟨r, z, ?_, h4⟩
  show ((Ieee.double.read a).sum (Ieee.double.read b)).map Ieee.double.write = _
  rw [h1, h2]; exact h3
theorem nv_not (t : Bool) (n : Nat) (j : Int) : nv (!t) n j = -nv t n j := by
  unfold nv sgn
  cases t <;> simp <;> grind
theorem sub_num {a b : Nat} {x y : Rat} (ha : Num a x) (hb : Num b y) (h : ab (x - y) ≤ 2 ^ (1000 : Int)) : ∃ r z, floatBits .sub .f64 a b = some r ∧ Num r z ∧ Rd z (x - y) := by
  obtain ⟨-, s, m, i, h1, rfl⟩ := ha
  obtain ⟨-, t, n, j, h2, rfl⟩ := hb
  rw [show nv s m i - nv t n j = nv s m i + nv (!t) n j by rw [nv_not]; grind] at h ⊢
  obtain ⟨r, z, h3, h4⟩ := sum_num s (!t) m n i j h
  refine ⟨r, z, ?_, h4⟩
  show ((Ieee.double.read a).sum (Ieee.double.read b).opposite).map Ieee.double.write = _
  rw [h1, h2]; exact h3
theorem nv_mul (s t : Bool) (m n : Nat) (i j : Int) : nv (s ^^ t) (m * n) (i + j) = nv s m i * nv t n j := by
  unfold nv
  rw [z2_add, Rat.natCast_mul]
  have : sgn (s ^^ t) = sgn s * sgn t := by unfold sgn; cases s <;> cases t <;> simp <;> grind
  rw [this]
  grind
theorem mul_num {a b : Nat} {x y : Rat} (ha : Num a x) (hb : Num b y) (h : ab (x * y) ≤ 2 ^ (1000 : Int)) : ∃ r z, floatBits .mul .f64 a b = some r ∧ Num r z ∧ Rd z (x * y) := by
  obtain ⟨-, s, m, i, h1, rfl⟩ := ha
  obtain ⟨-, t, n, j, h2, rfl⟩ := hb
  rw [← nv_mul] at h ⊢
  obtain ⟨z, h3, h4⟩ := write_num _ _ _ h
  refine ⟨_, z, ?_, h3, h4⟩
  show ((Ieee.double.read a).product (Ieee.double.read b)).map Ieee.double.write = _
  rw [h1, h2]; rfl
theorem fz_lt (s : Bool) (V : Nat) (h : V < 2 ^ 53) : fz s V < 18446744073709551616 := by
  unfold fz
  split
  · exact word_lt64 s (by decide)
  · next h0 =>
    refine word_lt64 s ?_
    have h1 := sig_bounds h0 h
    have h2 := log2_le_52 h0 h
    have h3 : (V.log2 + 1022) * 2 ^ 52 ≤ (52 + 1022) * 2 ^ 52 := Nat.mul_le_mul_right _ (by omega)
    unfold rungN
    omega
theorem num_fi (n : Int) (h : n.natAbs < 2 ^ 53) : Num (fi n) (n : Rat) := by
  obtain ⟨k, hk⟩ := read_fz (decide (n < 0)) n.natAbs h
  refine ⟨fz_lt _ _ h, _, _, _, hk, ?_⟩
  have h0 := nv_total n false 0
  have e1 : (n : Rat) = nv (if n = 0 then false else decide (n < 0)) n.natAbs 0 := by rw [h0, Rat.zpow_zero]; grind
  have e2 : nv (decide (n < 0)) (n.natAbs * 2 ^ k) (-(k : Int)) = nv (decide (n < 0)) n.natAbs 0 := by
    unfold nv
    rw [z2_split (a := -(k : Int)) (b := 0) (n := k) (by omega), Rat.natCast_mul]
    grind
  rw [e2, e1]
  by_cases h1 : n = 0
  · subst h1
    rfl
  · rw [if_neg h1]
/-- The number of a float is its own. -/
theorem Num.det {b : Nat} {x y : Rat} (h : Num b x) (g : Num b y) : x = y := by
  obtain ⟨-, s, m, i, h1, rfl⟩ := h
  obtain ⟨-, t, n, j, h2, rfl⟩ := g
  rw [h1] at h2
  injection h2 with a b c
  subst a b c
  rfl

theorem xor_top {c : Nat} (h : c < 2 ^ 63) : c ^^^ 2 ^ 63 = 2 ^ 63 + c := by
  have h3 : 2 ^ 63 * 1 + c = 2 ^ 63 * 1 ||| c := Nat.two_pow_add_eq_or_of_lt h 1
  rw [Nat.mul_one] at h3
  rw [h3]
  apply Nat.eq_of_testBit_eq
  intro i
  rw [Nat.testBit_xor, Nat.testBit_or, Nat.testBit_two_pow]
  by_cases hi : 63 = i
  · subst hi
    rw [Nat.testBit_lt_two_pow h]
    simp
  · simp [hi]
/-- The sign turned. -/
theorem neg_num {b : Nat} {x : Rat} (h : Num b x) : Num (Op.negFloat .f64 b) (-x) := by
  obtain ⟨hb, s, m, i, h1, rfl⟩ := h
  have e : Op.negFloat .f64 b = b ^^^ 2 ^ 63 := rfl
  have key : ∃ t : Bool, b ^^^ 2 ^ 63 = (if t then 9223372036854775808 else 0) + b % 9223372036854775808 ∧ b / 9223372036854775808 % 2 = (if t then 0 else 1) := by
    have hx : b ^^^ 2 ^ 63 = if b < 2 ^ 63 then 2 ^ 63 + b else b - 2 ^ 63 := by
      by_cases hc : b < 2 ^ 63
      · rw [if_pos hc]
        exact xor_top hc
      · rw [if_neg hc]
        obtain ⟨c, rfl⟩ : ∃ c, b = 2 ^ 63 + c := ⟨b - 2 ^ 63, by omega⟩
        have hc2 : c < 2 ^ 63 := by omega
        rw [← xor_top hc2, Nat.xor_assoc, Nat.xor_self, Nat.xor_zero, xor_top hc2]
        omega
    by_cases hc : b < 2 ^ 63
    · exact ⟨true, by rw [hx, if_pos hc, if_pos rfl]; omega, by rw [if_pos rfl]; omega⟩
    · exact ⟨false, by rw [hx, if_neg hc, if_neg (by decide)]; omega, by rw [if_neg (by decide)]; omega⟩
  obtain ⟨t, k1, k2⟩ := key
  rw [e, k1]
  have hm : ((if t then 9223372036854775808 else 0) + b % 9223372036854775808) % 9223372036854775808 = b % 9223372036854775808 := by cases t <;> simp
  have hd : (((if t then 9223372036854775808 else 0) + b % 9223372036854775808) / 9223372036854775808 % 2 == 1) = !(b / 9223372036854775808 % 2 == 1) := by
    rw [k2]
    cases t
    · simp
    · simp
  refine ⟨by cases t <;> simp <;> omega, !s, m, i, ?_, (nv_not s m i).symm⟩
  unfold Ieee.Format.read at h1 ⊢
  dsimp only at h1 ⊢
  rw [dbl_sign] at h1 ⊢
  rw [hm, hd]
  generalize (b / 9223372036854775808 % 2 == 1) = q at *
  generalize b % 9223372036854775808 = r at *
  split at h1
  · next hc => rw [if_pos hc]; injection h1 with a b c; subst a b c; rfl
  · next hc =>
    rw [if_neg hc]
    split at h1
    · next hc2 => rw [if_pos hc2]; injection h1 with a b c; subst a b c; rfl
    · split at h1 <;> cases h1
end Go.Proofs.Ygctag
