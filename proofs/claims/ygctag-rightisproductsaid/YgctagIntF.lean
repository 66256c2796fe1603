import Derived.Test.YgctagFloat
namespace Go.Proofs.Ygctag

/-! ### Whole numbers below 2^53 as floats -/

theorem log2_mul_pow (V k : Nat) (hV : V ≠ 0) : (V * 2 ^ k).log2 = V.log2 + k := by
  have h0 : V * 2 ^ k ≠ 0 := Nat.mul_ne_zero hV (Nat.ne_of_gt (Nat.two_pow_pos k))
  apply Nat.le_antisymm
  · have h1 : V * 2 ^ k < 2 ^ (V.log2 + k + 1) := by
      have := Nat.lt_log2_self (n := V)
      calc V * 2 ^ k < 2 ^ (V.log2 + 1) * 2 ^ k := Nat.mul_lt_mul_of_pos_right this (Nat.two_pow_pos k)
        _ = 2 ^ (V.log2 + k + 1) := by rw [← Nat.pow_add]; congr 1; omega
    have := (Nat.log2_lt h0).2 h1
    omega
  · have h1 : 2 ^ (V.log2 + k) ≤ V * 2 ^ k := by
      rw [Nat.pow_add]
      exact Nat.mul_le_mul_right _ (Nat.log2_self_le hV)
    exact (Nat.le_log2 h0).2 h1

/-- The rung of a whole number. -/
def rungN (V : Nat) : Nat := (V.log2 + 1022) * 2 ^ 52 + V * 2 ^ (52 - V.log2)

theorem log2_le_52 {V : Nat} (hV : V ≠ 0) (h : V < 2 ^ 53) : V.log2 ≤ 52 := by
  have := (Nat.log2_lt hV).2 h
  omega

theorem sig_bounds {V : Nat} (hV : V ≠ 0) (h : V < 2 ^ 53) : 2 ^ 52 ≤ V * 2 ^ (52 - V.log2) ∧ V * 2 ^ (52 - V.log2) < 2 ^ 53 := by
  have hl := log2_le_52 hV h
  constructor
  · have := Nat.log2_self_le hV
    calc 2 ^ 52 = 2 ^ V.log2 * 2 ^ (52 - V.log2) := by rw [← Nat.pow_add]; congr 1; omega
      _ ≤ V * 2 ^ (52 - V.log2) := Nat.mul_le_mul_right _ this
  · have := Nat.lt_log2_self (n := V)
    calc V * 2 ^ (52 - V.log2) < 2 ^ (V.log2 + 1) * 2 ^ (52 - V.log2) := Nat.mul_lt_mul_of_pos_right this (Nat.two_pow_pos _)
      _ = 2 ^ 53 := by rw [← Nat.pow_add]; congr 1; omega

theorem cut_zero (s : Bool) (n : Nat) : Ieee.Toward.even.cut s n 0 = n := by
  unfold Ieee.Toward.cut
  simp [Nat.mod_one]

theorem cut_exact (s : Bool) (m d : Nat) (hm : m ≠ 0) : Ieee.Toward.even.cut s (m * 2 ^ d) d = m := by
  unfold Ieee.Toward.cut
  have hl := log2_mul_pow m d hm
  have hmin : min d ((m * 2 ^ d).log2 + 2) = d := by omega
  simp only [hmin, Nat.one_shiftLeft]
  rw [Nat.mul_div_cancel _ (Nat.two_pow_pos d), Nat.mul_mod_left]
  simp

theorem min_small (x y : Nat) (h1 : x ≤ 4836865999795912704) (h2 : y < 9007199254740992) : min (x + y) 9218868437227405312 = x + y := by omega

theorem nearest_exact (s : Bool) (V mag : Nat) (place : Int) (hV : V ≠ 0) (h53 : V < 2 ^ 53) (h : mag * 2 ^ place.toNat = V * 2 ^ (-place).toNat) :
    Ieee.double.nearest s mag place = Ieee.double.word s (rungN V) := by
  have hl := log2_le_52 hV h53
  have hm : mag ≠ 0 := by
    intro e
    rw [e, Nat.zero_mul] at h
    exact Nat.mul_ne_zero hV (Nat.ne_of_gt (Nat.two_pow_pos _)) h.symm
  have hlog : (mag.log2 : Int) + place = V.log2 := by
    have := congrArg Nat.log2 h
    rw [log2_mul_pow _ _ hm, log2_mul_pow _ _ hV] at this
    omega
  have hlp : Ieee.double.leastPlace = -1074 := rfl
  have hfb : (Ieee.double.fractionBits : Int) = 52 := rfl
  have hbin : Ieee.double.binade = 2 ^ 52 := rfl
  unfold Ieee.Format.nearest
  rw [if_neg hm]
  dsimp only
  have hlast : max (place + (mag.log2 : Int) - (Ieee.double.fractionBits : Int)) Ieee.double.leastPlace = (V.log2 : Int) - 52 := by
    rw [hlp, hfb]; omega
  rw [hlast, hlp, hbin]
  have hkept : Ieee.Toward.even.cut s (mag <<< (place - ((V.log2 : Int) - 52)).toNat) (((V.log2 : Int) - 52) - place).toNat = V * 2 ^ (52 - V.log2) := by
    rw [Nat.shiftLeft_eq]
    by_cases hc : (V.log2 : Int) - 52 ≤ place
    · rw [show (((V.log2 : Int) - 52) - place).toNat = 0 by omega, cut_zero]
      by_cases hp : 0 ≤ place
      · rw [show (-place).toNat = 0 by omega, Nat.pow_zero, Nat.mul_one] at h
        rw [show (place - ((V.log2 : Int) - 52)).toNat = place.toNat + (52 - V.log2) by omega, Nat.pow_add, ← Nat.mul_assoc, h]
      · rw [show place.toNat = 0 by omega, Nat.pow_zero, Nat.mul_one] at h
        rw [h, Nat.mul_assoc, ← Nat.pow_add]
        congr 2
        omega
    · rw [show (place - ((V.log2 : Int) - 52)).toNat = 0 by omega, Nat.pow_zero, Nat.mul_one]
      rw [show place.toNat = 0 by omega, Nat.pow_zero, Nat.mul_one] at h
      have e : mag = V * 2 ^ (52 - V.log2) * 2 ^ (((V.log2 : Int) - 52) - place).toNat := by
        rw [h, Nat.mul_assoc, ← Nat.pow_add]
        congr 2
        omega
      rw [e]
      exact cut_exact s _ _ (Nat.mul_ne_zero hV (Nat.ne_of_gt (Nat.two_pow_pos _)))
  rw [hkept]
  have hb := sig_bounds hV h53
  have e1 : (((V.log2 : Int) - 52) - -1074).toNat = V.log2 + 1022 := by omega
  rw [e1, dbl_inf]
  have h1 : (V.log2 + 1022) * 2 ^ 52 ≤ (52 + 1022) * 2 ^ 52 := Nat.mul_le_mul_right _ (by omega)
  have e2 : min ((V.log2 + 1022) * 2 ^ 52 + V * 2 ^ (52 - V.log2)) 9218868437227405312 = rungN V := by
    unfold rungN
    exact min_small _ _ (Nat.le_trans h1 (by decide)) (Nat.lt_of_lt_of_le hb.2 (by decide))
  rw [e2]

theorem rung_lt (a y : Nat) (ha : a ≤ 1074) (h1 : 4503599627370496 ≤ y) (h2 : y < 9007199254740992) :
    a * 4503599627370496 + y < 9218868437227405312 ∧ 4503599627370496 ≤ a * 4503599627370496 + y ∧ (a * 4503599627370496 + y) / 4503599627370496 = a + 1 ∧ (a * 4503599627370496 + y) % 4503599627370496 = y - 4503599627370496 := by omega

theorem word_sign (s : Bool) (r : Nat) (h : r < 9223372036854775808) : (Ieee.double.word s r / 9223372036854775808 % 2 == 1) = s := by
  unfold Ieee.Format.word
  rw [dbl_sign]
  cases s
  · simp; omega
  · simp; omega

theorem read_rung (s : Bool) (V : Nat) (hV : V ≠ 0) (h53 : V < 2 ^ 53) :
    Ieee.double.read (Ieee.double.word s (rungN V)) = .number s (V * 2 ^ (52 - V.log2)) ((V.log2 : Int) - 52) := by
  have hl := log2_le_52 hV h53
  have hb := sig_bounds hV h53
  obtain ⟨r1, r2, r3, r4⟩ := rung_lt (V.log2 + 1022) (V * 2 ^ (52 - V.log2)) (by omega) (Nat.le_trans (by decide) hb.1) (Nat.lt_of_lt_of_le hb.2 (by decide))
  have e : rungN V = (V.log2 + 1022) * 4503599627370496 + V * 2 ^ (52 - V.log2) := by unfold rungN; rw [show (2 : Nat) ^ 52 = 4503599627370496 by decide]
  rw [← e] at r1 r2 r3 r4
  have hlt : rungN V < 9223372036854775808 := by omega
  have hw := word_mod s (rungN V) hlt
  have hs := word_sign s (rungN V) hlt
  have hbin : Ieee.double.binade = 4503599627370496 := rfl
  have hlp : Ieee.double.leastPlace = -1074 := rfl
  unfold Ieee.Format.read
  dsimp only
  rw [dbl_sign, hw, hs, hbin, dbl_inf, hlp, if_neg (by omega), if_pos r1, r3, r4]
  have e1 : 4503599627370496 + (V * 2 ^ (52 - V.log2) - 4503599627370496) = V * 2 ^ (52 - V.log2) := Nat.add_sub_cancel' (Nat.le_trans (by decide) hb.1)
  rw [e1, show (-1074 : Int) + ((V.log2 + 1022 + 1 - 1 : Nat) : Int) = (V.log2 : Int) - 52 by omega]

theorem read_zero (s : Bool) : Ieee.double.read (Ieee.double.word s 0) = .number s 0 (-1074) := by cases s <;> rfl
theorem nearest_zero (s : Bool) (p : Int) : Ieee.double.nearest s 0 p = Ieee.double.word s 0 := rfl

/-- A whole number with a sign (a zero has one too) as a float's bits. -/
def fz (s : Bool) (V : Nat) : Nat := if V = 0 then Ieee.double.word s 0 else Ieee.double.word s (rungN V)
/-- float64(n), |n| below 2^53. -/
def fi (n : Int) : Nat := fz (decide (n < 0)) n.natAbs

theorem read_fz (s : Bool) (V : Nat) (h53 : V < 2 ^ 53) : ∃ (k : Nat), Ieee.double.read (fz s V) = .number s (V * 2 ^ k) (-(k : Int)) := by
  unfold fz
  by_cases h : V = 0
  · subst h
    rw [if_pos rfl, read_zero]
    exact ⟨1074, by simp only [Nat.zero_mul]; rfl⟩
  · rw [if_neg h, read_rung s V h h53]
    have := log2_le_52 h h53
    refine ⟨52 - V.log2, ?_⟩
    rw [show (V.log2 : Int) - 52 = -((52 - V.log2 : Nat) : Int) by omega]

theorem write_fz (s : Bool) (V k : Nat) (h53 : V < 2 ^ 53) : Ieee.double.write (.number s (V * 2 ^ k) (-(k : Int))) = fz s V := by
  show Ieee.double.nearest s (V * 2 ^ k) (-(k : Int)) = _
  unfold fz
  by_cases h : V = 0
  · subst h
    rw [if_pos rfl, Nat.zero_mul]
    rfl
  · rw [if_neg h]
    refine nearest_exact s V _ _ h h53 ?_
    rw [show (-(k : Int)).toNat = 0 by omega, show (- -(k : Int)).toNat = k by omega, Nat.pow_zero, Nat.mul_one]

theorem mul_fz (s t : Bool) (V W : Nat) (hV : V < 2 ^ 53) (hW : W < 2 ^ 53) (h : V * W < 2 ^ 53) : Ieee.double.mul (fz s V) (fz t W) = some (fz (s ^^ t) (V * W)) := by
  obtain ⟨i, hi⟩ := read_fz s V hV
  obtain ⟨j, hj⟩ := read_fz t W hW
  unfold Ieee.Format.mul
  rw [hi, hj]
  show some (Ieee.double.write (.number (s ^^ t) (V * 2 ^ i * (W * 2 ^ j)) (-(i : Int) + -(j : Int)))) = _
  rw [show V * 2 ^ i * (W * 2 ^ j) = V * W * 2 ^ (i + j) by rw [Nat.pow_add]; ac_rfl, show -(i : Int) + -(j : Int) = -((i + j : Nat) : Int) by omega, write_fz _ _ _ h]

/-- The integer of a sign and a magnitude. -/
def sv (s : Bool) (V : Nat) : Int := if s then -(V : Int) else (V : Int)

theorem signed_sv (s : Bool) (V k d : Nat) : Ieee.signed s (V * 2 ^ k) d = sv s V * ((2 ^ (k + d) : Nat) : Int) := by
  unfold Ieee.signed sv
  rw [Nat.shiftLeft_eq, Nat.mul_assoc, ← Nat.pow_add]
  cases s
  · simp
  · simp [Int.neg_mul]

theorem add_fz (s t : Bool) (V W : Nat) (hV : V < 2 ^ 53) (hW : W < 2 ^ 53) (h : (sv s V + sv t W).natAbs < 2 ^ 53) :
    Ieee.double.add (fz s V) (fz t W) = some (fz (if sv s V + sv t W = 0 then s && t else decide (sv s V + sv t W < 0)) (sv s V + sv t W).natAbs) := by
  obtain ⟨i, hi⟩ := read_fz s V hV
  obtain ⟨j, hj⟩ := read_fz t W hW
  unfold Ieee.Format.add
  rw [hi, hj]
  obtain ⟨b, hb⟩ : ∃ b, b = max i j := ⟨_, rfl⟩
  have e0 : min (-(i : Int)) (-(j : Int)) = -(b : Int) := by omega
  have e1 : (-(i : Int) - -(b : Int)).toNat = b - i := by omega
  have e2 : (-(j : Int) - -(b : Int)).toNat = b - j := by omega
  have hp : (0 : Int) < ((2 ^ b : Nat) : Int) := by exact_mod_cast Nat.two_pow_pos b
  have et : Ieee.signed s (V * 2 ^ i) (b - i) + Ieee.signed t (W * 2 ^ j) (b - j) = (sv s V + sv t W) * ((2 ^ b : Nat) : Int) := by
    rw [signed_sv, signed_sv, show i + (b - i) = b by omega, show j + (b - j) = b by omega, Int.add_mul]
  show Option.map Ieee.double.write (some (Ieee.Datum.number
    (if Ieee.signed s (V * 2 ^ i) (-(i : Int) - min (-(i : Int)) (-(j : Int))).toNat + Ieee.signed t (W * 2 ^ j) (-(j : Int) - min (-(i : Int)) (-(j : Int))).toNat = 0 then s && t
      else decide (Ieee.signed s (V * 2 ^ i) (-(i : Int) - min (-(i : Int)) (-(j : Int))).toNat + Ieee.signed t (W * 2 ^ j) (-(j : Int) - min (-(i : Int)) (-(j : Int))).toNat < 0))
    (Ieee.signed s (V * 2 ^ i) (-(i : Int) - min (-(i : Int)) (-(j : Int))).toNat + Ieee.signed t (W * 2 ^ j) (-(j : Int) - min (-(i : Int)) (-(j : Int))).toNat).natAbs
    (min (-(i : Int)) (-(j : Int))))) = _
  rw [e0, e1, e2, et]
  generalize sv s V + sv t W = T at *
  have c1 : (T * ((2 ^ b : Nat) : Int) = 0) = (T = 0) := by
    apply propext
    constructor
    · intro h0
      rcases Int.mul_eq_zero.1 h0 with h0 | h0
      · exact h0
      · omega
    · intro h0; rw [h0, Int.zero_mul]
  have c2 : (T * ((2 ^ b : Nat) : Int) < 0) = (T < 0) := by
    apply propext
    constructor
    · intro h0
      by_cases h1 : T < 0
      · exact h1
      · have := Int.mul_nonneg (show 0 ≤ T by omega) (Int.le_of_lt hp)
        omega
    · intro h0
      exact Int.mul_neg_of_neg_of_pos h0 hp
  have c3 : (T * ((2 ^ b : Nat) : Int)).natAbs = T.natAbs * 2 ^ b := by rw [Int.natAbs_mul, Int.natAbs_natCast]
  simp only [c1, c2, c3]
  show some (Ieee.double.write _) = _
  rw [write_fz _ _ _ h]

end Go.Proofs.Ygctag
