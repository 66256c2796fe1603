import Derived.Test.YgctagIntF
namespace Go.Proofs.Ygctag

/-! ### Doubles as rationals: the rounding of one operation -/

/-- The absolute value. -/
def ab (x : Rat) : Rat := if 0 ≤ x then x else -x
theorem ab_nonneg (x : Rat) : 0 ≤ ab x := by unfold ab; split <;> grind
theorem ab_le {x b : Rat} (h1 : x ≤ b) (h2 : -x ≤ b) : ab x ≤ b := by unfold ab; split <;> assumption
theorem le_ab (x : Rat) : x ≤ ab x ∧ -x ≤ ab x := by unfold ab; split <;> constructor <;> grind
theorem ab_neg (x : Rat) : ab (-x) = ab x := by unfold ab; split <;> split <;> grind
theorem ab_of_nonneg {x : Rat} (h : 0 ≤ x) : ab x = x := by unfold ab; rw [if_pos h]
theorem ab_mul_nonneg {c : Rat} (x : Rat) (hc : 0 ≤ c) : ab (x * c) = ab x * c := by
  unfold ab
  by_cases h : 0 ≤ x
  · rw [if_pos h, if_pos (Rat.mul_nonneg h hc)]
  · rw [if_neg h]
    by_cases h2 : 0 ≤ x * c
    · rw [if_pos h2]
      have h3 : 0 ≤ -x * c := Rat.mul_nonneg (by grind) hc
      grind
    · rw [if_neg h2]; grind

theorem two_ne : (2 : Rat) ≠ 0 := by decide
theorem z2_add (a b : Int) : (2 : Rat) ^ (a + b) = 2 ^ a * 2 ^ b := Rat.zpow_add two_ne a b
theorem z2_pos (a : Int) : (0 : Rat) < 2 ^ a := Rat.zpow_pos (by decide)
theorem z2_nat (n : Nat) : (2 : Rat) ^ (n : Int) = ((2 ^ n : Nat) : Rat) := by rw [Rat.zpow_natCast, Rat.natCast_pow]; rfl
theorem z2_one_le (n : Nat) : (1 : Rat) ≤ 2 ^ (n : Int) := by
  rw [z2_nat]
  have : ((1 : Nat) : Rat) ≤ ((2 ^ n : Nat) : Rat) := Rat.natCast_le_natCast.2 (Nat.two_pow_pos n)
  exact this
theorem z2_mono {a b : Int} (h : a ≤ b) : (2 : Rat) ^ a ≤ 2 ^ b := by
  obtain ⟨n, rfl⟩ : ∃ n : Nat, b = a + n := ⟨(b - a).toNat, by omega⟩
  rw [z2_add]
  have h1 := z2_one_le n
  have h2 := z2_pos a
  have h3 := Rat.mul_le_mul_of_nonneg_left h1 (Rat.le_of_lt h2)
  grind
theorem z2_split {a b : Int} {n : Nat} (h : b = a + n) : (2 : Rat) ^ b = 2 ^ a * ((2 ^ n : Nat) : Rat) := by rw [h, z2_add, z2_nat]
theorem z2_le {a b : Int} (h : (2 : Rat) ^ a < 2 ^ b) : a < b := by
  rcases Int.lt_or_le a b with h1 | h1
  · exact h1
  · have := z2_mono h1; grind

def sgn (s : Bool) : Rat := if s then -1 else 1
/-- The number of a sign, a magnitude and a place. -/
def nv (s : Bool) (m : Nat) (e : Int) : Rat := sgn s * ((m : Rat) * 2 ^ e)
theorem ab_nv (s : Bool) (m : Nat) (e : Int) : ab (nv s m e) = (m : Rat) * 2 ^ e := by
  have h : 0 ≤ (m : Rat) * 2 ^ e := Rat.mul_nonneg Rat.natCast_nonneg (Rat.le_of_lt (z2_pos e))
  unfold nv sgn
  cases s
  · rw [if_neg (by decide), Rat.one_mul, ab_of_nonneg h]
  · rw [if_pos rfl, show (-1 : Rat) * ((m : Rat) * 2 ^ e) = -((m : Rat) * 2 ^ e) by grind, ab_neg, ab_of_nonneg h]
/-- A finite double and its number. -/
def Num (b : Nat) (x : Rat) : Prop := b < 18446744073709551616 ∧ ∃ s m e, Ieee.double.read b = .number s m e ∧ x = nv s m e
theorem word_lt64 (s : Bool) {r : Nat} (h : r < 9223372036854775808) : Ieee.double.word s r < 18446744073709551616 := by
  unfold Ieee.Format.word
  rw [dbl_sign]
  cases s
  · simp; omega
  · simp; omega

/-- Half a unit. -/
theorem cut_near (s : Bool) (n d : Nat) : 2 * (Ieee.Toward.even.cut s n d * 2 ^ d) ≤ 2 * n + 2 ^ d ∧ 2 * n ≤ 2 * (Ieee.Toward.even.cut s n d * 2 ^ d) + 2 ^ d := by
  unfold Ieee.Toward.cut
  simp only [Nat.one_shiftLeft]
  by_cases h : d ≤ n.log2 + 2
  · rw [Nat.min_eq_left h]
    have hdm := Nat.div_add_mod n (2 ^ d)
    have hm := Nat.mod_lt n (Nat.two_pow_pos d)
    generalize hg : 2 ^ d = g at *
    generalize n / g = q at *
    generalize n % g = r at *
    rw [Nat.mul_comm g q] at hdm
    by_cases hmore : (decide (g < 2 * r) || (g == 2 * r && q % 2 == 1)) = true
    · rw [hmore]
      have hr : g ≤ 2 * r := by simp at hmore; omega
      rw [show true.toNat = 1 from rfl, Nat.add_mul, Nat.one_mul]
      generalize q * g = z at *
      omega
    · have hf : (decide (g < 2 * r) || (g == 2 * r && q % 2 == 1)) = false := by simpa using hmore
      rw [hf]
      have hr : 2 * r ≤ g := by simp at hmore; omega
      rw [show false.toNat = 0 from rfl, Nat.add_zero]
      generalize q * g = z at *
      omega
  · rw [Nat.min_eq_right (by omega)]
    have h1 : 2 * n < 2 ^ (n.log2 + 2) := by
      rcases Nat.eq_zero_or_pos n with h0 | h0
      · subst h0; decide
      · have := Nat.lt_log2_self (n := n)
        rw [Nat.pow_succ] ; omega
    have h2 : 2 ^ (n.log2 + 2) ≤ 2 ^ d := Nat.pow_le_pow_right (by decide) (by omega)
    rw [Nat.div_eq_of_lt (by omega), Nat.mod_eq_of_lt (by omega)]
    have hf : (decide (2 ^ (n.log2 + 2) < 2 * n) || (2 ^ (n.log2 + 2) == 2 * n && 0 % 2 == 1)) = false := by
      simp; omega
    rw [hf]
    simp
    omega

/-- What a rung reads as. -/
theorem read_rungs (s : Bool) (L kept : Nat) (h0 : L = 0 ∨ 4503599627370496 ≤ kept) (h1 : kept ≤ 9007199254740992) (h2 : L ≤ 2040) :
    Num (Ieee.double.word s (L * 4503599627370496 + kept)) (nv s kept ((L : Int) - 1074)) := by
  have hlt : L * 4503599627370496 + kept < 9223372036854775808 := by omega
  have hw := word_mod s _ hlt
  have hs := word_sign s _ hlt
  have hbin : Ieee.double.binade = 4503599627370496 := rfl
  have hlp : Ieee.double.leastPlace = -1074 := rfl
  have hr : Ieee.double.read (Ieee.double.word s (L * 4503599627370496 + kept)) =
      if L * 4503599627370496 + kept < 4503599627370496 then .number s (L * 4503599627370496 + kept) (-1074)
      else .number s (4503599627370496 + (L * 4503599627370496 + kept) % 4503599627370496) (-1074 + ((L * 4503599627370496 + kept) / 4503599627370496 - 1 : Nat)) := by
    unfold Ieee.Format.read
    dsimp only
    rw [dbl_sign, hw, hs, hbin, dbl_inf, hlp]
    by_cases hc : L * 4503599627370496 + kept < 4503599627370496
    · rw [if_pos hc, if_pos hc]
    · rw [if_neg hc, if_neg hc, if_pos (by omega)]
  by_cases hc : L * 4503599627370496 + kept < 4503599627370496
  · have hL : L = 0 := by omega
    subst hL
    rw [if_pos hc] at hr
    refine ⟨word_lt64 s hlt, _, _, _, hr, ?_⟩
    rw [Nat.zero_mul, Nat.zero_add]
    rfl
  · rw [if_neg hc] at hr
    refine ⟨word_lt64 s hlt, _, _, _, hr, ?_⟩
    by_cases h3 : kept = 9007199254740992
    · subst h3
      have e1 : (L * 4503599627370496 + 9007199254740992) % 4503599627370496 = 0 := by omega
      have e2 : (L * 4503599627370496 + 9007199254740992) / 4503599627370496 - 1 = L + 1 := by omega
      rw [e1, e2]
      unfold nv
      have e3 : (2 : Rat) ^ (-1074 + ((L + 1 : Nat) : Int)) = 2 ^ ((L : Int) - 1074) * ((2 ^ 1 : Nat) : Rat) := z2_split (by omega)
      rw [e3]
      have e4 : ((9007199254740992 : Nat) : Rat) = ((4503599627370496 + 0 : Nat) : Rat) * ((2 ^ 1 : Nat) : Rat) := by rw [← Rat.natCast_mul]
      rw [e4]
      grind
    · have e1 : 4503599627370496 + (L * 4503599627370496 + kept) % 4503599627370496 = kept := by omega
      have e2 : (L * 4503599627370496 + kept) / 4503599627370496 - 1 = L := by omega
      rw [e1, e2, show (-1074 : Int) + (L : Int) = (L : Int) - 1074 by omega]

def uu : Rat := 1 / 9007199254740992
def eta : Rat := 2 ^ (-1075 : Int)

set_option maxRecDepth 100000 in
/-- Rounding: half a unit of the last place. -/
theorem nearest_num (s : Bool) (m : Nat) (e : Int) (hb : (m : Rat) * 2 ^ e ≤ 2 ^ (1000 : Int)) :
    ∃ y, Num (Ieee.double.nearest s m e) y ∧ ab (y - nv s m e) ≤ uu * ((m : Rat) * 2 ^ e) + eta := by
  have heta : (0 : Rat) ≤ eta := Rat.le_of_lt (z2_pos _)
  by_cases hm : m = 0
  · subst hm
    refine ⟨nv s 0 (-1074), ⟨by rw [nearest_zero]; exact word_lt64 s (by decide), s, 0, -1074, by rw [nearest_zero, read_zero], rfl⟩, ?_⟩
    have e0 : nv s 0 (-1074) - nv s 0 e = 0 := by
      unfold nv
      rw [show ((0 : Nat) : Rat) = 0 from rfl]; grind
    rw [e0, ab_of_nonneg (by decide), show ((0 : Nat) : Rat) = 0 from rfl]
    grind
  · have hlp : Ieee.double.leastPlace = -1074 := rfl
    have hfb : (Ieee.double.fractionBits : Int) = 52 := rfl
    have hbin : Ieee.double.binade = 4503599627370496 := rfl
    have hl1 := Nat.log2_self_le hm
    have hl2 := Nat.lt_log2_self (n := m)
    obtain ⟨last, hlast⟩ : ∃ last : Int, last = max (e + (m.log2 : Int) - 52) (-1074) := ⟨_, rfl⟩
    obtain ⟨kept, hkept⟩ : ∃ kept, kept = Ieee.Toward.even.cut s (m <<< (e - last).toNat) (last - e).toNat := ⟨_, rfl⟩
    have hnr : Ieee.double.nearest s m e = Ieee.double.word s (min ((last - -1074).toNat * 4503599627370496 + kept) 9218868437227405312) := by
      unfold Ieee.Format.nearest
      rw [if_neg hm]
      dsimp only
      rw [hfb, hlp, hbin, dbl_inf, ← hlast, ← hkept]
    -- bounds of the place
    have hml : ((2 ^ m.log2 : Nat) : Rat) * 2 ^ e ≤ 2 ^ (1000 : Int) := Rat.le_trans (Rat.mul_le_mul_of_nonneg_right (Rat.natCast_le_natCast.2 hl1) (Rat.le_of_lt (z2_pos e))) hb
    have hple : (m.log2 : Int) + e ≤ 1000 := by
      rw [← z2_nat, ← z2_add] at hml
      rcases Int.lt_or_le 1000 ((m.log2 : Int) + e) with h | h
      · exfalso
        have h1 := z2_mono (a := 1001) (b := (m.log2 : Int) + e) (by omega)
        have h2 : (2 : Rat) ^ (1001 : Int) = 2 ^ (1000 : Int) * ((2 ^ 1 : Nat) : Rat) := z2_split (by decide)
        have h3 := z2_pos 1000
        have h4 : ((2 ^ 1 : Nat) : Rat) = 2 := rfl
        rw [h4] at h2
        grind
      · exact h
    -- the cut
    obtain ⟨N, hN⟩ : ∃ N, N = m <<< (e - last).toNat := ⟨_, rfl⟩
    obtain ⟨d, hd⟩ : ∃ d, d = (last - e).toNat := ⟨_, rfl⟩
    have hcn := cut_near s N d
    rw [← hN, ← hd] at hkept
    rw [← hkept] at hcn
    have hNval : (N : Rat) * 2 ^ (last - (d : Int)) = (m : Rat) * 2 ^ e := by
      rw [hN, Nat.shiftLeft_eq, Rat.natCast_mul]
      by_cases hc : last ≤ e
      · have : (d : Int) = 0 := by omega
        rw [this, Int.sub_zero, z2_split (a := last) (b := e) (n := (e - last).toNat) (by omega)]
        grind
      · rw [show (e - last).toNat = 0 by omega, Nat.pow_zero, show last - (d : Int) = e by omega]
        grind
    have h2d : (2 : Rat) ^ last = 2 ^ (last - (d : Int)) * ((2 ^ d : Nat) : Rat) := z2_split (by omega)
    have hpd := z2_pos (last - (d : Int))
    have hc1 : (2 : Rat) * ((kept : Rat) * ((2 ^ d : Nat) : Rat)) ≤ 2 * (N : Rat) + ((2 ^ d : Nat) : Rat) := by
      have := Rat.natCast_le_natCast.2 hcn.1
      rw [Rat.natCast_add, Rat.natCast_mul, Rat.natCast_mul, Rat.natCast_mul] at this
      exact this
    have hc2 : (2 : Rat) * (N : Rat) ≤ 2 * ((kept : Rat) * ((2 ^ d : Nat) : Rat)) + ((2 ^ d : Nat) : Rat) := by
      have := Rat.natCast_le_natCast.2 hcn.2
      rw [Rat.natCast_add, Rat.natCast_mul, Rat.natCast_mul, Rat.natCast_mul] at this
      exact this
    have hk1 : 2 * ((kept : Rat) * 2 ^ last) ≤ 2 * ((m : Rat) * 2 ^ e) + 2 ^ last := by
      have := Rat.mul_le_mul_of_nonneg_right hc1 (Rat.le_of_lt hpd)
      rw [← hNval, h2d]
      grind
    have hk2 : 2 * ((m : Rat) * 2 ^ e) ≤ 2 * ((kept : Rat) * 2 ^ last) + 2 ^ last := by
      have := Rat.mul_le_mul_of_nonneg_right hc2 (Rat.le_of_lt hpd)
      rw [← hNval, h2d]
      grind
    -- the range of what is kept
    have hmlt : (m : Rat) * 2 ^ e < 2 ^ (last + 53) := by
      have h1 : (m : Rat) < ((2 ^ (m.log2 + 1) : Nat) : Rat) := Rat.natCast_lt_natCast.2 hl2
      have h2 := Rat.mul_lt_mul_of_pos_right h1 (z2_pos e)
      rw [← z2_nat, ← z2_add] at h2
      have h3 := z2_mono (a := ((m.log2 + 1 : Nat) : Int) + e) (b := last + 53) (by omega)
      grind
    have hkle : kept ≤ 9007199254740992 := by
      have h3 : (2 : Rat) ^ (last + 53) = 2 ^ last * ((2 ^ 53 : Nat) : Rat) := z2_split (by omega)
      have hpl := z2_pos last
      rcases Nat.lt_or_ge 9007199254740992 kept with h | h
      · exfalso
        have h4 : ((2 ^ 53 + 1 : Nat) : Rat) ≤ (kept : Rat) := Rat.natCast_le_natCast.2 (by omega)
        rw [Rat.natCast_add] at h4
        have h5 := Rat.mul_le_mul_of_nonneg_right h4 (Rat.le_of_lt hpl)
        have h6 : ((1 : Nat) : Rat) = 1 := rfl
        rw [h6] at h5
        generalize ((2 ^ 53 : Nat) : Rat) = q at *
        grind
      · exact h
    have hkge : (last - -1074).toNat = 0 ∨ 4503599627370496 ≤ kept := by
      by_cases hc : last = -1074
      · left; omega
      · right
        have hle : last = e + (m.log2 : Int) - 52 := by omega
        have h1 : ((2 ^ m.log2 : Nat) : Rat) * 2 ^ e ≤ (m : Rat) * 2 ^ e := Rat.mul_le_mul_of_nonneg_right (Rat.natCast_le_natCast.2 hl1) (Rat.le_of_lt (z2_pos e))
        rw [← z2_nat, ← z2_add, show (m.log2 : Int) + e = last + 52 by omega] at h1
        have h3 : (2 : Rat) ^ (last + 52) = 2 ^ last * ((2 ^ 52 : Nat) : Rat) := z2_split (by omega)
        have hpl := z2_pos last
        rcases Nat.lt_or_ge kept 4503599627370496 with h | h
        · exfalso
          have h4 : ((kept + 1 : Nat) : Rat) ≤ ((2 ^ 52 : Nat) : Rat) := Rat.natCast_le_natCast.2 (by omega)
          rw [Rat.natCast_add] at h4
          have h5 := Rat.mul_le_mul_of_nonneg_right h4 (Rat.le_of_lt hpl)
          have h6 : ((1 : Nat) : Rat) = 1 := rfl
          rw [h6] at h5
          generalize ((2 ^ 52 : Nat) : Rat) = q at *
          grind
        · exact h
    have hread := read_rungs s (last - -1074).toNat kept hkge hkle (by omega)
    rw [Nat.min_eq_left (by omega)] at hnr
    rw [← hnr, show (((last - -1074).toNat : Nat) : Int) - 1074 = last by omega] at hread
    refine ⟨_, hread, ?_⟩
    -- the error
    have herr : ab (nv s kept last - nv s m e) * 2 ≤ 2 ^ last := by
      have : ab (nv s kept last - nv s m e) ≤ 2 ^ last / 2 := by
        unfold nv sgn
        cases s
        · rw [if_neg (by decide)]
          apply ab_le <;> grind
        · rw [if_pos rfl]
          apply ab_le <;> grind
      grind
    have hfin : (2 : Rat) ^ last ≤ 2 * (uu * ((m : Rat) * 2 ^ e) + eta) := by
      by_cases hc : last = -1074
      · have h1 : (2 : Rat) ^ (-1074 : Int) = 2 ^ (-1075 : Int) * ((2 ^ 1 : Nat) : Rat) := z2_split (by decide)
        have h2 : ((2 ^ 1 : Nat) : Rat) = 2 := rfl
        have h3 : 0 ≤ (m : Rat) * 2 ^ e := Rat.mul_nonneg Rat.natCast_nonneg (Rat.le_of_lt (z2_pos e))
        have h4 : (0 : Rat) ≤ uu := by unfold uu; grind
        have h5 := Rat.mul_nonneg h4 h3
        rw [hc, h1, h2]
        show 2 ^ (-1075 : Int) * 2 ≤ 2 * (_ + 2 ^ (-1075 : Int))
        grind
      · have hle : last = e + (m.log2 : Int) - 52 := by omega
        have h1 : ((2 ^ m.log2 : Nat) : Rat) * 2 ^ e ≤ (m : Rat) * 2 ^ e := Rat.mul_le_mul_of_nonneg_right (Rat.natCast_le_natCast.2 hl1) (Rat.le_of_lt (z2_pos e))
        rw [← z2_nat, ← z2_add, show (m.log2 : Int) + e = last + 52 by omega] at h1
        have h3 : (2 : Rat) ^ (last + 52) = 2 ^ last * ((2 ^ 52 : Nat) : Rat) := z2_split (by omega)
        have h4 : ((2 ^ 52 : Nat) : Rat) = 4503599627370496 := rfl
        rw [h3, h4] at h1
        unfold uu
        grind
    grind
end Go.Proofs.Ygctag
