import Derived.Test.YgctagRndB
namespace Go.Proofs.Ygctag

/-- How two finite doubles stand. -/
theorem order_num {a b : Nat} {x y : Rat} (ha : Num a x) (hb : Num b y) :
    (x < y ∧ Ieee.double.order a b = some .lt) ∨ (x = y ∧ Ieee.double.order a b = some .eq) ∨ (y < x ∧ Ieee.double.order a b = some .gt) := by
  obtain ⟨-, s, m, i, h1, rfl⟩ := ha
  obtain ⟨-, t, n, j, h2, rfl⟩ := hb
  have ho : Ieee.double.order a b = some (compare (Ieee.signed s m (i - min i j).toNat) (Ieee.signed t n (j - min i j).toNat)) := by
    show (Ieee.double.read a).order (Ieee.double.read b) = _
    rw [h1, h2]; rfl
  rw [ho, nv_place s m i (min i j) (by omega), nv_place t n j (min i j) (by omega)]
  have hp := z2_pos (min i j)
  generalize Ieee.signed s m (i - min i j).toNat = A
  generalize Ieee.signed t n (j - min i j).toNat = B
  rcases Int.lt_trichotomy A B with h | h | h
  · left
    refine ⟨Rat.mul_lt_mul_of_pos_right (Rat.intCast_lt_intCast.2 h) hp, ?_⟩
    rw [show compare A B = .lt from Int.compare_eq_lt.2 h]
  · right; left
    subst h
    exact ⟨rfl, by rw [show compare A A = .eq from Int.compare_eq_eq.2 rfl]⟩
  · right; right
    refine ⟨Rat.mul_lt_mul_of_pos_right (Rat.intCast_lt_intCast.2 h) hp, ?_⟩
    rw [show compare A B = .gt from Int.compare_eq_gt.2 h]

/-- int64(v), towards zero. -/
theorem trunc_num {b : Nat} {x : Rat} (h : Num b x) (hx : ab x ≤ 2 ^ (52 : Int)) : ∃ n : Int, floatToIntVal .f64 b .i64 = some n ∧ ((0 ≤ x ∧ (n : Rat) ≤ x ∧ x < (n : Rat) + 1) ∨ (x ≤ 0 ∧ x ≤ (n : Rat) ∧ (n : Rat) - 1 < x)) := by
  obtain ⟨-, s, m, i, h1, rfl⟩ := h
  obtain ⟨q, hq⟩ : ∃ q, q = Ieee.Toward.zero.cut s (m <<< i.toNat) (-i).toNat := ⟨_, rfl⟩
  rw [ab_nv] at hx
  have hm0 : (0 : Rat) ≤ (m : Rat) * 2 ^ i := Rat.mul_nonneg Rat.natCast_nonneg (Rat.le_of_lt (z2_pos i))
  have hcut : ∀ n d, Ieee.Toward.zero.cut s n d = n / 2 ^ d := by
    intro n d
    unfold Ieee.Toward.cut
    simp only [Nat.one_shiftLeft]
    by_cases hc : d ≤ n.log2 + 2
    · rw [Nat.min_eq_left hc]; simp
    · rw [Nat.min_eq_right (by omega)]
      have hn : n < 2 ^ (n.log2 + 2) := Nat.lt_of_lt_of_le Nat.lt_log2_self (Nat.pow_le_pow_right (by decide) (by omega))
      have hn2 : n < 2 ^ d := Nat.lt_of_lt_of_le hn (Nat.pow_le_pow_right (by decide) (by omega))
      rw [Nat.div_eq_of_lt hn, Nat.div_eq_of_lt hn2]; simp
  rw [hcut] at hq
  have hqb : (q : Rat) ≤ (m : Rat) * 2 ^ i ∧ (m : Rat) * 2 ^ i < (q : Rat) + 1 := by
    rcases Int.le_total 0 i with h0 | h0
    · rw [show (-i).toNat = 0 by omega, Nat.pow_zero, Nat.div_one, Nat.shiftLeft_eq] at hq
      have e : (m : Rat) * 2 ^ i = (q : Rat) := by
        rw [hq, Rat.natCast_mul, z2_split (a := 0) (b := i) (n := i.toNat) (by omega), Rat.zpow_zero]; grind
      rw [e]; constructor <;> grind
    · rw [show i.toNat = 0 by omega, Nat.shiftLeft_eq, Nat.pow_zero, Nat.mul_one] at hq
      obtain ⟨d, hd⟩ : ∃ d, d = (-i).toNat := ⟨_, rfl⟩
      rw [← hd] at hq
      have e1 : (1 : Rat) = 2 ^ i * ((2 ^ d : Nat) : Rat) := by rw [← z2_split (a := i) (b := 0) (n := d) (by omega), Rat.zpow_zero]
      have hdm := Nat.div_add_mod m (2 ^ d)
      have hml := Nat.mod_lt m (Nat.two_pow_pos d)
      rw [← hq] at hdm
      have c1 : (q : Rat) * ((2 ^ d : Nat) : Rat) ≤ (m : Rat) := by rw [← Rat.natCast_mul]; exact Rat.natCast_le_natCast.2 (by rw [Nat.mul_comm]; omega)
      have c2 : (m : Rat) < ((q : Rat) + 1) * ((2 ^ d : Nat) : Rat) := by
        have : m < (q + 1) * 2 ^ d := by rw [Nat.add_mul, Nat.mul_comm q]; omega
        have := Rat.natCast_lt_natCast.2 this
        rw [Rat.natCast_mul, Rat.natCast_add] at this
        exact this
      have hp := z2_pos i
      have c3 := Rat.mul_le_mul_of_nonneg_right c1 (Rat.le_of_lt hp)
      have c4 := Rat.mul_lt_mul_of_pos_right c2 hp
      rw [Rat.mul_assoc, Rat.mul_comm ((2 ^ d : Nat) : Rat) (2 ^ i), ← e1, Rat.mul_one] at c3 c4
      exact ⟨c3, c4⟩
  have hq53 : q ≤ 4503599627370496 := by
    have h2 : (2 : Rat) ^ (52 : Int) = ((2 ^ 52 : Nat) : Rat) := z2_nat 52
    have h3 : (q : Rat) ≤ ((2 ^ 52 : Nat) : Rat) := by rw [← h2]; exact Rat.le_trans hqb.1 hx
    exact Rat.natCast_le_natCast.1 h3
  have hti : (Ieee.double.read b).toInt .zero = some (Ieee.signed s q 0) := by
    rw [h1]
    show some (Ieee.signed s (Ieee.Toward.zero.cut s (m <<< i.toNat) (-i).toNat) 0) = _
    rw [hcut, ← hq]
  have hsv := signed_val s q 0
  rw [Nat.pow_zero, show ((1 : Nat) : Rat) = 1 from rfl, Rat.mul_one] at hsv
  have hsi : Ieee.signed s q 0 = if s then -(q : Int) else (q : Int) := by
    unfold Ieee.signed; rw [Nat.shiftLeft_zero]
  refine ⟨Ieee.signed s q 0, ?_, ?_⟩
  · unfold floatToIntVal
    have e : FloatKind.decode .f64 b = Ieee.double.read b := rfl
    rw [e, hti]
    dsimp only
    rw [if_pos]
    rw [hsi]
    have m1 : IntKind.i64.min = -9223372036854775808 := rfl
    have m2 : IntKind.i64.max = 9223372036854775807 := rfl
    rw [m1, m2]
    split <;> omega
  · rw [hsv]
    unfold nv sgn
    cases s
    · left
      rw [if_neg (by decide)]
      refine ⟨?_, ?_, ?_⟩ <;> grind
    · right
      rw [if_pos rfl]
      refine ⟨?_, ?_, ?_⟩ <;> grind

/-- Division: one more half bit. -/
theorem div_num {a b : Nat} {x y : Rat} (ha : Num a x) (hb : Num b y) (hy : 0 < y) (h : ab x ≤ 2 ^ (900 : Int) * y) : ∃ r z, floatBits .quo .f64 a b = some r ∧ Num r z ∧ ab (z * y - x) ≤ 2 * uu * ab x + 2 * eta * y := by
  obtain ⟨-, s, m, i, h1, rfl⟩ := ha
  obtain ⟨-, t, n, j, h2, rfl⟩ := hb
  have ht : t = false ∧ n ≠ 0 := by
    unfold nv sgn at hy
    have hn0 : (0 : Rat) ≤ (n : Rat) * 2 ^ j := Rat.mul_nonneg Rat.natCast_nonneg (Rat.le_of_lt (z2_pos j))
    refine ⟨?_, ?_⟩
    · cases t
      · rfl
      · rw [if_pos rfl] at hy; grind
    · intro h0
      subst h0
      rw [show ((0 : Nat) : Rat) = 0 from rfl] at hy
      grind
  obtain ⟨rfl, hn⟩ := ht
  have hyv : nv false n j = (n : Rat) * 2 ^ j := by unfold nv sgn; rw [if_neg (by decide), Rat.one_mul]
  rw [hyv] at hy h ⊢
  rw [ab_nv] at h ⊢
  obtain ⟨k, hk⟩ : ∃ k, k = 54 + n.log2 - m.log2 := ⟨_, rfl⟩
  obtain ⟨D, hD⟩ : ∃ D, D = m <<< k := ⟨_, rfl⟩
  obtain ⟨q, hq⟩ : ∃ q, q = 2 * (D / n) + (D % n != 0).toNat := ⟨_, rfl⟩
  have hquo : floatBits .quo .f64 a b = some (Ieee.double.write (.number s q (i - j - k - 1))) := by
    show ((Ieee.double.read a).quotient (Ieee.double.fractionBits + 2) (Ieee.double.read b)).map Ieee.double.write = _
    rw [h1, h2]
    have e : (Ieee.Datum.number s m i).quotient (Ieee.double.fractionBits + 2) (.number false n j) = some (.number (s ^^ false) (2 * (m <<< (54 + n.log2 - m.log2) / n) + (m <<< (54 + n.log2 - m.log2) % n != 0).toNat) (i - j - (54 + n.log2 - m.log2 : Nat) - 1)) := by
      show (if n = 0 then if m = 0 then none else some _ else some _) = _
      rw [if_neg hn]
      rfl
    rw [e, ← hk, ← hD, ← hq, Bool.xor_false]
    rfl
  -- q is within 1 of 2 D / n
  have hn' : 0 < n := by omega
  have hdm := Nat.div_add_mod D n
  have hml := Nat.mod_lt D hn'
  have hq1 : q * n ≤ 2 * D + n ∧ 2 * D ≤ q * n + n := by
    rw [Nat.mul_comm n] at hdm
    by_cases hr : D % n = 0
    · have e0 : (D % n != 0) = false := by simp [hr]
      rw [e0, show false.toNat = 0 from rfl, Nat.add_zero] at hq
      rw [hq, Nat.mul_assoc]
      generalize D / n * n = z at *
      omega
    · have e0 : (D % n != 0) = true := by simp [hr]
      rw [e0, show true.toNat = 1 from rfl] at hq
      rw [hq, Nat.add_mul, Nat.one_mul, Nat.mul_assoc]
      generalize D / n * n = z at *
      omega
  obtain ⟨e, he⟩ : ∃ e : Int, e = i - j - k - 1 := ⟨_, rfl⟩
  rw [← he] at hquo
  have hpe := z2_pos e
  have hpj := z2_pos j
  have hDv : (D : Rat) * 2 ^ (e + j + 1) = (m : Rat) * 2 ^ i := by
    rw [hD, Nat.shiftLeft_eq, Rat.natCast_mul, z2_split (a := e + j + 1) (b := i) (n := k) (by omega)]
    grind
  have h2e : (2 : Rat) ^ (e + j + 1) = 2 ^ e * 2 ^ j * 2 := by
    rw [z2_add, z2_add, show (2 : Rat) ^ (1 : Int) = 2 from Rat.zpow_one 2]
  rw [h2e] at hDv
  have c1 : (q : Rat) * (n : Rat) ≤ 2 * (D : Rat) + (n : Rat) := by
    have := Rat.natCast_le_natCast.2 hq1.1
    rw [Rat.natCast_add, Rat.natCast_mul, Rat.natCast_mul] at this
    exact this
  have c2 : 2 * (D : Rat) ≤ (q : Rat) * (n : Rat) + (n : Rat) := by
    have := Rat.natCast_le_natCast.2 hq1.2
    rw [Rat.natCast_add, Rat.natCast_mul, Rat.natCast_mul] at this
    exact this
  have hee := Rat.mul_pos hpe hpj
  have d1 := Rat.mul_le_mul_of_nonneg_right c1 (Rat.le_of_lt hee)
  have d2 := Rat.mul_le_mul_of_nonneg_right c2 (Rat.le_of_lt hee)
  -- one unit is small beside the dividend
  have hbig : m = 0 ∨ (9007199254740992 : Rat) * (2 * (n : Rat)) ≤ 2 * (D : Rat) := by
    rcases Nat.eq_zero_or_pos m with h0 | h0
    · exact .inl h0
    · right
      have l1 := Nat.log2_self_le (n := m) (by omega)
      have l2 := Nat.lt_log2_self (n := n)
      have l3 : 2 ^ 53 * n ≤ D := by
        rw [hD, Nat.shiftLeft_eq]
        have a1 : 2 ^ m.log2 * 2 ^ k ≤ m * 2 ^ k := Nat.mul_le_mul_right _ l1
        have a2 : 2 ^ 53 * n ≤ 2 ^ 53 * 2 ^ (n.log2 + 1) := Nat.mul_le_mul_left _ (by omega)
        rw [← Nat.pow_add] at a1 a2
        have a3 : 2 ^ (53 + (n.log2 + 1)) ≤ 2 ^ (m.log2 + k) := Nat.pow_le_pow_right (by decide) (by omega)
        omega
      have := Rat.natCast_le_natCast.2 l3
      rw [Rat.natCast_mul] at this
      have e4 : ((2 ^ 53 : Nat) : Rat) = 9007199254740992 := rfl
      rw [e4] at this
      grind
  have hqe : (q : Rat) * 2 ^ e * ((n : Rat) * 2 ^ j) ≤ 2 * ((m : Rat) * 2 ^ i) := by
    rcases hbig with h0 | h0
    · subst h0
      have hD0 : D = 0 := by rw [hD]; simp
      have hq0 : q = 0 := by rw [hq, hD0]; simp
      rw [hq0, show ((0 : Nat) : Rat) = 0 from rfl]; grind
    · have d3 := Rat.mul_le_mul_of_nonneg_right h0 (Rat.le_of_lt hee)
      have hm0 : (0 : Rat) ≤ (m : Rat) * 2 ^ i := Rat.mul_nonneg Rat.natCast_nonneg (Rat.le_of_lt (z2_pos i))
      grind
  have hb2 : ab (nv s q e) ≤ 2 ^ (1000 : Int) := by
    rw [ab_nv]
    have h5 : (q : Rat) * 2 ^ e * ((n : Rat) * 2 ^ j) ≤ (2 * 2 ^ (900 : Int)) * ((n : Rat) * 2 ^ j) := by
      have := Rat.mul_le_mul_of_nonneg_left h (show (0 : Rat) ≤ 2 by decide)
      grind
    have h6 := Rat.le_of_mul_le_mul_right h5 hy
    have h7 : (2 : Rat) ^ (901 : Int) = 2 ^ (900 : Int) * ((2 ^ 1 : Nat) : Rat) := z2_split (by decide)
    have h8 := z2_mono (a := 901) (b := 1000) (by decide)
    have h9 : ((2 ^ 1 : Nat) : Rat) = 2 := rfl
    rw [h9] at h7
    grind
  obtain ⟨z, w1, w2⟩ := write_num s q e hb2
  refine ⟨_, z, hquo, w1, ?_⟩
  unfold Rd at w2
  rw [ab_nv] at w2
  -- z is near s q 2^e, and that times y is near x
  have hyn := Rat.le_of_lt hy
  have g1 : ab ((z - nv s q e) * ((n : Rat) * 2 ^ j)) ≤ (uu * ((q : Rat) * 2 ^ e) + eta) * ((n : Rat) * 2 ^ j) := by
    rw [ab_mul_nonneg _ hyn]
    exact Rat.mul_le_mul_of_nonneg_right w2 hyn
  have hm0 : (0 : Rat) ≤ (m : Rat) * 2 ^ i := Rat.mul_nonneg Rat.natCast_nonneg (Rat.le_of_lt (z2_pos i))
  have hu0 : (0 : Rat) ≤ uu := by unfold uu; grind
  have g2 : ab (nv s q e * ((n : Rat) * 2 ^ j) - nv s m i) ≤ uu / 2 * ((m : Rat) * 2 ^ i) := by
    rcases hbig with h0 | h0
    · subst h0
      have hD0 : D = 0 := by rw [hD]; simp
      have hq0 : q = 0 := by rw [hq, hD0]; simp
      rw [hq0]
      unfold nv
      rw [show ((0 : Nat) : Rat) = 0 from rfl]
      apply ab_le <;> grind
    · have d3 := Rat.mul_le_mul_of_nonneg_right h0 (Rat.le_of_lt hee)
      have f1 : (q : Rat) * 2 ^ e * ((n : Rat) * 2 ^ j) - (m : Rat) * 2 ^ i ≤ uu / 2 * ((m : Rat) * 2 ^ i) := by unfold uu; grind
      have f2 : (m : Rat) * 2 ^ i - (q : Rat) * 2 ^ e * ((n : Rat) * 2 ^ j) ≤ uu / 2 * ((m : Rat) * 2 ^ i) := by unfold uu; grind
      unfold nv sgn
      cases s
      · rw [if_neg (by decide)]
        apply ab_le <;> grind
      · rw [if_pos rfl]
        apply ab_le <;> grind
  have he0 : (0 : Rat) ≤ eta := Rat.le_of_lt (z2_pos _)
  have k1 := le_ab ((z - nv s q e) * ((n : Rat) * 2 ^ j))
  have k2 := le_ab (nv s q e * ((n : Rat) * 2 ^ j) - nv s m i)
  have k3 := Rat.mul_nonneg he0 hyn
  -- sharper: q 2^e y is at most (1 + u) x
  have f3 : (q : Rat) * 2 ^ e * ((n : Rat) * 2 ^ j) ≤ (1 + uu / 2) * ((m : Rat) * 2 ^ i) := by
    have k4 := le_ab (nv s q e * ((n : Rat) * 2 ^ j) - nv s m i)
    have : ab (nv s q e * ((n : Rat) * 2 ^ j)) ≤ uu / 2 * ((m : Rat) * 2 ^ i) + (m : Rat) * 2 ^ i := by
      have k5 := le_ab (nv s m i)
      rw [ab_nv] at k5
      apply ab_le <;> grind
    rw [ab_mul_nonneg _ hyn, ab_nv] at this
    grind
  have f4 := Rat.mul_le_mul_of_nonneg_left f3 hu0
  have f5 : uu * ((1 + uu / 2) * ((m : Rat) * 2 ^ i)) ≤ uu * (3 / 2) * ((m : Rat) * 2 ^ i) := by
    have : (1 + uu / 2) ≤ 3 / 2 := by unfold uu; grind
    have := Rat.mul_le_mul_of_nonneg_right this hm0
    have := Rat.mul_le_mul_of_nonneg_left this hu0
    grind
  apply ab_le <;> grind
end Go.Proofs.Ygctag
