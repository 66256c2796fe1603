import Derived.Test.YgctagFftF
namespace Go.Proofs.Ygctag

def rl (x : Rat) : Cx := ⟨x, 0⟩
theorem rl_le {x m : Rat} (h : ab x ≤ m) : Le (rl x) m := (Le.real x).mono h
theorem ww_quarter : Le (⟨0, -1⟩ - WW 512) ew := by
  refine ⟨Rat.le_of_lt ew_pos, ?_⟩
  have h := om_quarter
  have e : WW 512 = cpow om 512 := rfl
  rw [e, show (⟨0, -1⟩ : Cx) - cpow om 512 = -(⟨0, 1⟩ + cpow om 512) by (apply Cx.ext' <;> simp <;> grind), nsq_neg]
  exact h

/-- The operand's polynomial at the point l. -/
def evA (A : Nat → Rat) (k l : Nat) : Cx := sumC (fun i => rl (A i) * WW (2 ^ (9 - k) * (i * (4 * l + 1)))) (2 * 2 ^ k)

theorem eval_near (k : Nat) (hk : k ≤ 9) (A : Nat → Rat) (hA : ∀ i, ab (A i) ≤ 32768) (fb : Nat → Cb) (hf : ∀ i, i < 2 ^ k → cval (fb i) = ⟨A i, -A (2 ^ k + i)⟩) (l : Nat) :
    Le (dftC (refA k fb) WW k l - evA A k l) (67108864 * ew) := by
  have hW := rootWW
  have hw0 := ew_pos
  obtain ⟨s, hs⟩ : ∃ s, s = 2 ^ (9 - k) := ⟨_, rfl⟩
  obtain ⟨n, hn⟩ : ∃ n, n = 2 ^ k := ⟨_, rfl⟩
  have e4 : 2 ^ (11 - k) = 4 * s := by rw [hs, show 4 = 2 ^ 2 by decide, ← Nat.pow_add]; congr 1; omega
  have esn : s * n = 512 := by rw [hs, hn, ← Nat.pow_add, show 9 - k + k = 9 by omega]
  have e1 : dftC (refA k fb) WW k l - evA A k l = sumC (fun i => cval (fb i) * WW (s * i) * WW (4 * s * (i * l)) - (rl (A i) * WW (s * (i * (4 * l + 1))) + rl (A (n + i)) * WW (s * ((n + i) * (4 * l + 1))))) n := by
    unfold dftC evA refA
    rw [← hs, ← hn, e4, Nat.two_mul, sumC_split, ← sumC_add, ← sumC_sub]
  rw [e1]
  have h := sumC_le (n := n) (f := fun i => cval (fb i) * WW (s * i) * WW (4 * s * (i * l)) - (rl (A i) * WW (s * (i * (4 * l + 1))) + rl (A (n + i)) * WW (s * ((n + i) * (4 * l + 1))))) (m := fun _ => 131072 * ew) (fun i hi => by
    have ef := hf i (by rw [← hn]; exact hi)
    rw [← hn] at ef
    have i1 : s * (i * (4 * l + 1)) = s * i + 4 * s * (i * l) := by rw [Nat.mul_add, Nat.mul_one, Nat.mul_add, Nat.add_comm]; congr 1; rw [← Nat.mul_assoc i 4, Nat.mul_comm i 4, Nat.mul_assoc 4 i l, ← Nat.mul_assoc, Nat.mul_comm s 4]
    have i2 : s * ((n + i) * (4 * l + 1)) = s * i + 4 * s * (i * l) + 512 + 2048 * l := by
      have h4 : s * (n * (4 * l + 1)) = 2048 * l + 512 := by rw [← Nat.mul_assoc, esn]; omega
      rw [Nat.add_mul, Nat.mul_add s, i1, h4]; omega
    rw [i1, i2, hW.turns]
    have m1 := hW.mulLe (s * i) (4 * s * (i * l))
    have m2 := hW.mulLe (s * i + 4 * s * (i * l)) 512
    have w1 := hW.le (s * i + 4 * s * (i * l))
    generalize s * i + 4 * s * (i * l) = mm at *
    have a1 := rl_le (hA i)
    have a2 := rl_le (hA (n + i))
    have hJ : Le (⟨0, -1⟩ : Cx) 1 := ⟨by decide, by unfold nsq; grind⟩
    have q := ww_quarter
    rw [ef]
    generalize WW (s * i) = u at *
    generalize WW (4 * s * (i * l)) = v at *
    generalize WW (mm + 512) = w5 at *
    generalize WW mm = w at *
    generalize WW 512 = c at *
    -- J (u v - w) + (J - c) w - (w5 - w c)
    have t1 := a1.mul m1.neg
    have t2 := a2.mul (((hJ.mul m1.neg).add (q.mul w1)).sub m2)
    refine ((t1.add t2).of_eq ?_).mono (by grind)
    apply Cx.ext'
    · simp [rl]; grind
    · simp [rl]; grind)
  rw [sumR_const] at h
  refine h.mono ?_
  have h5 : (n : Rat) ≤ 512 := by
    rw [hn]
    exact Rat.natCast_le_natCast.2 (show 2 ^ k ≤ 2 ^ 9 from Nat.pow_le_pow_right (by decide) hk)
  have := Rat.mul_le_mul_of_nonneg_right h5 (show 0 ≤ 131072 * ew by grind)
  grind

/-- The product's polynomial at the point l. -/
def evC (A B : Nat → Rat) (k l : Nat) : Cx := sumC (fun i => sumC (fun j => rl (A i * B j) * WW (2 ^ (9 - k) * ((i + j) * (4 * l + 1)))) (2 * 2 ^ k)) (2 * 2 ^ k)
theorem pow1024 (k : Nat) (hk : k ≤ 9) : ((2 * 2 ^ k : Nat) : Rat) ≤ 1024 := by
  have h : 2 ^ k ≤ 2 ^ 9 := Nat.pow_le_pow_right (by decide) hk
  exact Rat.natCast_le_natCast.2 (show 2 * 2 ^ k ≤ 1024 by omega)
theorem sumc_le {n : Nat} {f : Nat → Cx} {m M : Rat} (hm : 0 ≤ m) (hn : (n : Rat) ≤ M) (h : ∀ i, i < n → Le (f i) m) : Le (sumC f n) (M * m) := by
  have h1 := sumC_le (m := fun _ => m) h
  rw [sumR_const] at h1
  exact h1.mono (Rat.mul_le_mul_of_nonneg_right hn hm)
theorem evC_near (k : Nat) (hk : k ≤ 9) (A B : Nat → Rat) (hA : ∀ i, ab (A i) ≤ 32768) (hB : ∀ i, ab (B i) ≤ 32768) (l : Nat) : Le (evA A k l * evA B k l - evC A B k l) (1125899906842624 * ew) := by
  have hW := rootWW
  have hw0 := ew_pos
  have hn := pow1024 k hk
  have e : evA A k l * evA B k l - evC A B k l = sumC (fun i => sumC (fun j => rl (A i * B j) * -(WW (2 ^ (9 - k) * (i * (4 * l + 1)) + 2 ^ (9 - k) * (j * (4 * l + 1))) - WW (2 ^ (9 - k) * (i * (4 * l + 1))) * WW (2 ^ (9 - k) * (j * (4 * l + 1))))) (2 * 2 ^ k)) (2 * 2 ^ k) := by
    unfold evA evC
    rw [← sumC_mulr, ← sumC_sub]
    refine sumC_congr fun i _ => ?_
    rw [← sumC_mul, ← sumC_sub]
    refine sumC_congr fun j _ => ?_
    rw [show 2 ^ (9 - k) * ((i + j) * (4 * l + 1)) = 2 ^ (9 - k) * (i * (4 * l + 1)) + 2 ^ (9 - k) * (j * (4 * l + 1)) by rw [Nat.add_mul, Nat.mul_add]]
    apply Cx.ext'
    · simp [rl]; grind
    · simp [rl]; grind
  rw [e]
  have hab : ∀ i j, ab (A i * B j) ≤ 1073741824 := fun i j => by
    rw [ab_mul]
    have h1 := Rat.mul_le_mul_of_nonneg_right (hA i) (ab_nonneg (B j))
    have h2 := Rat.mul_le_mul_of_nonneg_left (hB j) (show (0 : Rat) ≤ 32768 by decide)
    grind
  refine (sumc_le (m := 1024 * (1073741824 * ew)) (M := 1024) (by grind) hn fun i _ => sumc_le (m := 1073741824 * ew) (M := 1024) (by grind) hn fun j _ => (rl_le (hab i j)).mul (hW.mulLe _ _).neg).mono (by grind)

/-- Half a turn further on, the other sign: the sum is zero. -/
theorem anti_zero (f : Nat → Cx) (h M : Nat) (hf : ∀ l, f (l + h) = -f l) : sumC f (M * (2 * h)) = 0 := by
  induction M with
  | zero => rw [Nat.zero_mul]; rfl
  | succ M ih =>
    rw [Nat.add_mul, Nat.one_mul, sumC_split, ih, Nat.two_mul, sumC_split, ← sumC_add]
    have : sumC (fun i => f (M * (h + h) + i) + f (M * (h + h) + (h + i))) h = sumC (fun _ => 0) h := sumC_congr fun i _ => by
      rw [show M * (h + h) + (h + i) = M * (h + h) + i + h by omega, hf]; (apply Cx.ext' <;> simp <;> grind)
    rw [this, sumC_zero]; (apply Cx.ext' <;> simp <;> grind)

/-- The points' sum. -/
theorem point_sum (k : Nat) (hk : k ≤ 9) (d : Nat) (hd : ¬ 2 ^ k ∣ d) : sumC (fun l => WW (2 ^ (9 - k) * (d * (4 * l + 1)))) (2 ^ k) = 0 := by
  have hW := rootWW
  have hd0 : 0 < d := by
    rcases Nat.eq_zero_or_pos d with h | h
    · subst h; exact absurd (Nat.dvd_zero _) hd
    · exact h
  obtain ⟨e, o, rfl⟩ := odd_part d hd0
  have he : e < k := by
    rcases Nat.lt_or_ge e k with h | h
    · exact h
    · exact absurd (Nat.dvd_trans (Nat.pow_dvd_pow 2 h) (Nat.dvd_mul_right _ _)) hd
  have hn : 2 ^ k = 2 ^ e * (2 * 2 ^ (k - 1 - e)) := by rw [← Nat.pow_succ', ← Nat.pow_add]; congr 1; omega
  rw [hn]
  refine anti_zero _ _ _ fun l => ?_
  have e1 : 2 ^ (9 - k) * (2 ^ e * (2 * o + 1) * (4 * (l + 2 ^ (k - 1 - e)) + 1)) = 2 ^ (9 - k) * (2 ^ e * (2 * o + 1) * (4 * l + 1)) + 1024 + 2048 * o := by
    have h1 : 2 ^ (9 - k) * (2 ^ e * (2 * o + 1) * (4 * 2 ^ (k - 1 - e))) = 1024 * (2 * o + 1) := by
      have h2 : 2 ^ (9 - k) * 2 ^ e * (4 * 2 ^ (k - 1 - e)) = 1024 := by
        rw [show 4 = 2 ^ 2 by decide, ← Nat.pow_add, ← Nat.pow_add, ← Nat.pow_add, show 9 - k + e + (2 + (k - 1 - e)) = 10 by omega]
      rw [← h2, Nat.mul_assoc (2 ^ e), Nat.mul_comm (2 * o + 1), ← Nat.mul_assoc (2 ^ e), ← Nat.mul_assoc (2 ^ (9 - k)), ← Nat.mul_assoc (2 ^ (9 - k))]
    rw [show 4 * (l + 2 ^ (k - 1 - e)) + 1 = (4 * l + 1) + 4 * 2 ^ (k - 1 - e) by omega, Nat.mul_add, Nat.mul_add, h1]
    omega
  show WW (2 ^ (9 - k) * (2 ^ e * (2 * o + 1) * (4 * (l + 2 ^ (k - 1 - e)) + 1))) = -WW (2 ^ (9 - k) * (2 ^ e * (2 * o + 1) * (4 * l + 1)))
  rw [e1, hW.turns, hW.half]
end Go.Proofs.Ygctag
