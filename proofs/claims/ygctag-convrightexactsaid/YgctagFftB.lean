import Derived.Test.YgctagFftR
namespace Go.Proofs.Ygctag

/-- One pass, bits. -/
def stF (tab : Nat → Cb) (k t : Nat) (Y : Nat → Cb) (p : Nat) : Cb :=
  if p % (2 * 2 ^ t) < 2 ^ t then caddB (Y p) (cmulB (Y (p + 2 ^ t)) (tab (p % (2 * 2 ^ t) * 2 ^ (k - (t + 1)))))
  else csubB (Y (p - 2 ^ t)) (cmulB (Y p) (tab ((p % (2 * 2 ^ t) - 2 ^ t) * 2 ^ (k - (t + 1)))))
def fftB (tab : Nat → Cb) (k : Nat) (x : Nat → Cb) : Nat → Nat → Cb
  | 0 => x
  | t + 1 => stF tab k t (fftB tab k x t)

theorem blk_mod (b h j : Nat) (hj : j < 2 * h) : (b * (2 * h) + j) % (2 * h) = j := by rw [Nat.mul_comm, Nat.mul_add_mod, Nat.mod_eq_of_lt hj]
theorem stF_low (tab : Nat → Cb) (k t : Nat) (Y : Nat → Cb) (b j : Nat) (hj : j < 2 ^ t) :
    stF tab k t Y (b * (2 * 2 ^ t) + j) = caddB (Y (b * (2 * 2 ^ t) + j)) (cmulB (Y (b * (2 * 2 ^ t) + (2 ^ t + j))) (tab (j * 2 ^ (k - (t + 1))))) := by
  unfold stF
  rw [blk_mod b _ j (by omega), if_pos hj, Nat.add_assoc, Nat.add_comm j]
theorem stF_high (tab : Nat → Cb) (k t : Nat) (Y : Nat → Cb) (b j : Nat) (hj : j < 2 ^ t) :
    stF tab k t Y (b * (2 * 2 ^ t) + (2 ^ t + j)) = csubB (Y (b * (2 * 2 ^ t) + j)) (cmulB (Y (b * (2 * 2 ^ t) + (2 ^ t + j))) (tab (j * 2 ^ (k - (t + 1))))) := by
  unfold stF
  rw [blk_mod b _ (2 ^ t + j) (by omega), if_neg (by omega), show b * (2 * 2 ^ t) + (2 ^ t + j) - 2 ^ t = b * (2 * 2 ^ t) + j by omega, show 2 ^ t + j - 2 ^ t = j by omega]

/-- A table near the roots. -/
def TabOK (tab : Nat → Cb) (W : Nat → Cx) (k : Nat) : Prop := ∀ j, j < 2 ^ (k - 1) → Gd 1 (tab j) ∧ nsq (cval (tab j) - W (2 ^ (11 - k) * j)) ≤ (40 * uu) * (40 * uu)

theorem fft_step {tab : Nat → Cb} {W : Nat → Cx} {k t E : Nat} {Y : Nat → Cb} (hW : Root W) (hk : k ≤ 11) (ht : t + 1 ≤ k) (hE : E ≤ 800) (hT : TabOK tab W k) (hY : ∀ p, p < 2 ^ k → Gd E (Y p)) (b j : Nat) (hb : b < 2 ^ (k - (t + 1))) (hj : j < 2 ^ t) :
    Gd (E + 9) (stF tab k t Y (b * (2 * 2 ^ t) + j)) ∧ Gd (E + 9) (stF tab k t Y (b * (2 * 2 ^ t) + (2 ^ t + j))) ∧
    nsq (cval (stF tab k t Y (b * (2 * 2 ^ t) + j)) - (cval (Y (b * (2 * 2 ^ t) + j)) + W (2 ^ (10 - t) * j) * cval (Y (b * (2 * 2 ^ t) + (2 ^ t + j))))) ≤ kk * kk * (nsq (cval (Y (b * (2 * 2 ^ t) + j))) + nsq (cval (Y (b * (2 * 2 ^ t) + (2 ^ t + j))))) + 5000 * (eta * eta) ∧
    nsq (cval (stF tab k t Y (b * (2 * 2 ^ t) + (2 ^ t + j))) - (cval (Y (b * (2 * 2 ^ t) + j)) - W (2 ^ (10 - t) * j) * cval (Y (b * (2 * 2 ^ t) + (2 ^ t + j))))) ≤ kk * kk * (nsq (cval (Y (b * (2 * 2 ^ t) + j))) + nsq (cval (Y (b * (2 * 2 ^ t) + (2 ^ t + j))))) + 5000 * (eta * eta) := by
  rw [stF_low tab k t Y b j hj, stF_high tab k t Y b j hj]
  have hp1 : b * (2 * 2 ^ t) + (2 ^ t + j) < 2 ^ k := by
    have h1 : (b + 1) * (2 * 2 ^ t) ≤ 2 ^ (k - (t + 1)) * (2 * 2 ^ t) := Nat.mul_le_mul_right _ hb
    rw [← Nat.pow_succ', ← Nat.pow_add, show k - (t + 1) + (t + 1) = k by omega, Nat.pow_succ', Nat.add_mul] at h1
    omega
  have hjt : j * 2 ^ (k - (t + 1)) < 2 ^ (k - 1) := by
    have h1 : (j + 1) * 2 ^ (k - (t + 1)) ≤ 2 ^ t * 2 ^ (k - (t + 1)) := Nat.mul_le_mul_right _ hj
    rw [← Nat.pow_add, show t + (k - (t + 1)) = k - 1 by omega, Nat.add_mul] at h1
    have := Nat.two_pow_pos (k - (t + 1))
    omega
  obtain ⟨t1, t2⟩ := hT _ hjt
  have e : 2 ^ (11 - k) * (j * 2 ^ (k - (t + 1))) = 2 ^ (10 - t) * j := by
    rw [Nat.mul_comm j, ← Nat.mul_assoc, ← Nat.pow_add]
    congr 2
    omega
  rw [e] at t2
  exact bflyB_ok _ (hY _ (by omega)) (hY _ hp1) t1 hE (hW.unit _) t2

theorem fft_good {tab : Nat → Cb} {W : Nat → Cx} {k E : Nat} {x : Nat → Cb} (hW : Root W) (hk : k ≤ 9) (hE : E ≤ 700) (hT : TabOK tab W k) (hx : ∀ p, p < 2 ^ k → Gd E (x p)) (t : Nat) (ht : t ≤ k) :
    ∀ p, p < 2 ^ k → Gd (E + 9 * t) (fftB tab k x t p) := by
  induction t with
  | zero => exact hx
  | succ t ih =>
    intro p hp
    have h1 := ih (by omega)
    have hb : p / (2 * 2 ^ t) < 2 ^ (k - (t + 1)) := by
      rw [Nat.div_lt_iff_lt_mul (by have := Nat.two_pow_pos t; omega), ← Nat.pow_succ', ← Nat.pow_add, show k - (t + 1) + (t + 1) = k by omega]; exact hp
    have hpe : p = p / (2 * 2 ^ t) * (2 * 2 ^ t) + p % (2 * 2 ^ t) := by rw [Nat.mul_comm, Nat.div_add_mod]
    have hml := Nat.mod_lt p (show 0 < 2 * 2 ^ t by have := Nat.two_pow_pos t; omega)
    show Gd (E + 9 * (t + 1)) (stF tab k t (fftB tab k x t) p)
    generalize p / (2 * 2 ^ t) = b at *
    generalize p % (2 * 2 ^ t) = j at *
    subst hpe
    by_cases hj : j < 2 ^ t
    · exact (fft_step hW (by omega) ht (by omega) hT h1 b j hb hj).1
    · obtain ⟨j', rfl⟩ : ∃ j', j = 2 ^ t + j' := ⟨j - 2 ^ t, by omega⟩
      exact (fft_step hW (by omega) ht (by omega) hT h1 b j' hb (by omega)).2.1

theorem fft_BF {tab : Nat → Cb} {W : Nat → Cx} {k E : Nat} {x : Nat → Cb} (hW : Root W) (hk : k ≤ 9) (hE : E ≤ 700) (hT : TabOK tab W k) (hx : ∀ p, p < 2 ^ k → Gd E (x p)) :
    BF W k (fun t b j => cval (fftB tab k x t (b * 2 ^ t + j))) := by
  intro t b j ht hb hj
  have h := fft_step hW (by omega) ht (by omega) hT (fft_good hW hk hE hT hx t (by omega)) b j hb hj
  have e1 : b * 2 ^ (t + 1) = b * (2 * 2 ^ t) := by rw [Nat.pow_succ']
  have e2 : 2 * b * 2 ^ t = b * (2 * 2 ^ t) := by rw [Nat.mul_comm 2 b, Nat.mul_assoc]
  have e3 : (2 * b + 1) * 2 ^ t + j = b * (2 * 2 ^ t) + (2 ^ t + j) := by rw [Nat.add_mul, Nat.one_mul, e2, Nat.add_assoc]
  dsimp only
  rw [e1, e2, e3]
  exact ⟨h.2.2.1, h.2.2.2⟩

/-- The exact blocks as levels. -/
def Ex (x W : Nat → Cx) (k t b j : Nat) : Cx := lvlC x W k t (rev (k - t) b) j
theorem ex_step (x W : Nat → Cx) (hW : Root W) (k : Nat) (hk : k ≤ 9) (m0 e0 : Rat) (he : 256 * (m0 * ew) ≤ e0) (hx : ∀ i, i < 2 ^ k → Le (x i) m0) : ExStep W k (Ex x W k) e0 := by
  intro t b j ht hb hj
  have h := lvlC_step x W hW k t (rev (k - (t + 1)) b) j m0 (by omega) ht (rev_lt _ _) hx
  have hm : 0 ≤ m0 * ew := Rat.mul_nonneg (hx 0 (Nat.two_pow_pos k)).1 (Rat.le_of_lt ew_pos)
  have hle : ((2 ^ t : Nat) : Rat) * (m0 * ew) ≤ e0 := by
    have h1 : ((2 ^ t : Nat) : Rat) ≤ ((2 ^ 8 : Nat) : Rat) := Rat.natCast_le_natCast.2 (Nat.pow_le_pow_right (by decide) (by omega))
    rw [show ((2 ^ 8 : Nat) : Rat) = 256 from rfl] at h1
    have := Rat.mul_le_mul_of_nonneg_right h1 hm
    grind
  have e1 : Ex x W k t (2 * b) j = lvlC x W k t (rev (k - (t + 1)) b) j := by
    unfold Ex
    rw [rev_even _ _ (by omega), show k - t - 1 = k - (t + 1) by omega]
  have e2 : Ex x W k t (2 * b + 1) j = lvlC x W k t (rev (k - (t + 1)) b + 2 ^ (k - (t + 1))) j := by
    unfold Ex
    rw [rev_odd _ _ (by omega), show k - t - 1 = k - (t + 1) by omega]
  rw [e1, e2]
  exact ⟨h.1.mono hle, h.2.mono hle⟩
theorem ex_zero (x W : Nat → Cx) (hW : Root W) (k b : Nat) : Ex x W k 0 b 0 = x (rev k b) := by
  unfold Ex lvlC
  show (0 : Cx) + x (rev (k - 0) b + 2 ^ (k - 0) * 0) * W (2 ^ (11 - 0) * (0 * 0)) = _
  rw [Nat.mul_zero, Nat.mul_zero, hW.zero, Nat.add_zero, Nat.sub_zero]
  (apply Cx.ext' <;> simp <;> grind)
/-- The whole transform. -/
def dftC (x W : Nat → Cx) (k l : Nat) : Cx := sumC (fun i => x i * W (2 ^ (11 - k) * (i * l))) (2 ^ k)
theorem ex_top (x W : Nat → Cx) (k l : Nat) : Ex x W k k 0 l = dftC x W k l := by
  unfold Ex lvlC dftC
  rw [Nat.sub_self]
  refine sumC_congr fun i _ => ?_
  rw [show rev 0 0 + 2 ^ 0 * i = i by show 0 + 1 * i = i; omega]
end Go.Proofs.Ygctag
