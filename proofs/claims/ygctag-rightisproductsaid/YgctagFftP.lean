import Derived.Test.YgctagRootW
import Derived.Test.YgctagCbf
import Derived.Test.YgctagPassP
namespace Go.Proofs.Ygctag

/-- A block after t passes, the roots exact. -/
def lvlC (x : Nat → Cx) (W : Nat → Cx) (k t r j : Nat) : Cx := sumC (fun m => x (r + 2 ^ (k - t) * m) * W (2 ^ (11 - t) * (m * j))) (2 ^ t)

theorem sub_zero_le {a b : Cx} {m : Rat} (h : a = b) (hm : 0 ≤ m) : Le (a - b) m := by
  subst h
  rw [show a - a = 0 by (apply Cx.ext' <;> simp <;> grind)]
  exact Le.zero.mono hm

/-- One pass of the exact blocks, up to the roots' own error. -/
theorem lvlC_step (x W : Nat → Cx) (hW : Root W) (k t r j : Nat) (m0 : Rat) (hk : k ≤ 11) (ht : t + 1 ≤ k) (hr : r < 2 ^ (k - (t + 1))) (hx : ∀ i, i < 2 ^ k → Le (x i) m0) :
    Le (lvlC x W k (t + 1) r j - (lvlC x W k t r j + W (2 ^ (10 - t) * j) * lvlC x W k t (r + 2 ^ (k - (t + 1))) j)) (((2 ^ t : Nat) : Rat) * (m0 * ew)) ∧
    Le (lvlC x W k (t + 1) r (2 ^ t + j) - (lvlC x W k t r j - W (2 ^ (10 - t) * j) * lvlC x W k t (r + 2 ^ (k - (t + 1))) j)) (((2 ^ t : Nat) : Rat) * (m0 * ew)) := by
  obtain ⟨A, hA⟩ : ∃ A, A = 2 ^ (10 - t) := ⟨_, rfl⟩
  obtain ⟨B, hB⟩ : ∃ B, B = 2 ^ (k - (t + 1)) := ⟨_, rfl⟩
  obtain ⟨T, hT⟩ : ∃ T, T = 2 ^ t := ⟨_, rfl⟩
  have eA : 2 ^ (11 - t) = 2 * A := by rw [hA, ← Nat.pow_succ']; congr 1; omega
  have eA2 : 2 ^ (11 - (t + 1)) = A := by rw [hA]; congr 1; omega
  have eB : 2 ^ (k - t) = 2 * B := by rw [hB, ← Nat.pow_succ']; congr 1; omega
  have eT : 2 ^ (t + 1) = 2 * T := by rw [hT, ← Nat.pow_succ']
  have eAT : A * T = 1024 := by rw [hA, hT, ← Nat.pow_add, show 10 - t + t = 10 by omega]
  have eBT : 2 * (B * T) = 2 ^ k := by rw [hB, hT, ← Nat.pow_add, ← Nat.pow_succ']; congr 1; omega
  rw [← hB] at hr
  -- the two halves of a block of twice the length
  have hsplit : ∀ j, lvlC x W k (t + 1) r j = sumC (fun i => x (r + 2 * B * i) * W (2 * A * (i * j))) T + sumC (fun i => x (r + B + 2 * B * i) * W (2 * A * (i * j) + A * j)) T := by
    intro j
    unfold lvlC
    rw [eT, sumC_parity, ← hB, eA2]
    congr 1
    · refine sumC_congr fun i _ => ?_
      rw [show B * (2 * i) = 2 * B * i by rw [← Nat.mul_assoc, Nat.mul_comm B 2], show A * (2 * i * j) = 2 * A * (i * j) by rw [Nat.mul_assoc 2 i j, ← Nat.mul_assoc A 2, Nat.mul_comm A 2]]
    · refine sumC_congr fun i _ => ?_
      rw [show r + B * (2 * i + 1) = r + B + 2 * B * i by rw [Nat.mul_add, ← Nat.mul_assoc, Nat.mul_comm B 2]; omega, show A * ((2 * i + 1) * j) = 2 * A * (i * j) + A * j by rw [Nat.add_mul, Nat.one_mul, Nat.mul_add, Nat.mul_assoc 2 i j, ← Nat.mul_assoc A 2, Nat.mul_comm A 2]]
  have hlow : ∀ r j, lvlC x W k t r j = sumC (fun i => x (r + 2 * B * i) * W (2 * A * (i * j))) T := by
    intro r j
    unfold lvlC
    rw [← hT, eB, eA]
  have hm0 : 0 ≤ m0 := (hx 0 (Nat.two_pow_pos k)).1
  have hodd : Le (sumC (fun i => x (r + B + 2 * B * i) * (W (2 * A * (i * j) + A * j) - W (2 * A * (i * j)) * W (A * j))) T) ((T : Rat) * (m0 * ew)) := by
    have h := sumC_le (f := fun i => x (r + B + 2 * B * i) * (W (2 * A * (i * j) + A * j) - W (2 * A * (i * j)) * W (A * j))) (m := fun _ => m0 * ew) (n := T) (fun i hi => (hx _ (by
      have h1 : B * (2 * i + 1) + B ≤ B * (2 * T) := by rw [← Nat.mul_succ]; exact Nat.mul_le_mul_left _ (by omega)
      have h2 : B * (2 * T) = 2 ^ k := by rw [← eBT, ← Nat.mul_assoc, Nat.mul_comm B 2, Nat.mul_assoc]
      have h3 : r + B + 2 * B * i = r + B * (2 * i + 1) := by rw [Nat.mul_add, ← Nat.mul_assoc, Nat.mul_comm B 2]; omega
      omega)).mul (hW.mulLe _ _))
    rw [sumR_const] at h
    exact h
  have eodd : sumC (fun i => x (r + B + 2 * B * i) * (W (2 * A * (i * j) + A * j) - W (2 * A * (i * j)) * W (A * j))) T = sumC (fun i => x (r + B + 2 * B * i) * W (2 * A * (i * j) + A * j)) T - W (A * j) * sumC (fun i => x (r + B + 2 * B * i) * W (2 * A * (i * j))) T := by
    rw [← sumC_mul, ← sumC_sub]
    exact sumC_congr fun i _ => by (apply Cx.ext' <;> simp <;> grind)
  rw [eodd] at hodd
  rw [← hT, ← hA, ← hB]
  refine ⟨?_, ?_⟩
  · rw [hsplit, hlow, hlow]
    exact hodd.of_eq (by (apply Cx.ext' <;> simp <;> grind))
  · rw [hsplit, hlow, hlow]
    have h1 : sumC (fun i => x (r + 2 * B * i) * W (2 * A * (i * (T + j)))) T = sumC (fun i => x (r + 2 * B * i) * W (2 * A * (i * j))) T := by
      refine sumC_congr fun i _ => ?_
      have e : 2 * A * (i * (T + j)) = 2 * A * (i * j) + 2048 * i := by
        have : 2 * A * (i * T) = 2048 * i := by
          rw [Nat.mul_comm i T, ← Nat.mul_assoc, Nat.mul_assoc 2 A T, eAT]
        rw [Nat.mul_add i, Nat.mul_add, this]; omega
      rw [e, hW.turns]
    have h2 : sumC (fun i => x (r + B + 2 * B * i) * W (2 * A * (i * (T + j)) + A * (T + j))) T = -sumC (fun i => x (r + B + 2 * B * i) * W (2 * A * (i * j) + A * j)) T := by
      rw [show -sumC (fun i => x (r + B + 2 * B * i) * W (2 * A * (i * j) + A * j)) T = (-1 : Cx) * sumC (fun i => x (r + B + 2 * B * i) * W (2 * A * (i * j) + A * j)) T by (apply Cx.ext' <;> simp <;> grind), ← sumC_mul]
      refine sumC_congr fun i _ => ?_
      have e : 2 * A * (i * (T + j)) + A * (T + j) = 2 * A * (i * j) + A * j + 1024 + 2048 * i := by
        have : 2 * A * (i * T) = 2048 * i := by
          rw [Nat.mul_comm i T, ← Nat.mul_assoc, Nat.mul_assoc 2 A T, eAT]
        rw [Nat.mul_add i, Nat.mul_add (2 * A), Nat.mul_add A, this, eAT]; omega
      rw [e, hW.turns, hW.half]
      (apply Cx.ext' <;> simp <;> grind)
    rw [h1, h2]
    have := hodd.neg
    exact this.of_eq (by (apply Cx.ext' <;> simp <;> grind))
end Go.Proofs.Ygctag
