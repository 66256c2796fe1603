import Derived.Test.YgctagBfly
namespace Go.Proofs.Ygctag

def LvlOK (F : Nat → Int) (W : Int) (k t : Nat) (G : Nat → Int) : Prop := ∀ b j, b < 2 ^ (k - t) → j < 2 ^ t → Eqm (G (b * 2 ^ t + j)) (lvl F W k t (rev (k - t) b) j)
def In4 (n : Nat) (G : Nat → Int) : Prop := ∀ i, i < n → 0 ≤ G i ∧ G i < 3992977412
/-- One pass. -/
def passF (tt : Nat → Int) (h : Nat) (G : Nat → Int) (i : Nat) : Int := bfly tt h (fun j => G (i / (2 * h) * (2 * h) + j)) (i % (2 * h))
/-- The first pass. -/
def firstF (G : Nat → Int) (i : Nat) : Int := if i % 2 = 0 then G i + G (i + 1) else G (i - 1) + 998244353 - G i

theorem rev_even (k b : Nat) (hk : 1 ≤ k) : rev k (2 * b) = rev (k - 1) b := by
  obtain ⟨m, rfl⟩ : ∃ m, k = m + 1 := ⟨k - 1, by omega⟩
  show rev m (2 * b / 2) + 2 * b % 2 * 2 ^ m = _
  rw [show 2 * b / 2 = b by omega, show 2 * b % 2 = 0 by omega, Nat.zero_mul, Nat.add_zero]; rfl
theorem rev_odd (k b : Nat) (hk : 1 ≤ k) : rev k (2 * b + 1) = rev (k - 1) b + 2 ^ (k - 1) := by
  obtain ⟨m, rfl⟩ : ∃ m, k = m + 1 := ⟨k - 1, by omega⟩
  show rev m ((2 * b + 1) / 2) + (2 * b + 1) % 2 * 2 ^ m = _
  rw [show (2 * b + 1) / 2 = b by omega, show (2 * b + 1) % 2 = 1 by omega, Nat.one_mul]; rfl

theorem lvl_start (F : Nat → Int) (W : Int) (k : Nat) : LvlOK F W k 0 (fun i => F (rev k i)) := by
  intro b j _ hj
  have : j = 0 := by rw [Nat.pow_zero] at hj; omega
  subst this
  rw [lvl_zero]
  show Eqm (F (rev k (b * 2 ^ 0 + 0))) _
  rw [Nat.pow_zero, Nat.mul_one, Nat.add_zero]
  exact Eqm.refl _

/-- The two halves of a block. -/
theorem halves {F : Nat → Int} {W : Int} {k t : Nat} {G : Nat → Int} (ht : t + 1 ≤ k) (hG : LvlOK F W k t G) {b j : Nat} (hb : b < 2 ^ (k - (t + 1))) (hj : j < 2 ^ t) :
    Eqm (G (b * (2 * 2 ^ t) + j)) (lvl F W k t (rev (k - (t + 1)) b) j) ∧ Eqm (G (b * (2 * 2 ^ t) + (2 ^ t + j))) (lvl F W k t (rev (k - (t + 1)) b + 2 ^ (k - (t + 1))) j) := by
  have e : k - t = k - (t + 1) + 1 := by omega
  have hlt : 2 * b + 1 < 2 ^ (k - t) := by rw [e, Nat.pow_succ]; omega
  have h1 := hG (2 * b) j (by omega) hj
  have h2 := hG (2 * b + 1) j hlt hj
  rw [rev_even _ _ (by omega), show k - t - 1 = k - (t + 1) by omega] at h1
  rw [rev_odd _ _ (by omega), show k - t - 1 = k - (t + 1) by omega] at h2
  rw [show 2 * b * 2 ^ t + j = b * (2 * 2 ^ t) + j by rw [← Nat.mul_assoc, Nat.mul_comm b 2]] at h1
  rw [show (2 * b + 1) * 2 ^ t + j = b * (2 * 2 ^ t) + (2 ^ t + j) by rw [Nat.add_mul, ← Nat.mul_assoc, Nat.mul_comm b 2]; omega] at h2
  exact ⟨h1, h2⟩

theorem index_lt {k t b j : Nat} (ht : t ≤ k) (hb : b < 2 ^ (k - t)) (hj : j < 2 ^ t) : b * 2 ^ t + j < 2 ^ k := by
  have : (b + 1) * 2 ^ t ≤ 2 ^ (k - t) * 2 ^ t := Nat.mul_le_mul_right _ hb
  rw [← Nat.pow_add, show k - t + t = k by omega, Nat.add_mul] at this
  omega

theorem eqm_two_P (a : Int) : Eqm (a + 1996488706) a := ⟨2, by omega⟩

theorem pass_step {F : Nat → Int} {W : Int} {k t : Nat} {G tt : Nat → Int} (ht : t + 1 ≤ k) (hw : Eqm (W ^ 2 ^ (k - 1)) (-1)) (hG : LvlOK F W k t G) (h4 : In4 (2 ^ k) G)
    (htt : ∀ j, j < 2 ^ t → 0 ≤ tt j ∧ tt j < 998244353 ∧ Eqm (tt j) ((W ^ 2 ^ (k - (t + 1))) ^ j)) : LvlOK F W k (t + 1) (passF tt (2 ^ t) G) ∧ In4 (2 ^ k) (passF tt (2 ^ t) G) := by
  have hp : 0 < 2 ^ t := Nat.two_pow_pos t
  have key : ∀ b j, b < 2 ^ (k - (t + 1)) → j < 2 ^ (t + 1) → Eqm (passF tt (2 ^ t) G (b * 2 ^ (t + 1) + j)) (lvl F W k (t + 1) (rev (k - (t + 1)) b) j) ∧ 0 ≤ passF tt (2 ^ t) G (b * 2 ^ (t + 1) + j) ∧ passF tt (2 ^ t) G (b * 2 ^ (t + 1) + j) < 3992977412 := by
    intro b j hb hj
    have e2 : 2 ^ (t + 1) = 2 * 2 ^ t := Nat.pow_succ'
    have hdiv : (b * 2 ^ (t + 1) + j) / (2 * 2 ^ t) = b := by
      rw [← e2, Nat.mul_comm, Nat.mul_add_div (Nat.two_pow_pos _), Nat.div_eq_of_lt hj, Nat.add_zero]
    have hmod : (b * 2 ^ (t + 1) + j) % (2 * 2 ^ t) = j := by
      rw [← e2, Nat.mul_comm, Nat.mul_add_mod, Nat.mod_eq_of_lt hj]
    unfold passF
    rw [hdiv, hmod]
    unfold bfly
    dsimp only
    have bnd : ∀ j, j < 2 ^ (t + 1) → 0 ≤ G (b * (2 * 2 ^ t) + j) ∧ G (b * (2 * 2 ^ t) + j) < 3992977412 := fun j hj => by
      rw [← e2]; exact h4 _ (index_lt (by omega) hb hj)
    by_cases hjh : j < 2 ^ t
    · rw [if_pos hjh]
      obtain ⟨g1, g2⟩ := halves ht hG hb hjh
      obtain ⟨t0, t1, t2⟩ := htt j hjh
      obtain ⟨x0, x1⟩ := bnd j hj
      obtain ⟨y0, y1⟩ := bnd (2 ^ t + j) (by rw [e2]; omega)
      obtain ⟨u0, u1, u2⟩ := ured_bound x0 x1
      obtain ⟨v0, v1, v2⟩ := tms_bound _ _ t0 t1 y0 (by omega)
      refine ⟨?_, by omega, by omega⟩
      rw [lvl_step F W k t _ j ht]
      have := (u2.trans g1).add (v2.trans (g2.mul t2))
      rw [Int.mul_comm (lvl F W k t (rev (k - (t + 1)) b + 2 ^ (k - (t + 1))) j)] at this
      exact this
    · rw [if_neg hjh]
      obtain ⟨j', rfl⟩ : ∃ j', j = 2 ^ t + j' := ⟨j - 2 ^ t, by omega⟩
      rw [Nat.add_sub_cancel_left]
      have hj' : j' < 2 ^ t := by rw [e2] at hj; omega
      obtain ⟨g1, g2⟩ := halves ht hG hb hj'
      obtain ⟨t0, t1, t2⟩ := htt j' hj'
      obtain ⟨x0, x1⟩ := bnd j' (by rw [e2]; omega)
      obtain ⟨y0, y1⟩ := bnd (2 ^ t + j') hj
      obtain ⟨u0, u1, u2⟩ := ured_bound x0 x1
      obtain ⟨v0, v1, v2⟩ := tms_bound _ _ t0 t1 y0 (by omega)
      refine ⟨?_, by omega, by omega⟩
      refine Eqm.trans ?_ (lvl_step2 F W k t _ j' ht hw).symm
      have := ((eqm_two_P _).trans (u2.trans g1)).sub (v2.trans (g2.mul t2))
      rw [Int.mul_comm (lvl F W k t (rev (k - (t + 1)) b + 2 ^ (k - (t + 1))) j')] at this
      exact this
  refine ⟨fun b j hb hj => (key b j hb hj).1, fun i hi => ?_⟩
  have hb : i / 2 ^ (t + 1) < 2 ^ (k - (t + 1)) := by
    rw [Nat.div_lt_iff_lt_mul (Nat.two_pow_pos _), ← Nat.pow_add, show k - (t + 1) + (t + 1) = k by omega]; exact hi
  have := (key (i / 2 ^ (t + 1)) (i % 2 ^ (t + 1)) hb (Nat.mod_lt _ (Nat.two_pow_pos _))).2
  rw [Nat.mul_comm, Nat.div_add_mod] at this
  exact this

theorem first_step {F : Nat → Int} {W : Int} {k : Nat} {G : Nat → Int} (hk : 1 ≤ k) (hw : Eqm (W ^ 2 ^ (k - 1)) (-1)) (hG : LvlOK F W k 0 G) (hb : ∀ i, i < 2 ^ k → 0 ≤ G i ∧ G i < 998244353) :
    LvlOK F W k 1 (firstF G) ∧ In4 (2 ^ k) (firstF G) := by
  refine ⟨fun b j hbb hj => ?_, fun i hi => ?_⟩
  · obtain ⟨g1, g2⟩ := halves (t := 0) (by omega) hG hbb (show 0 < 2 ^ 0 by decide)
    have e1 : b * (2 * 2 ^ 0) + 0 = 2 * b := by rw [Nat.pow_zero]; omega
    have e2 : b * (2 * 2 ^ 0) + (2 ^ 0 + 0) = 2 * b + 1 := by rw [Nat.pow_zero]; omega
    rw [e1] at g1
    rw [e2] at g2
    have e3 : b * 2 ^ 1 = 2 * b := by omega
    rw [e3]
    have hj2 : j = 0 ∨ j = 1 := by rw [show 2 ^ 1 = 2 by decide] at hj; omega
    rcases hj2 with rfl | rfl
    · unfold firstF
      rw [if_pos (by omega), lvl_step F W k 0 _ 0 (by omega), Int.pow_zero, Int.one_mul]
      exact g1.add g2
    · have h2 := lvl_step2 F W k 0 (rev (k - (0 + 1)) b) 0 (by omega) hw
      rw [show 2 ^ 0 + 0 = 1 by decide, Int.pow_zero, Int.one_mul] at h2
      refine Eqm.trans ?_ h2.symm
      unfold firstF
      rw [if_neg (by omega), show 2 * b + 1 - 1 = 2 * b by omega]
      have h3 : Eqm (G (2 * b) + 998244353) (G (2 * b)) := ⟨1, by omega⟩
      exact (h3.trans g1).sub g2
  · unfold firstF
    have hk2 : 2 ^ k = 2 * 2 ^ (k - 1) := by rw [← Nat.pow_succ']; congr 1; omega
    split
    · obtain ⟨a, b⟩ := hb i hi
      obtain ⟨c, d⟩ := hb (i + 1) (by omega)
      omega
    · obtain ⟨a, b⟩ := hb i hi
      obtain ⟨c, d⟩ := hb (i - 1) (by omega)
      omega

theorem last_step {F : Nat → Int} {W : Int} {k : Nat} {G : Nat → Int} (hG : LvlOK F W k k G) (h4 : In4 (2 ^ k) G) (j : Nat) (hj : j < 2 ^ k) : ured (G j) % 998244353 = dft F W (2 ^ k) j % 998244353 := by
  have h := hG 0 j (by rw [Nat.sub_self]; decide) hj
  rw [Nat.zero_mul, Nat.zero_add, Nat.sub_self] at h
  have e : rev 0 0 = 0 := rfl
  rw [e, lvl_top] at h
  obtain ⟨a, b⟩ := h4 j hj
  exact (Eqm.iff_emod _ _).1 ((ured_bound a b).2.2.trans h)
end Go.Proofs.Ygctag
