import Derived.Test.YgctagNttA
namespace Go.Proofs.Ygctag

/-- Entry s of the product of two polynomials of at most N entries. -/
def cv (x y : Nat → Int) (N s : Nat) : Int := sumI (fun p => if p ≤ s then x p * y (s - p) else 0) N
/-- The value of the first n entries at z. -/
def evl (x : Nat → Int) (z : Int) (n : Nat) : Int := sumI (fun i => x i * z ^ i) n

theorem sumI_cut {f : Nat → Int} {n m : Nat} (h : n ≤ m) (hz : ∀ i, n ≤ i → i < m → f i = 0) : sumI f m = sumI f n := by
  obtain ⟨d, rfl⟩ : ∃ d, m = n + d := ⟨m - n, by omega⟩
  rw [sumI_split, sumI_congr (g := fun _ => 0) (fun i hi => hz (n + i) (by omega) (by omega)), sumI_zero, Int.add_zero]

theorem evl_cv (x y : Nat → Int) (z : Int) (h : Nat) (hx : ∀ i, h ≤ i → x i = 0) (hy : ∀ i, h ≤ i → y i = 0) :
    evl (cv x y (2 * h)) z (2 * h) = evl x z (2 * h) * evl y z (2 * h) := by
  unfold evl cv
  have e1 : sumI (fun s => sumI (fun p => if p ≤ s then x p * y (s - p) else 0) (2 * h) * z ^ s) (2 * h) = sumI (fun s => sumI (fun p => (if p ≤ s then x p * y (s - p) else 0) * z ^ s) (2 * h)) (2 * h) :=
    sumI_congr fun s _ => (sumI_mulr _ _ _).symm
  rw [e1, sumI_swap, ← sumI_mulr]
  refine sumI_congr fun p hp => ?_
  by_cases hph : h ≤ p
  · rw [hx p hph, Int.zero_mul, Int.zero_mul]
    rw [sumI_congr (g := fun _ => 0), sumI_zero]
    intro i _
    split
    · rw [Int.zero_mul, Int.zero_mul]
    · rw [Int.zero_mul]
  · have e2 : sumI (fun i => (if p ≤ i then x p * y (i - p) else 0) * z ^ i) (2 * h) = sumI (fun i => x p * z ^ p * (y i * z ^ i)) (2 * h - p) := by
      rw [show 2 * h = p + (2 * h - p) by omega, sumI_split]
      rw [sumI_congr (f := fun i => (if p ≤ i then x p * y (i - p) else 0) * z ^ i) (g := fun _ => 0) (fun i hi => by rw [if_neg (by omega), Int.zero_mul]), sumI_zero, Int.zero_add]
      rw [show p + (2 * h - p) - p = 2 * h - p by omega]
      refine sumI_congr fun i _ => ?_
      rw [if_pos (by omega), show p + i - p = i by omega, Int.pow_add]
      generalize x p = X
      generalize y i = Y
      generalize z ^ p = A
      generalize z ^ i = B
      grind
    rw [e2, sumI_mul]
    congr 1
    have c1 : sumI (fun i => y i * z ^ i) (2 * h - p) = sumI (fun i => y i * z ^ i) h := sumI_cut (by omega) (fun i h1 _ => by rw [hy i h1, Int.zero_mul])
    have c2 : sumI (fun i => y i * z ^ i) (2 * h) = sumI (fun i => y i * z ^ i) h := sumI_cut (by omega) (fun i h1 _ => by rw [hy i h1, Int.zero_mul])
    rw [c1, c2]

theorem dft_evl (x : Nat → Int) (w : Int) (n j : Nat) : dft x w n j = evl x (w ^ j) n := by
  unfold dft evl
  exact sumI_congr fun i _ => by rw [← Int.pow_mul, Nat.mul_comm j i]

theorem sumI_nonneg {f : Nat → Int} {n : Nat} (h : ∀ i, i < n → 0 ≤ f i) : 0 ≤ sumI f n := by
  induction n with
  | zero => exact Int.le_refl 0
  | succ n ih => have h1 := ih (fun i hi => h i (by omega)); have h2 := h n (by omega); show 0 ≤ sumI f n + f n; omega
theorem sumI_le {f : Nat → Int} {n : Nat} {B : Int} (h : ∀ i, i < n → f i ≤ B) : sumI f n ≤ n * B := by
  induction n with
  | zero => show (0 : Int) ≤ ((0 : Nat) : Int) * B; rw [Int.natCast_zero, Int.zero_mul]; exact Int.le_refl 0
  | succ n ih =>
    have h1 := ih (fun i hi => h i (by omega)); have h2 := h n (by omega)
    show sumI f n + f n ≤ ((n + 1 : Nat) : Int) * B
    rw [Int.natCast_add, Int.add_mul]
    have : ((1 : Nat) : Int) * B = B := by rw [Int.natCast_one, Int.one_mul]
    omega

theorem cv_bound (x y : Nat → Int) (h s : Nat) (hx0 : ∀ i, 0 ≤ x i ∧ x i ≤ 255) (hy0 : ∀ i, 0 ≤ y i ∧ y i ≤ 255) (hx : ∀ i, h ≤ i → x i = 0) : 0 ≤ cv x y (2 * h) s ∧ cv x y (2 * h) s ≤ h * 65025 := by
  unfold cv
  have e : sumI (fun p => if p ≤ s then x p * y (s - p) else 0) (2 * h) = sumI (fun p => if p ≤ s then x p * y (s - p) else 0) h := sumI_cut (by omega) (fun i h1 _ => by
    split
    · rw [hx i h1, Int.zero_mul]
    · rfl)
  rw [e]
  have key : ∀ p, 0 ≤ (if p ≤ s then x p * y (s - p) else 0) ∧ (if p ≤ s then x p * y (s - p) else 0) ≤ 65025 := fun p => by
    split
    · obtain ⟨a, b⟩ := hx0 p
      obtain ⟨c, d⟩ := hy0 (s - p)
      refine ⟨Int.mul_nonneg a c, ?_⟩
      have h1 : x p * y (s - p) ≤ 255 * y (s - p) := Int.mul_le_mul_of_nonneg_right b c
      omega
    · exact ⟨by decide, by decide⟩
  exact ⟨sumI_nonneg fun i _ => (key i).1, sumI_le fun i _ => (key i).2⟩

/-- The transforms of c pairs of blocks, multiplied point by point, added up and transformed back, are the sums of the products. -/
theorem back_exact (k h c : Nat) (hk : k + 1 ≤ 11) (hh : h = 2 ^ k) (hc : c ≤ 29) (X Y : Nat → Nat → Int) (hX : ∀ i p, 0 ≤ X i p ∧ X i p ≤ 255) (hY : ∀ i p, 0 ≤ Y i p ∧ Y i p ≤ 255) (hX0 : ∀ i p, h ≤ p → X i p = 0) (hY0 : ∀ i p, h ≤ p → Y i p = 0) (hh512 : h ≤ 512)
    (S : Nat → Int) (hS : ∀ j, j < 2 * h → Eqm (S j) (sumI (fun i => dft (X i) (rootN (k + 1)) (2 * h) j * dft (Y i) (rootN (k + 1)) (2 * h) j) c)) (l : Nat) (hl : l < 2 * h) :
    dft S (irootN (k + 1)) (2 * h) l * invN (k + 1) % 998244353 = sumI (fun i => cv (X i) (Y i) (2 * h) l) c := by
  have hn : 2 * h = 2 ^ (k + 1) := by rw [Nat.pow_succ', hh]
  have h1 : ∀ j, j < 2 * h → Eqm (S j) (dft (fun s => sumI (fun i => cv (X i) (Y i) (2 * h) s) c) (rootN (k + 1)) (2 * h) j) := fun j hj => by
    refine (hS j hj).trans (Eqm.of_eq ?_)
    have e1 : ∀ i, dft (X i) (rootN (k + 1)) (2 * h) j * dft (Y i) (rootN (k + 1)) (2 * h) j = sumI (fun s => cv (X i) (Y i) (2 * h) s * (rootN (k + 1) : Int) ^ (s * j)) (2 * h) := fun i => by
      rw [dft_evl, dft_evl, ← evl_cv (X i) (Y i) _ h (hX0 i) (hY0 i)]
      unfold evl
      exact sumI_congr fun s _ => by rw [← Int.pow_mul, Nat.mul_comm j s]
    rw [sumI_congr (fun i _ => e1 i), sumI_swap]
    unfold dft
    exact sumI_congr fun s _ => by rw [sumI_mulr]
  have h2 : Eqm (dft S (irootN (k + 1)) (2 * h) l) (((2 ^ (k + 1) : Nat) : Int) * sumI (fun i => cv (X i) (Y i) (2 * h) l) c) := by
    have a : Eqm (dft S (irootN (k + 1)) (2 * h) l) (dft (fun j => dft (fun s => sumI (fun i => cv (X i) (Y i) (2 * h) s) c) (rootN (k + 1)) (2 * h) j) (irootN (k + 1)) (2 * h) l) := by
      rw [dft.eq_1 S, dft.eq_1 (fun j => dft (fun s => sumI (fun i => cv (X i) (Y i) (2 * h) s) c) (rootN (k + 1)) (2 * h) j)]
      exact sumI_eqm fun i hi => (h1 i hi).mul (Eqm.refl _)
    refine a.trans ?_
    rw [hn]
    exact dft_inv _ _ _ (k + 1) l (root_neg k (by omega)) (iroot_neg k (by omega)) (root_inv k (by omega)) (by rw [← hn]; exact hl)
  have h3 : Eqm (dft S (irootN (k + 1)) (2 * h) l * invN (k + 1)) (sumI (fun i => cv (X i) (Y i) (2 * h) l) c) := by
    refine (h2.mul (Eqm.refl _)).trans ?_
    have t := (two_inv k (by omega)).mul (Eqm.refl (sumI (fun i => cv (X i) (Y i) (2 * h) l) c))
    rw [Int.one_mul] at t
    refine (Eqm.of_eq ?_).trans t
    generalize ((2 ^ (k + 1) : Nat) : Int) = a
    generalize sumI (fun i => cv (X i) (Y i) (2 * h) l) c = b
    generalize (invN (k + 1) : Int) = d
    grind
  have hb : ∀ i, 0 ≤ cv (X i) (Y i) (2 * h) l ∧ cv (X i) (Y i) (2 * h) l ≤ 512 * 65025 := fun i => by
    obtain ⟨a, b⟩ := cv_bound (X i) (Y i) h l (hX i) (hY i) (hX0 i)
    exact ⟨a, by omega⟩
  have s0 : 0 ≤ sumI (fun i => cv (X i) (Y i) (2 * h) l) c := sumI_nonneg fun i _ => (hb i).1
  have s1 : sumI (fun i => cv (X i) (Y i) (2 * h) l) c ≤ c * (512 * 65025) := sumI_le fun i _ => (hb i).2
  have := (Eqm.iff_emod _ _).1 h3
  rw [this, Int.emod_eq_of_lt s0 (by omega)]
end Go.Proofs.Ygctag
