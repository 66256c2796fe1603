import Derived.Test.YgctagBase
namespace Go.Proofs.Ygctag

/-! ### Integers modulo the prime -/
/-- Congruent modulo P. -/
def Eqm (a b : Int) : Prop := ∃ k, a = b + 998244353 * k

namespace Eqm
theorem refl (a : Int) : Eqm a a := ⟨0, by omega⟩
theorem of_eq {a b : Int} (h : a = b) : Eqm a b := ⟨0, by omega⟩
theorem symm {a b : Int} (h : Eqm a b) : Eqm b a := by obtain ⟨k, h⟩ := h; exact ⟨-k, by omega⟩
theorem trans {a b c : Int} (h : Eqm a b) (g : Eqm b c) : Eqm a c := by obtain ⟨k, h⟩ := h; obtain ⟨l, g⟩ := g; exact ⟨k + l, by omega⟩
theorem add {a b c d : Int} (h : Eqm a b) (g : Eqm c d) : Eqm (a + c) (b + d) := by obtain ⟨k, h⟩ := h; obtain ⟨l, g⟩ := g; exact ⟨k + l, by omega⟩
theorem sub {a b c d : Int} (h : Eqm a b) (g : Eqm c d) : Eqm (a - c) (b - d) := by obtain ⟨k, h⟩ := h; obtain ⟨l, g⟩ := g; exact ⟨k - l, by omega⟩
theorem mul {a b c d : Int} (h : Eqm a b) (g : Eqm c d) : Eqm (a * c) (b * d) := by
  obtain ⟨k, rfl⟩ := h; obtain ⟨l, rfl⟩ := g; exact ⟨b * l + k * d + 998244353 * k * l, by grind⟩
theorem pow {a b : Int} (h : Eqm a b) (n : Nat) : Eqm (a ^ n) (b ^ n) := by
  induction n with
  | zero => rw [Int.pow_zero, Int.pow_zero]; exact refl _
  | succ n ih => rw [Int.pow_succ, Int.pow_succ]; exact ih.mul h
theorem emod (a : Int) : Eqm (a % 998244353) a := ⟨-(a / 998244353), by omega⟩
theorem iff_emod (a b : Int) : Eqm a b ↔ a % 998244353 = b % 998244353 := by
  constructor
  · rintro ⟨k, rfl⟩; omega
  · intro h; exact ⟨a / 998244353 - b / 998244353, by omega⟩
theorem eq_of_lt {a b : Int} (h : Eqm a b) (h0 : 0 ≤ a) (h1 : a < 998244353) (g0 : 0 ≤ b) (g1 : b < 998244353) : a = b := by
  rw [iff_emod] at h; omega
end Eqm

/-! ### Sums -/
def sumI (f : Nat → Int) : Nat → Int
  | 0 => 0
  | n + 1 => sumI f n + f n

theorem sumI_congr {f g : Nat → Int} {n : Nat} (h : ∀ i, i < n → f i = g i) : sumI f n = sumI g n := by
  induction n with
  | zero => rfl
  | succ n ih => show sumI f n + f n = sumI g n + g n; rw [ih (fun i hi => h i (by omega)), h n (by omega)]
theorem sumI_eqm {f g : Nat → Int} {n : Nat} (h : ∀ i, i < n → Eqm (f i) (g i)) : Eqm (sumI f n) (sumI g n) := by
  induction n with
  | zero => exact Eqm.refl _
  | succ n ih => exact (ih (fun i hi => h i (by omega))).add (h n (by omega))
theorem sumI_add (f g : Nat → Int) (n : Nat) : sumI (fun i => f i + g i) n = sumI f n + sumI g n := by
  induction n with
  | zero => rfl
  | succ n ih => show sumI (fun i => f i + g i) n + (f n + g n) = (sumI f n + f n) + (sumI g n + g n); rw [ih]; omega
theorem sumI_mul (c : Int) (f : Nat → Int) (n : Nat) : sumI (fun i => c * f i) n = c * sumI f n := by
  induction n with
  | zero => show (0 : Int) = c * 0; omega
  | succ n ih => show sumI (fun i => c * f i) n + c * f n = c * (sumI f n + f n); rw [ih, Int.mul_add]
theorem sumI_mulr (c : Int) (f : Nat → Int) (n : Nat) : sumI (fun i => f i * c) n = sumI f n * c := by
  rw [Int.mul_comm, ← sumI_mul]
  exact sumI_congr fun i _ => Int.mul_comm _ _
theorem sumI_zero (n : Nat) : sumI (fun _ => 0) n = 0 := by
  induction n with
  | zero => rfl
  | succ n ih => show sumI (fun _ => 0) n + 0 = 0; rw [ih]; rfl
theorem sumI_swap (f : Nat → Nat → Int) (n m : Nat) : sumI (fun i => sumI (fun j => f i j) m) n = sumI (fun j => sumI (fun i => f i j) n) m := by
  induction n with
  | zero => show (0 : Int) = sumI (fun _ => 0) m; rw [sumI_zero]
  | succ n ih =>
    show sumI (fun i => sumI (fun j => f i j) m) n + sumI (fun j => f n j) m = sumI (fun j => sumI (fun i => f i j) n + f n j) m
    rw [ih, sumI_add]
theorem sumI_split (f : Nat → Int) (n m : Nat) : sumI f (n + m) = sumI f n + sumI (fun i => f (n + i)) m := by
  induction m with
  | zero => show sumI f n = sumI f n + 0; omega
  | succ m ih => show sumI f (n + m) + f (n + m) = sumI f n + (sumI (fun i => f (n + i)) m + f (n + m)); rw [ih]; omega
theorem sumI_parity (f : Nat → Int) (h : Nat) : sumI f (2 * h) = sumI (fun i => f (2 * i)) h + sumI (fun i => f (2 * i + 1)) h := by
  induction h with
  | zero => rfl
  | succ h ih =>
    rw [show 2 * (h + 1) = 2 * h + 1 + 1 by omega]
    show sumI f (2 * h) + f (2 * h) + f (2 * h + 1) = (sumI (fun i => f (2 * i)) h + f (2 * h)) + (sumI (fun i => f (2 * i + 1)) h + f (2 * h + 1))
    rw [ih]; omega
theorem sumI_one {f : Nat → Int} {n l : Nat} (hl : l < n) (h : ∀ i, i < n → i ≠ l → Eqm (f i) 0) : Eqm (sumI f n) (f l) := by
  induction n with
  | zero => omega
  | succ n ih =>
    show Eqm (sumI f n + f n) (f l)
    by_cases e : l = n
    · subst e
      have h1 : Eqm (sumI f l) (sumI (fun _ => 0) l) := sumI_eqm fun i hi => h i (by omega) (by omega)
      rw [sumI_zero] at h1
      have := h1.add (Eqm.refl (f l))
      rw [Int.zero_add] at this
      exact this
    · have := (ih (by omega) fun i hi hne => h i (by omega) hne).add (h n (by omega) (Ne.symm e))
      rw [Int.add_zero] at this
      exact this

/-! ### The transform -/
/-- Entry j of the transform. -/
def dft (x : Nat → Int) (w : Int) (n j : Nat) : Int := sumI (fun i => x i * w ^ (i * j)) n

/-- A block after t passes. -/
def lvl (x : Nat → Int) (w : Int) (k t r j : Nat) : Int := sumI (fun m => x (r + 2 ^ (k - t) * m) * (w ^ 2 ^ (k - t)) ^ (m * j)) (2 ^ t)

theorem lvl_zero (x : Nat → Int) (w : Int) (k r j : Nat) : lvl x w k 0 r j = x r := by
  show (0 : Int) + x (r + 2 ^ (k - 0) * 0) * (w ^ 2 ^ (k - 0)) ^ (0 * j) = x r
  rw [Nat.mul_zero, Nat.add_zero, Nat.zero_mul, Int.pow_zero]; omega
theorem lvl_top (x : Nat → Int) (w : Int) (k j : Nat) : lvl x w k k 0 j = dft x w (2 ^ k) j := by
  unfold lvl dft
  rw [Nat.sub_self]
  exact sumI_congr fun i _ => by rw [Nat.pow_zero, Nat.one_mul, Nat.zero_add, Int.pow_succ, Int.pow_zero, Int.one_mul]

theorem lvl_step (x : Nat → Int) (w : Int) (k t r j : Nat) (ht : t + 1 ≤ k) :
    lvl x w k (t + 1) r j = lvl x w k t r j + (w ^ 2 ^ (k - (t + 1))) ^ j * lvl x w k t (r + 2 ^ (k - (t + 1))) j := by
  have e : k - t = k - (t + 1) + 1 := by omega
  unfold lvl
  rw [e, Nat.pow_succ 2 t, Nat.mul_comm (2 ^ t) 2, sumI_parity]
  generalize k - (t + 1) = d
  have ew : w ^ 2 ^ (d + 1) = (w ^ 2 ^ d) ^ 2 := by rw [Nat.pow_succ, Int.pow_mul]
  rw [ew]
  generalize w ^ 2 ^ d = W
  congr 1
  · refine sumI_congr fun i _ => ?_
    rw [show r + 2 ^ d * (2 * i) = r + 2 ^ (d + 1) * i by rw [Nat.pow_succ, Nat.mul_assoc], ← Int.pow_mul, Nat.mul_assoc]
  · rw [← sumI_mul]
    refine sumI_congr fun i _ => ?_
    rw [show r + 2 ^ d * (2 * i + 1) = r + 2 ^ d + 2 ^ (d + 1) * i by rw [Nat.pow_succ, Nat.mul_add, Nat.mul_assoc]; omega, ← Int.pow_mul,
      show (2 * i + 1) * j = j + 2 * (i * j) by rw [Nat.add_mul, Nat.mul_assoc]; omega, Int.pow_add]
    generalize x (r + 2 ^ d + 2 ^ (d + 1) * i) = X
    generalize W ^ j = A
    generalize W ^ (2 * (i * j)) = B
    grind

theorem pow_one_of_neg {w : Int} {k : Nat} (hk : 1 ≤ k) (hw : Eqm (w ^ 2 ^ (k - 1)) (-1)) : Eqm (w ^ 2 ^ k) 1 := by
  have e : w ^ 2 ^ k = w ^ 2 ^ (k - 1) * w ^ 2 ^ (k - 1) := by
    rw [← Int.pow_add]; congr 1
    rw [← Nat.two_mul, ← Nat.pow_succ']; congr 1; omega
  rw [e]
  exact hw.mul hw

theorem lvl_step2 (x : Nat → Int) (w : Int) (k t r j : Nat) (ht : t + 1 ≤ k) (hw : Eqm (w ^ 2 ^ (k - 1)) (-1)) :
    Eqm (lvl x w k (t + 1) r (2 ^ t + j)) (lvl x w k t r j - (w ^ 2 ^ (k - (t + 1))) ^ j * lvl x w k t (r + 2 ^ (k - (t + 1))) j) := by
  rw [lvl_step x w k t r _ ht]
  have h1 := pow_one_of_neg (by omega) hw
  have per : ∀ r, Eqm (lvl x w k t r (2 ^ t + j)) (lvl x w k t r j) := by
    intro r
    unfold lvl
    refine sumI_eqm fun m _ => (Eqm.refl _).mul ?_
    have e1 : (w ^ 2 ^ (k - t)) ^ (m * (2 ^ t + j)) = (w ^ 2 ^ k) ^ m * (w ^ 2 ^ (k - t)) ^ (m * j) := by
      have e0 : (w ^ 2 ^ (k - t)) ^ (m * 2 ^ t) = (w ^ 2 ^ k) ^ m := by
        rw [← Int.pow_mul, ← Int.pow_mul, Nat.mul_comm m, ← Nat.mul_assoc, ← Nat.pow_add, show k - t + t = k by omega]
      rw [Nat.mul_add, Int.pow_add, e0]
    rw [e1]
    have := (h1.pow m).mul (Eqm.refl ((w ^ 2 ^ (k - t)) ^ (m * j)))
    rw [Int.one_pow, Int.one_mul] at this
    exact this
  have hp : Eqm ((w ^ 2 ^ (k - (t + 1))) ^ (2 ^ t + j)) (-(w ^ 2 ^ (k - (t + 1))) ^ j) := by
    rw [Int.pow_add, ← Int.pow_mul, ← Nat.pow_add, show k - (t + 1) + t = k - 1 by omega]
    have := hw.mul (Eqm.refl ((w ^ 2 ^ (k - (t + 1))) ^ j))
    rw [Int.neg_one_mul] at this
    exact this
  have := (per r).add (hp.mul (per (r + 2 ^ (k - (t + 1)))))
  rw [Int.neg_mul, ← Int.sub_eq_add_neg] at this
  exact this

/-! ### The way back -/
/-- 1 + y + ... + y^(2^k - 1), where y^(2^b) is -1 for a b below k. -/
theorem geo_zero (y : Int) (k b : Nat) (hb : b < k) (hy : Eqm (y ^ 2 ^ b) (-1)) : Eqm (sumI (fun j => y ^ j) (2 ^ k)) 0 := by
  induction k generalizing y b with
  | zero => omega
  | succ k ih =>
    have e : sumI (fun j => y ^ j) (2 ^ (k + 1)) = (1 + y) * sumI (fun j => (y ^ 2) ^ j) (2 ^ k) := by
      rw [Nat.pow_succ, Nat.mul_comm, sumI_parity]
      have e1 : sumI (fun i => y ^ (2 * i)) (2 ^ k) = sumI (fun j => (y ^ 2) ^ j) (2 ^ k) := sumI_congr fun i _ => by rw [Int.pow_mul]
      have e2 : sumI (fun i => y ^ (2 * i + 1)) (2 ^ k) = y * sumI (fun j => (y ^ 2) ^ j) (2 ^ k) := by
        rw [← sumI_mul]
        exact sumI_congr fun i _ => by rw [Int.pow_succ, Int.pow_mul, Int.mul_comm]
      rw [e1, e2, Int.add_mul, Int.one_mul]
    rw [e]
    cases b with
    | zero =>
      rw [Nat.pow_zero, Int.pow_succ, Int.pow_zero, Int.one_mul] at hy
      have h1 : Eqm (1 + y) 0 := (Eqm.refl 1).add hy
      have := h1.mul (Eqm.refl (sumI (fun j => (y ^ 2) ^ j) (2 ^ k)))
      rw [Int.zero_mul] at this
      exact this
    | succ b =>
      have h2 := ih (y ^ 2) b (by omega) (by rw [← Int.pow_mul, ← Nat.pow_succ']; exact hy)
      have := (Eqm.refl (1 + y)).mul h2
      rw [Int.mul_zero] at this
      exact this

theorem odd_part (d : Nat) (h : 0 < d) : ∃ e o, d = 2 ^ e * (2 * o + 1) := by
  induction d using Nat.strongRecOn with
  | ind d ih =>
    by_cases h2 : d % 2 = 1
    · exact ⟨0, d / 2, by rw [Nat.pow_zero, Nat.one_mul]; omega⟩
    · obtain ⟨e, o, he⟩ := ih (d / 2) (by omega) (by omega)
      refine ⟨e + 1, o, ?_⟩
      rw [Nat.pow_succ, Nat.mul_comm (2 ^ e) 2, Nat.mul_assoc, ← he]
      omega

/-- A power of w that is not 1 sums up to 0. -/
theorem ortho (w : Int) (k d : Nat) (hw : Eqm (w ^ 2 ^ (k - 1)) (-1)) (hd : 0 < d) (hd2 : d < 2 ^ k) : Eqm (sumI (fun j => (w ^ d) ^ j) (2 ^ k)) 0 := by
  obtain ⟨e, o, rfl⟩ := odd_part d hd
  have he : e < k := by
    by_cases h : e < k
    · exact h
    · have h1 : 2 ^ k ≤ 2 ^ e := Nat.pow_le_pow_right (by decide) (by omega)
      have h2 : 2 ^ e * 1 ≤ 2 ^ e * (2 * o + 1) := Nat.mul_le_mul_left _ (by omega)
      omega
  refine geo_zero _ k (k - 1 - e) (by omega) ?_
  have e1 : (w ^ (2 ^ e * (2 * o + 1))) ^ 2 ^ (k - 1 - e) = (w ^ 2 ^ (k - 1)) ^ (2 * o + 1) := by
    rw [← Int.pow_mul, ← Int.pow_mul]
    congr 1
    rw [Nat.mul_assoc, Nat.mul_comm (2 * o + 1), ← Nat.mul_assoc, ← Nat.pow_add, show e + (k - 1 - e) = k - 1 by omega]
  rw [e1]
  have h := hw.pow (2 * o + 1)
  have e2 : (-1 : Int) ^ (2 * o + 1) = -1 := by
    rw [Int.pow_succ, Int.pow_mul]
    rw [show ((-1 : Int) ^ 2) = 1 by decide, Int.one_pow]; rfl
  rw [e2] at h
  exact h

/-- The transform with the inverse root undoes the transform, but for the factor n. -/
theorem dft_inv (x : Nat → Int) (w v : Int) (k l : Nat) (hw : Eqm (w ^ 2 ^ (k - 1)) (-1)) (hv : Eqm (v ^ 2 ^ (k - 1)) (-1)) (hwv : Eqm (w * v) 1) (hl : l < 2 ^ k) :
    Eqm (dft (fun j => dft x w (2 ^ k) j) v (2 ^ k) l) (((2 ^ k : Nat) : Int) * x l) := by
  have e : dft (fun j => dft x w (2 ^ k) j) v (2 ^ k) l = sumI (fun i => x i * sumI (fun j => (w ^ i * v ^ l) ^ j) (2 ^ k)) (2 ^ k) := by
    unfold dft
    have e1 : ∀ j, sumI (fun i => x i * w ^ (i * j)) (2 ^ k) * v ^ (j * l) = sumI (fun i => x i * (w ^ i * v ^ l) ^ j) (2 ^ k) := by
      intro j
      rw [← sumI_mulr]
      refine sumI_congr fun i _ => ?_
      rw [Int.mul_pow, ← Int.pow_mul, ← Int.pow_mul, Nat.mul_comm l j, Int.mul_assoc]
    rw [sumI_congr (fun j _ => e1 j), sumI_swap]
    refine sumI_congr fun i _ => ?_
    rw [sumI_mul]
  rw [e]
  have hone : ∀ m, Eqm (w ^ m * v ^ m) 1 := fun m => by
    have := hwv.pow m
    rw [Int.mul_pow, Int.one_pow] at this
    exact this
  have h := sumI_one (f := fun i => x i * sumI (fun j => (w ^ i * v ^ l) ^ j) (2 ^ k)) hl (fun i hi hne => by
    have hz : Eqm (sumI (fun j => (w ^ i * v ^ l) ^ j) (2 ^ k)) 0 := by
      by_cases hil : l < i
      · have hp : Eqm (w ^ i * v ^ l) (w ^ (i - l)) := by
          rw [show i = (i - l) + l by omega, Int.pow_add, Nat.add_sub_cancel, Int.mul_assoc]
          have := (Eqm.refl (w ^ (i - l))).mul (hone l)
          rw [Int.mul_one] at this
          exact this
        exact (sumI_eqm fun j _ => hp.pow j).trans (ortho w k (i - l) hw (by omega) (by omega))
      · have hp : Eqm (w ^ i * v ^ l) (v ^ (l - i)) := by
          have e3 : v ^ l = v ^ i * v ^ (l - i) := by rw [← Int.pow_add]; congr 1; omega
          rw [e3, ← Int.mul_assoc]
          have := (hone i).mul (Eqm.refl (v ^ (l - i)))
          rw [Int.one_mul] at this
          exact this
        exact (sumI_eqm fun j _ => hp.pow j).trans (ortho v k (l - i) hv (by omega) (by omega))
    have := (Eqm.refl (x i)).mul hz
    rw [Int.mul_zero] at this
    exact this)
  refine h.trans ?_
  have hl1 : Eqm (sumI (fun j => (w ^ l * v ^ l) ^ j) (2 ^ k)) ((2 ^ k : Nat) : Int) := by
    have h1 : Eqm (sumI (fun j => (w ^ l * v ^ l) ^ j) (2 ^ k)) (sumI (fun _ => 1) (2 ^ k)) := sumI_eqm fun j _ => by
      have := (hone l).pow j
      rw [Int.one_pow] at this
      exact this
    have h2 : ∀ n : Nat, sumI (fun _ => 1) n = n := by
      intro n
      induction n with
      | zero => rfl
      | succ n ih => show sumI (fun _ => 1) n + 1 = _; rw [ih]; omega
    rw [h2] at h1
    exact h1
  have := (Eqm.refl (x l)).mul hl1
  rw [Int.mul_comm (x l) ((2 ^ k : Nat) : Int)] at this
  exact this

/-! ### Reversed bits -/
def rev : Nat → Nat → Nat
  | 0, _ => 0
  | k + 1, i => rev k (i / 2) + i % 2 * 2 ^ k

theorem rev_lt (k i : Nat) : rev k i < 2 ^ k := by
  induction k generalizing i with
  | zero => show 0 < 1; omega
  | succ k ih =>
    show rev k (i / 2) + i % 2 * 2 ^ k < 2 ^ (k + 1)
    have h1 := ih (i / 2)
    have h2 : i % 2 * 2 ^ k ≤ 1 * 2 ^ k := Nat.mul_le_mul_right _ (by omega)
    rw [Nat.pow_succ]; omega

theorem rev_top (k a b : Nat) (ha : a < 2 ^ k) (hb : b < 2) : rev (k + 1) (a + b * 2 ^ k) = 2 * rev k a + b := by
  induction k generalizing a with
  | zero =>
    have : a = 0 := by omega
    subst this
    show 0 + (0 + b * 1) % 2 * 1 = 2 * 0 + b
    omega
  | succ k ih =>
    show rev (k + 1) ((a + b * 2 ^ (k + 1)) / 2) + (a + b * 2 ^ (k + 1)) % 2 * 2 ^ (k + 1) = 2 * (rev k (a / 2) + a % 2 * 2 ^ k) + b
    have e1 : (a + b * 2 ^ (k + 1)) / 2 = a / 2 + b * 2 ^ k := by
      rw [Nat.pow_succ, ← Nat.mul_assoc, Nat.add_mul_div_right _ _ (by decide)]
    have e2 : (a + b * 2 ^ (k + 1)) % 2 = a % 2 := by
      rw [Nat.pow_succ, ← Nat.mul_assoc, Nat.add_mul_mod_self_right]
    rw [e1, e2, ih (a / 2) (by rw [Nat.pow_succ] at ha; omega), Nat.pow_succ]
    generalize 2 ^ k = B
    generalize rev k (a / 2) = R
    grind

theorem rev_rev (k i : Nat) (h : i < 2 ^ k) : rev k (rev k i) = i := by
  induction k generalizing i with
  | zero => show 0 = i; rw [Nat.pow_zero] at h; omega
  | succ k ih =>
    show rev (k + 1) (rev k (i / 2) + i % 2 * 2 ^ k) = i
    rw [rev_top k _ _ (rev_lt k _) (by omega), ih (i / 2) (by rw [Nat.pow_succ] at h; omega)]
    omega

/-- Adding 1 to i: the low t bits are ones, the next is none. -/
theorem rev_incr (k t i : Nat) (ht : t < k) (h1 : i % 2 ^ t = 2 ^ t - 1) (h2 : i / 2 ^ t % 2 = 0) : rev k (i + 1) = rev (k - t) (i / 2 ^ t) + 2 ^ (k - 1 - t) := by
  induction t generalizing k i with
  | zero =>
    obtain ⟨k, rfl⟩ : ∃ m, k = m + 1 := ⟨k - 1, by omega⟩
    rw [Nat.pow_zero, Nat.div_one] at *
    show rev k ((i + 1) / 2) + (i + 1) % 2 * 2 ^ k = rev k (i / 2) + i % 2 * 2 ^ k + 2 ^ (k + 1 - 1 - 0)
    rw [show (i + 1) / 2 = i / 2 by omega, show (i + 1) % 2 = 1 by omega, show i % 2 = 0 by omega]
    simp
  | succ t ih =>
    obtain ⟨k, rfl⟩ : ∃ m, k = m + 1 := ⟨k - 1, by omega⟩
    have hp : 0 < 2 ^ t := Nat.two_pow_pos t
    rw [Nat.pow_succ] at h1 h2
    have hodd : i % 2 = 1 := by
      have : i % (2 ^ t * 2) % 2 = i % 2 := Nat.mod_mul_left_mod _ _ _
      omega
    have e1 : i / (2 ^ t * 2) = i / 2 / 2 ^ t := by rw [Nat.mul_comm, Nat.div_div_eq_div_mul]
    have e2 : i / 2 % 2 ^ t = 2 ^ t - 1 := by
      have h3 : i % (2 * 2 ^ t) / 2 = i / 2 % 2 ^ t := Nat.mod_mul_right_div_self _ _ _
      rw [Nat.mul_comm] at h1
      omega
    have := ih k (i / 2) (by omega) e2 (by rw [← e1]; exact h2)
    show rev k ((i + 1) / 2) + (i + 1) % 2 * 2 ^ k = _
    rw [show (i + 1) / 2 = i / 2 + 1 by omega, show (i + 1) % 2 = 0 by omega, this, Nat.pow_succ, e1, show k + 1 - (t + 1) = k - t by omega, show k + 1 - 1 - (t + 1) = k - 1 - t by omega]
    omega

theorem rev_all (k i : Nat) (h : i % 2 ^ k = 2 ^ k - 1) : rev k (i + 1) = 0 := by
  induction k generalizing i with
  | zero => rfl
  | succ k ih =>
    have hp : 0 < 2 ^ k := Nat.two_pow_pos k
    rw [Nat.pow_succ] at h
    have hodd : i % 2 = 1 := by
      have : i % (2 ^ k * 2) % 2 = i % 2 := Nat.mod_mul_left_mod _ _ _
      omega
    have e2 : i / 2 % 2 ^ k = 2 ^ k - 1 := by
      have h3 : i % (2 * 2 ^ k) / 2 = i / 2 % 2 ^ k := Nat.mod_mul_right_div_self _ _ _
      rw [Nat.mul_comm] at h
      omega
    show rev k ((i + 1) / 2) + (i + 1) % 2 * 2 ^ k = 0
    rw [show (i + 1) / 2 = i / 2 + 1 by omega, show (i + 1) % 2 = 0 by omega, ih _ e2]
    omega
end Go.Proofs.Ygctag
