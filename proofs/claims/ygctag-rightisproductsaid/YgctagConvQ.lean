import Derived.Test.YgctagConvP
import Derived.Test.YgctagVec
namespace Go.Proofs.Ygctag

theorem evl_add (F D : Nat → Int) (z : Int) (o n L : Nat) (h : o + n ≤ L) :
    evl (splice o n (fun j => F (o + j) + D j) F) z L = evl F z L + z ^ o * evl D z n := by
  have e1 : ∀ i, splice o n (fun j => F (o + j) + D j) F i * z ^ i = F i * z ^ i + (if o ≤ i ∧ i < o + n then D (i - o) else 0) * z ^ i := fun i => by
    unfold splice
    split
    · next hi =>
      show (F (o + (i - o)) + D (i - o)) * z ^ i = _
      rw [show o + (i - o) = i by omega, Int.add_mul]
    · rw [Int.zero_mul, Int.add_zero]
  unfold evl
  rw [sumI_congr (fun i _ => e1 i), sumI_add]
  congr 1
  rw [show L = o + (L - o) by omega, sumI_split, sumI_congr (g := fun _ => 0) (fun i hi => by rw [if_neg (by omega), Int.zero_mul]), sumI_zero, Int.zero_add]
  rw [sumI_cut (n := n) (by omega) (fun i h1 h2 => by rw [if_neg (by omega), Int.zero_mul]), ← sumI_mul]
  refine sumI_congr fun i hi => ?_
  rw [if_pos (by omega), show o + i - o = i by omega, Int.pow_add]
  generalize D i = d
  generalize z ^ o = a
  generalize z ^ i = b
  grind

theorem evl_sum (G : Nat → Nat → Int) (z : Int) (n c : Nat) : evl (fun s => sumI (fun i => G i s) c) z n = sumI (fun i => evl (G i) z n) c := by
  unfold evl
  rw [sumI_swap]
  exact sumI_congr fun s _ => by rw [sumI_mulr]

/-- A list of blocks with an end. -/
def endF (E : Nat → Int) (n i : Nat) : Int := if i < n then E i else 0

/-- The products of blocks whose places add up to m. -/
def prM (A B : Nat → Int) (lo hi m : Nat) : Int := sumI (fun t => A (lo + t) * B (m - (lo + t))) (hi - lo)

theorem prM_cv (A B : Nat → Int) (nx ny m h : Nat) (hx : nx ≤ h) (hm : m + 1 < nx + ny) : prM A B (m + 1 - ny) (min nx (m + 1)) m = cv (endF A nx) (endF B ny) (2 * h) m := by
  unfold cv prM
  obtain ⟨lo, hlo⟩ : ∃ lo, lo = m + 1 - ny := ⟨_, rfl⟩
  obtain ⟨hi, hhi⟩ : ∃ hi, hi = min nx (m + 1) := ⟨_, rfl⟩
  rw [← hlo, ← hhi]
  have e : 2 * h = lo + ((hi - lo) + (2 * h - hi)) := by omega
  rw [e, sumI_split, sumI_split]
  have z1 : sumI (fun p => if p ≤ m then endF A nx p * endF B ny (m - p) else 0) lo = 0 := by
    rw [sumI_congr (g := fun _ => 0) (fun i hi => by
      rw [if_pos (by omega)]
      have : endF B ny (m - i) = 0 := by unfold endF; rw [if_neg (by omega)]
      rw [this, Int.mul_zero]), sumI_zero]
  have z2 : sumI (fun i => (fun i => if lo + i ≤ m then endF A nx (lo + i) * endF B ny (m - (lo + i)) else 0) (hi - lo + i)) (2 * h - hi) = 0 := by
    rw [sumI_congr (g := fun _ => 0) (fun i hi' => by
      show (if lo + (hi - lo + i) ≤ m then _ else _) = _
      by_cases h1 : lo + (hi - lo + i) ≤ m
      · rw [if_pos h1]
        have : endF A nx (lo + (hi - lo + i)) = 0 := by unfold endF; rw [if_neg (by omega)]
        rw [this, Int.zero_mul]
      · rw [if_neg h1]), sumI_zero]
  rw [z1, z2, Int.zero_add, Int.add_zero]
  refine sumI_congr fun t ht => ?_
  show _ = (if lo + t ≤ m then endF A nx (lo + t) * endF B ny (m - (lo + t)) else 0)
  rw [if_pos (by omega)]
  unfold endF
  rw [if_pos (by omega), if_pos (by omega)]

/-- All places. -/
theorem prM_all (A B : Nat → Int) (nx ny : Nat) (hx : 0 < nx) (hy : 0 < ny) (z : Int) :
    sumI (fun m => prM A B (m + 1 - ny) (min nx (m + 1)) m * z ^ m) (nx + ny - 1) = evl A z nx * evl B z ny := by
  obtain ⟨h, hh⟩ : ∃ h, h = max nx ny := ⟨_, rfl⟩
  have h1 := evl_cv (endF A nx) (endF B ny) z h (fun i hi => by unfold endF; rw [if_neg (by omega)]) (fun i hi => by unfold endF; rw [if_neg (by omega)])
  have c1 : ∀ E : Nat → Int, ∀ n, n ≤ 2 * h → evl (endF E n) z (2 * h) = evl E z n := fun E n hn => by
    unfold evl
    rw [sumI_cut (n := n) hn (fun i h1 _ => by unfold endF; rw [if_neg (by omega), Int.zero_mul])]
    exact sumI_congr fun i hi => by unfold endF; rw [if_pos hi]
  rw [c1 A nx (by omega), c1 B ny (by omega)] at h1
  rw [← h1]
  unfold evl
  rw [sumI_cut (f := fun i => cv (endF A nx) (endF B ny) (2 * h) i * z ^ i) (n := nx + ny - 1) (by omega) (fun i h2 h3 => by
    have : cv (endF A nx) (endF B ny) (2 * h) i = 0 := by
      unfold cv
      rw [sumI_congr (g := fun _ => 0) (fun p hp => by
        by_cases hpi : p ≤ i
        · rw [if_pos hpi]
          unfold endF
          by_cases hpn : p < nx
          · rw [if_neg (show ¬ i - p < ny by omega), Int.mul_zero]
          · rw [if_neg hpn, Int.zero_mul]
        · rw [if_neg hpi]), sumI_zero]
    rw [this, Int.zero_mul])]
  exact sumI_congr fun m hm => by rw [prM_cv A B nx ny m h (by omega) (by omega)]
end Go.Proofs.Ygctag
