import Derived.Test.YgctagUb
import Derived.Test.YgctagD8
import Derived.Test.YgctagCwI
namespace Go.Proofs.Ygctag

/-! ### Balanced digits -/
def bcar (d : Nat → Int) : Nat → Int
  | 0 => 0
  | n + 1 => if 32768 ≤ d n + bcar d n then 1 else 0
def bdig (d : Nat → Int) (i : Nat) : Int := d i + bcar d i - 65536 * bcar d (i + 1)
theorem bcar_01 (d : Nat → Int) (n : Nat) : bcar d n = 0 ∨ bcar d n = 1 := by
  cases n with
  | zero => exact .inl rfl
  | succ n => show (if _ then (1 : Int) else 0) = 0 ∨ (if _ then (1 : Int) else 0) = 1; split <;> simp
theorem bdig_bound (d : Nat → Int) (i : Nat) (h0 : 0 ≤ d i) (h1 : d i < 65536) : -32768 ≤ bdig d i ∧ bdig d i < 32768 := by
  have := bcar_01 d i
  unfold bdig
  show -32768 ≤ d i + bcar d i - 65536 * (if 32768 ≤ d i + bcar d i then 1 else 0) ∧ d i + bcar d i - 65536 * (if 32768 ≤ d i + bcar d i then 1 else 0) < 32768
  split <;> omega
theorem bdig_sum (d : Nat → Int) (n : Nat) : sum16 (bdig d) n = sum16 d n - bcar d n * P16 n := by
  induction n with
  | zero => show (0 : Int) = 0 - 0 * P16 0; omega
  | succ n ih =>
    show sum16 (bdig d) n + bdig d n * P16 n = sum16 d n + d n * P16 n - bcar d (n + 1) * P16 (n + 1)
    rw [ih, P16_succ]
    unfold bdig
    rw [Int.sub_mul, Int.add_mul, show bcar d (n + 1) * (P16 n * 65536) = 65536 * bcar d (n + 1) * P16 n by rw [Int.mul_comm (P16 n), ← Int.mul_assoc, Int.mul_comm (bcar d (n + 1))]]
    omega
/-- The balanced digits, a last carry with them. -/
def balD (d : Nat → Int) (L i : Nat) : Int := if i < L then bdig d i else bcar d L
def balLen (d : Nat → Int) (L : Nat) : Nat := if bcar d L = 0 then L else L + 1
theorem sum16_congr {f g : Nat → Int} {n : Nat} (h : ∀ i, i < n → f i = g i) : sum16 f n = sum16 g n := by
  induction n with
  | zero => rfl
  | succ n ih => show sum16 f n + f n * P16 n = sum16 g n + g n * P16 n; rw [ih fun i hi => h i (by omega), h n (by omega)]
theorem balD_sum (d : Nat → Int) (L : Nat) : sum16 (balD d L) (balLen d L) = sum16 d L := by
  have e : sum16 (balD d L) L = sum16 (bdig d) L := sum16_congr fun i hi => by unfold balD; rw [if_pos hi]
  unfold balLen
  by_cases h : bcar d L = 0
  · rw [if_pos h, e, bdig_sum, h]; omega
  · rw [if_neg h]
    show sum16 (balD d L) L + balD d L L * P16 L = _
    rw [e, bdig_sum]
    unfold balD
    rw [if_neg (Nat.lt_irrefl L)]
    omega
theorem ubN_sum (c : Nat → Int) (len n : Nat) (h : n ≤ len) : ubN c len n = sum16 c n := by
  induction n with
  | zero => rfl
  | succ n ih => show ubN c len n + (if n < len then c n else 0) * P16 n = _; rw [ih (by omega), if_pos (by omega)]; rfl
theorem sum16_add (f g : Nat → Int) (n : Nat) : sum16 (fun i => f i + g i) n = sum16 f n + sum16 g n := by
  induction n with
  | zero => rfl
  | succ n ih =>
    show sum16 (fun i => f i + g i) n + (f n + g n) * P16 n = sum16 f n + f n * P16 n + (sum16 g n + g n * P16 n)
    rw [ih, Int.add_mul]; omega
theorem sum16_zero (n : Nat) : sum16 (fun _ => 0) n = 0 := by
  induction n with
  | zero => rfl
  | succ n ih => show sum16 (fun _ => 0) n + 0 * P16 n = 0; rw [ih]; omega
theorem sum16_single (x : Int) (p n : Nat) (h : p < n) : sum16 (fun m => if p = m then x else 0) n = x * P16 p := by
  induction n with
  | zero => omega
  | succ n ih =>
    show sum16 (fun m => if p = m then x else 0) n + (if p = n then x else 0) * P16 n = _
    by_cases e : p = n
    · subst e
      rw [if_pos rfl, sum16_congr (g := fun _ => 0) (fun i hi => by rw [if_neg (by omega)]), sum16_zero]; omega
    · rw [if_neg e, ih (by omega)]; omega
theorem P16_add (a b : Nat) : P16 (a + b) = P16 a * P16 b := by unfold P16; rw [Nat.pow_add, Int.natCast_mul]
theorem row_sum (B : Nat → Int) (x : Int) (q r n : Nat) (h : r = 0 ∨ q + r ≤ n) : sum16 (fun m => sumI (fun j => if q + j = m then x * B j else 0) r) n = x * P16 q * sum16 B r := by
  induction r with
  | zero => show sum16 (fun _ => 0) n = x * P16 q * 0; rw [sum16_zero]; omega
  | succ r ih =>
    have e : sum16 (fun m => sumI (fun j => if q + j = m then x * B j else 0) (r + 1)) n = sum16 (fun m => sumI (fun j => if q + j = m then x * B j else 0) r) n + sum16 (fun m => if q + r = m then x * B r else 0) n := sum16_add _ _ n
    rw [e, ih (by omega), sum16_single _ _ _ (by omega)]
    show _ = x * P16 q * (sum16 B r + B r * P16 r)
    rw [P16_add, Int.mul_add]
    congr 1
    rw [Int.mul_assoc, Int.mul_assoc]
    congr 1
    rw [Int.mul_left_comm]
/-- The product of two numbers from the sums. -/
theorem cSum_prod (A B : Nat → Int) (la lb n : Nat) (h : la = 0 ∨ lb = 0 ∨ la + lb ≤ n + 1) : sum16 (fun m => cSum A B la lb m) n = sum16 A la * sum16 B lb := by
  induction la with
  | zero => show sum16 (fun _ => 0) n = 0 * _; rw [sum16_zero]; omega
  | succ la ih =>
    have e : sum16 (fun m => cSum A B (la + 1) lb m) n = sum16 (fun m => cSum A B la lb m) n + sum16 (fun m => sumI (fun j => if la + j = m then A la * B j else 0) lb) n := sum16_add _ _ n
    rw [e, ih (by omega), row_sum _ _ _ _ _ (by omega)]
    show _ = (sum16 A la + A la * P16 la) * sum16 B lb
    rw [Int.add_mul]

/-! ### Bytes and words -/
theorem P8_two (i : Nat) : P8 (2 * i) = P16 i := by
  unfold P8 P16
  rw [Nat.pow_mul]
theorem dg16_bytes (V : Int) (i : Nat) : dg16 V i = dg8 V (2 * i) + 256 * dg8 V (2 * i + 1) := by
  unfold dg16 dg8
  have e : V / P8 (2 * i + 1) = V / P8 (2 * i) / 256 := by
    rw [P8_succ, Int.ediv_ediv_of_nonneg (Int.le_of_lt (P8_pos _))]
  rw [e, P8_two]
  omega
theorem dg8_high {V : Int} {n i : Nat} (h0 : 0 ≤ V) (h : V < P8 n) (hi : n ≤ i) : dg8 V i = 0 := by
  unfold dg8
  rw [Int.ediv_eq_zero_of_lt h0 (Int.lt_of_lt_of_le h (P8_mono hi))]
  rfl
theorem dg8_low (V : Int) (i : Nat) : dg8 V (2 * i) = dg16 V i % 256 := by
  have := dg16_bytes V i
  have := dg8_bound V (2 * i)
  have := dg8_bound V (2 * i + 1)
  omega
theorem dg8_up (V : Int) (i : Nat) : dg8 V (2 * i + 1) = dg16 V i / 256 := by
  have := dg16_bytes V i
  have := dg8_bound V (2 * i)
  have := dg8_bound V (2 * i + 1)
  omega
end Go.Proofs.Ygctag
