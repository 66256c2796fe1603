import Derived.Test.YgctagNttA
import Derived.Test.YgctagMatMul
namespace Go.Proofs.Ygctag
open Go.RowKit

/-! ### Bits of small ints -/
theorem ofInt64 (a : Nat) (ha : a < 4611686018427387904) : (BitVec.ofInt 64 (a : Int)).toNat = a := by
  rw [BitVec.ofInt_natCast, BitVec.toNat_ofNat]; exact Nat.mod_eq_of_lt (by omega)
theorem i64_and_nat (a b : Nat) (ha : a < 4611686018427387904) (hb : b < 4611686018427387904) : bits .and .i64 (a : Int) (b : Int) = ((a &&& b : Nat) : Int) := by
  have hx : a &&& b < 2 ^ 62 := Nat.and_lt_two_pow _ (by omega)
  show IntKind.i64.wrap ((BitVec.ofInt 64 (a : Int) &&& BitVec.ofInt 64 (b : Int)).toNat : Int) = _
  rw [BitVec.toNat_and, ofInt64 a ha, ofInt64 b hb]
  exact IntWalk.i64_in _ ⟨by omega, by omega⟩
theorem i64_or_nat (a b : Nat) (ha : a < 4611686018427387904) (hb : b < 4611686018427387904) : bits .or .i64 (a : Int) (b : Int) = ((a ||| b : Nat) : Int) := by
  have hx : a ||| b < 2 ^ 62 := Nat.or_lt_two_pow (by omega) (by omega)
  show IntKind.i64.wrap ((BitVec.ofInt 64 (a : Int) ||| BitVec.ofInt 64 (b : Int)).toNat : Int) = _
  rw [BitVec.toNat_or, ofInt64 a ha, ofInt64 b hb]
  exact IntWalk.i64_in _ ⟨by omega, by omega⟩
theorem i64_xor_nat (a b : Nat) (ha : a < 4611686018427387904) (hb : b < 4611686018427387904) : bits .xor .i64 (a : Int) (b : Int) = ((a ^^^ b : Nat) : Int) := by
  have hx : a ^^^ b < 2 ^ 62 := Nat.xor_lt_two_pow (by omega) (by omega)
  show IntKind.i64.wrap ((BitVec.ofInt 64 (a : Int) ^^^ BitVec.ofInt 64 (b : Int)).toNat : Int) = _
  rw [BitVec.toNat_xor, ofInt64 a ha, ofInt64 b hb]
  exact IntWalk.i64_in _ ⟨by omega, by omega⟩

theorem bit_or {t c : Nat} (h : c < 2 ^ t) : c ||| 2 ^ t = c + 2 ^ t := by
  rw [Nat.or_comm, Nat.add_comm]; exact (Nat.two_pow_add_eq_or_of_lt h 1 |> fun e => by simpa using e.symm)
theorem bit_and_clear {t c : Nat} (h : c < 2 ^ t) : c &&& 2 ^ t = 0 := by
  apply Nat.eq_of_testBit_eq
  intro i
  rw [Nat.testBit_and, Nat.testBit_two_pow, Nat.zero_testBit]
  by_cases e : t = i
  · subst e; rw [Nat.testBit_lt_two_pow h]; rfl
  · simp [e]
theorem bit_and_set {t c : Nat} (h : c < 2 ^ t) : (c + 2 ^ t) &&& 2 ^ t = 2 ^ t := by
  rw [← bit_or h]
  apply Nat.eq_of_testBit_eq
  intro i
  rw [Nat.testBit_and, Nat.testBit_or, Nat.testBit_two_pow]
  cases c.testBit i <;> cases decide (t = i) <;> rfl
theorem bit_xor_set {t c : Nat} (h : c < 2 ^ t) : (c + 2 ^ t) ^^^ 2 ^ t = c := by
  rw [← bit_or h]
  apply Nat.eq_of_testBit_eq
  intro i
  rw [Nat.testBit_xor, Nat.testBit_or, Nat.testBit_two_pow]
  by_cases e : t = i
  · subst e; rw [Nat.testBit_lt_two_pow h]; simp
  · simp [e]

theorem grown_drew {X w : World} {g : Option Nat} (h : X.grownBy w g) : X.grownBy w.drew g := ⟨h.os, h.tape, h.output, h.size, h.block⟩

/-! ### A part of a row of elements -/
def splice (off n : Nat) (F f : Nat → Int) : Nat → Int := fun i => if off ≤ i ∧ i < off + n then F (i - off) else f i
/-- Cells off .. off + n - 1 of block g (N cells) hold F 0 .. F (n - 1), the others f. -/
def Vec (w : World) (g N off n : Nat) (F f : Nat → Int) : Prop := off + n ≤ N ∧ w.rowIs g 126 N (fun i => .int .u32 (splice off n F f i))

namespace Vec
variable {w w' : World} {g N off n : Nat} {F G f : Nat → Int}
theorem cell (h : Vec w g N off n F f) {j : Nat} (hj : j < n) : w.cell? ⟨g, off + j, none⟩ = some (.int .u32 (F j)) := by
  have hN := h.1
  have := h.2.cell (i := off + j) (by omega)
  rw [this]
  unfold splice
  rw [if_pos ⟨by omega, by omega⟩, Nat.add_sub_cancel_left]
theorem frozen (h : Vec w g N off n F f) (j : Nat) : w.frozen? ⟨g, j, none⟩ = false := h.2.frozen j
theorem lt (h : Vec w g N off n F f) : g < w.heap.size := h.2.lt
theorem congr (h : Vec w g N off n F f) (e : ∀ i, i < n → F i = G i) : Vec w g N off n G f := by
  refine ⟨h.1, h.2.congr fun i _ => ?_⟩
  unfold splice
  by_cases hi : off ≤ i ∧ i < off + n
  · rw [if_pos hi, if_pos hi, e _ (by omega)]
  · rw [if_neg hi, if_neg hi]
theorem set (h : Vec w g N off n F f) {j : Nat} (hj : j < n) (v : Int) : Vec (w.setCell ⟨g, off + j, none⟩ (.int .u32 v)) g N off n (upd F j v) f := by
  refine ⟨h.1, (h.2.set (off + j) _).congr fun i _ => ?_⟩
  unfold splice upd
  by_cases e : i = off + j
  · subst e
    rw [if_pos rfl, if_pos ⟨by omega, by omega⟩, if_pos (by omega)]
  · rw [if_neg e]
    by_cases hi : off ≤ i ∧ i < off + n
    · rw [if_pos hi, if_pos hi, if_neg (by omega)]
    · rw [if_neg hi, if_neg hi]
theorem draws (h : Vec w g N off n F f) (m : Nat) : Vec (w.drewN m) g N off n F f := h
theorem below (h : Vec w g N off n F f) (hb : Below w.heap.size w w') : Vec w' g N off n F f := ⟨h.1, h.2.of_block (hb.block g h.lt)⟩
theorem grown (h : Vec w g N off n F f) {r : Nat} (hb : w.grownBy w' (some r)) (hne : g ≠ r) : Vec w' g N off n F f := ⟨h.1, h.2.of_block (hb.block g h.lt (by simpa using hne))⟩
/-- A part of a part. -/
theorem part (h : Vec w g N off n F f) {o m : Nat} (hm : o + m ≤ n) : Vec w g N (off + o) m (fun i => F (o + i)) (splice off n F f) := by
  refine ⟨by have := h.1; omega, h.2.congr fun i _ => ?_⟩
  show Value.int .u32 (splice off n F f i) = .int .u32 (splice (off + o) m (fun i => F (o + i)) (splice off n F f) i)
  unfold splice
  by_cases hi : off + o ≤ i ∧ i < off + o + m
  · rw [if_pos (by omega), if_pos hi]
    congr 2; omega
  · rw [if_neg hi]
/-- And back. -/
theorem whole {o m : Nat} {H : Nat → Int} (h : Vec w g N (off + o) m H (splice off n F f)) (hm : o + m ≤ n) (hN : off + n ≤ N) : Vec w g N off n (splice o m H F) f := by
  refine ⟨hN, h.2.congr fun i _ => ?_⟩
  unfold splice
  by_cases hi : off + o ≤ i ∧ i < off + o + m
  · rw [if_pos hi, if_pos (by omega), if_pos (by omega)]
    congr 2; omega
  · rw [if_neg hi]
    by_cases h2 : off ≤ i ∧ i < off + n
    · rw [if_pos h2, if_pos h2, if_neg (by omega)]
    · rw [if_neg h2, if_neg h2]
end Vec
end Go.Proofs.Ygctag
