import Derived.Test.YgctagDig
import Derived.Test.YgctagIntF
import Derived.Test.YgctagExt
import Derived.Test.YgctagMatMul
import Derived.Laws.Externs
import Derived.Deep.CutBlock
import Derived.Deep.RegionHeld3
import Derived.Deep.RegionWith
namespace Go.Proofs.Ygctag
open Go.RowKit

theorem add64_call (x y c : Int) (hx : 0 ≤ x) (hy : 0 ≤ y) (hc0 : 0 ≤ c) (hc : c ≤ 1) (w : World) : (callFunc 104 #[.int .u64 x, .int .u64 y, .int .u64 c]).run Tagg.prog w =
    .ok (.value (.tuple #[.int .u64 ((x + y + c) % 18446744073709551616), .int .u64 ((x + y + c) / 18446744073709551616)])) w := by
  rw [run_callFunc_extern (e := add64Entry) Tagg.func104 (by kernel_rfl) (by kernel_rfl) (by kernel_rfl) (by kernel_rfl), run_add64 x y c hx hy hc0 hc]
  rfl

def subEntry : Array Value → Sem Value := fun args => do
  let (x, y, b) ← Extern.MathBitsCarry.three "Sub64" args
  pure (Extern.MathBitsCarry.pair ((x + Extern.MathBitsCarry.m64 - y - b) % Extern.MathBitsCarry.m64) (if x < y + b then 1 else 0))

theorem run_subE {P : Program} (x y b : Nat) (hb : b ≤ 1) (w : World) :
    (subEntry #[.int .u64 x, .int .u64 y, .int .u64 b]).run P w =
      .ok (.tuple #[.int .u64 (((x + 18446744073709551616 - y - b) % 18446744073709551616 : Nat) : Int), .int .u64 ((if x < y + b then 1 else 0 : Nat) : Int)]) w := by
  have : b = 0 ∨ b = 1 := by omega
  rcases this with rfl | rfl <;> rfl

/-- The borrow, under a name. -/
def borI (x y : Int) : Int := if x < y then 1 else 0

theorem sub64_call (x y b : Int) (hx : 0 ≤ x) (hy : 0 ≤ y) (hy' : y < 18446744073709551616) (hb0 : 0 ≤ b) (hb : b ≤ 1) (w : World) : (callFunc 115 #[.int .u64 x, .int .u64 y, .int .u64 b]).run Tagg.prog w =
    .ok (.value (.tuple #[.int .u64 ((x - y - b) % 18446744073709551616), .int .u64 (borI x (y + b))])) w := by
  obtain ⟨x, rfl⟩ := Int.eq_ofNat_of_zero_le hx
  obtain ⟨y, rfl⟩ := Int.eq_ofNat_of_zero_le hy
  obtain ⟨b, rfl⟩ := Int.eq_ofNat_of_zero_le hb0
  have e1 : (((x + 18446744073709551616 - y - b) % 18446744073709551616 : Nat) : Int) = ((x : Int) - y - b) % 18446744073709551616 := by omega
  have e2 : ((if x < y + b then 1 else 0 : Nat) : Int) = borI (x : Int) (y + b) := by unfold borI; split <;> split <;> omega
  rw [run_callFunc_extern (e := subEntry) Tagg.func115 (by kernel_rfl) (by kernel_rfl) (by kernel_rfl) (by kernel_rfl), run_subE x y b (by omega), e1, e2]
  rfl

theorem accadd_any (x y c : Int) (hx : 0 ≤ x) (hy : 0 ≤ y) (hc0 : 0 ≤ c) (hc : c ≤ 1) (w : World) :
    Calls Tagg.prog 69 #[.int .u64 x, .int .u64 y, .int .u64 c] w fun e w' => e = .returned (.tuple #[.int .u64 ((x + y + c) % 18446744073709551616), .int .u64 ((x + y + c) / 18446744073709551616)]) ∧ w' = w := by
  go_enter Tagg.func69, Tagg.ntmps69
  go_wp2_with (simp only [add64_call x y c hx hy hc0 hc])
  exact bodyPost_ret (by simp [results, Tagg.results69, go_sem]) rfl ⟨rfl, rfl⟩

theorem accsub_any (x y c : Int) (hx : 0 ≤ x) (hy : 0 ≤ y) (hy2 : y < 18446744073709551616) (hc0 : 0 ≤ c) (hc : c ≤ 1) (w : World) :
    Calls Tagg.prog 103 #[.int .u64 x, .int .u64 y, .int .u64 c] w fun e w' => e = .returned (.tuple #[.int .u64 ((x - y - c) % 18446744073709551616), .int .u64 (borI x (y + c))]) ∧ w' = w := by
  go_enter Tagg.func103, Tagg.ntmps103
  go_wp2_with (simp only [sub64_call x y c hx hy hy2 hc0 hc])
  exact bodyPost_ret (by simp [results, Tagg.results103, go_sem]) rfl ⟨rfl, rfl⟩

theorem row_up {w : World} {b n q : Nat} {t : TypeId} {F G : Nat → Int} (h : w.rowIs b t n (fun j => .int .u64 (if j < q then F j else G j))) :
    (w.setCell ⟨b, q, none⟩ (.int .u64 (F q))).rowIs b t n (fun j => .int .u64 (if j < q + 1 then F j else G j)) := by
  refine (h.set q _).congr fun i hi => ?_
  by_cases h1 : i = q
  · subst h1; rw [if_pos rfl, if_pos (by omega)]
  · rw [if_neg h1]
    by_cases h2 : i < q
    · rw [if_pos h2, if_pos (by omega)]
    · rw [if_neg h2, if_neg (by omega)]

/-- The cells of an accumulator that holds V. -/
def accC (V : Int) : Array Value := ((List.range 68).map fun i => Value.int .u64 (dgZ V i)).toArray
/-- Block b is an accumulator that holds V. -/
def AccAt (w : World) (b : Nat) (V : Int) : Prop := w.heap[b]? = some (.cells (accC V) 44 (0, 0))

theorem accC_size (V : Int) : (accC V).size = 68 := by simp [accC]
theorem accC_get (V : Int) (i : Nat) (h : i < 68) : (accC V)[i]? = some (.int .u64 (dgZ V i)) := by simp [accC, h]
theorem AccAt.row {w : World} {b : Nat} {V : Int} (h : AccAt w b V) : w.rowIs b 44 68 (fun i => .int .u64 (dgZ V i)) := ⟨accC V, h, accC_size V, fun i hi => accC_get V i hi⟩
theorem AccAt.of_row {w : World} {b : Nat} {V : Int} (h : w.rowIs b 44 68 (fun i => .int .u64 (dgZ V i))) : AccAt w b V := by
  obtain ⟨c, h1, h2, h3⟩ := h
  unfold AccAt
  rw [h1]
  congr 2
  apply Array.ext_getElem?
  intro i
  by_cases hi : i < 68
  · rw [h3 i hi, accC_get V i hi]
  · rw [Array.getElem?_eq_none (by omega), Array.getElem?_eq_none (by rw [accC_size]; omega)]
theorem AccAt.lt {w : World} {b : Nat} {V : Int} (h : AccAt w b V) : b < w.heap.size := h.row.lt
theorem AccAt.below {w w' : World} {b : Nat} {V : Int} (h : AccAt w b V) (hb : Below w.heap.size w w') : AccAt w' b V := (hb.block b h.lt).trans h
theorem AccAt.grown {w w' : World} {b g : Nat} {V : Int} (h : AccAt w b V) (hb : w.grownBy w' (some g)) (hne : b ≠ g) : AccAt w' b V := (hb.block b h.lt (by simpa using hne)).trans h
theorem acc_zero : accC 0 = Tagg.zeroCells44 := by kernel_rfl

set_option maxRecDepth 100000 in
set_option maxHeartbeats 1000000 in
theorem accAdd (a b : Nat) (V U : Int) (w : World) (hab : a ≠ b) (ha : AccAt w a V) (hb : AccAt w b U) :
    Calls Tagg.prog 29 #[.pointer (some ⟨a, 0, none⟩), .pointer (some ⟨b, 0, none⟩)] w fun e w' => e = .returned (.tuple #[]) ∧ AccAt w' a (V + U) ∧ w.grownBy w' (some a) := by
  go_enter Tagg.func29, Tagg.ntmps29
  go_wp2_with fail
  go_loopw [4, 5] (fun c i wr => ∃ q : Nat, q ≤ 68 ∧ i = .int .i64 q ∧ c = .int .u64 (carryZ V U q) ∧ w.grownBy wr (some a) ∧ wr.rowIs a 44 68 (fun j => .int .u64 (if j < q then dgZ (V + U) j else dgZ V j))) (fun _ i _ => 68 - (intOf i).toNat)
  case atStart => exact ⟨0, by omega, rfl, by rw [carryZ_zero], ⟨rfl, rfl, rfl, Nat.le_refl _, fun _ _ _ => rfl⟩, ha.row.congr (fun i hi => by simp)⟩
  case round =>
    obtain ⟨q, hq, rfl, rfl, hgr, hrw⟩ := hrel
    by_cases hlt : q < 68
    · have c1 := hrw.cell hlt
      have c2 : wr.cell? ⟨b, q, none⟩ = some (.int .u64 (dgZ U q)) := (hb.grown hgr (Ne.symm hab)).row.cell hlt
      rw [if_neg (Nat.lt_irrefl q)] at c1
      have hA := fun w => accadd_any (dgZ V q) (dgZ U q) (carryZ V U q) (dgZ_nonneg _ _) (dgZ_nonneg _ _) (carryZ_bound V U q).1 (carryZ_bound V U q).2 w
      have hF := hrw.frozen q
      have hq1 : (q : Int) < 68 := by omega
      go_upto_region 5 with fail
      have e := add_word V U q
      have hrel' : ∃ q1 : Nat, q1 ≤ 68 ∧ Value.int .i64 ((q : Int) + 1) = .int .i64 q1 ∧ Value.int .u64 ((dgZ V q + dgZ U q + carryZ V U q) / 18446744073709551616) = .int .u64 (carryZ V U q1) ∧
          w.grownBy (wr.setCell ⟨a, q, none⟩ (.int .u64 ((dgZ V q + dgZ U q + carryZ V U q) % 18446744073709551616))).drew (some a) ∧
          (wr.setCell ⟨a, q, none⟩ (.int .u64 ((dgZ V q + dgZ U q + carryZ V U q) % 18446744073709551616))).drew.rowIs a 44 68 (fun j => .int .u64 (if j < q1 then dgZ (V + U) j else dgZ V j)) := by
        rw [← e.1, ← e.2]
        exact ⟨q + 1, by omega, by go_num, rfl, grown_set hgr 1 _ _, row_up hrw⟩
      go_region_with (go_at_call 69; with_reducible refine (hA _).mono ?_; rintro e w1 ⟨rfl, rfl⟩)
      all_goals (go_wp2; exact ⟨hrel', by simp [intOf]; omega⟩)
    · have e : q = 68 := by omega
      subst e
      go_wp2
      go_end0
      exact ⟨rfl, AccAt.of_row (hrw.congr (fun i hi => by rw [if_pos hi])), hgr⟩
end Go.Proofs.Ygctag
