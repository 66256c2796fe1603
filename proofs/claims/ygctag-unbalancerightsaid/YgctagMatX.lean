import Derived.Test.YgctagIntDot
import Derived.Test.YgctagMatV
namespace Go.Proofs.Ygctag
open Go.RowKit
attribute [local go_sem] run_store_float

theorem floatOfInt_fi (n : Int) (h : n.natAbs < 2 ^ 53) : floatOfInt .f64 n = fi n := by
  have := write_fz (decide (n < 0)) n.natAbs 0 h
  rw [Nat.pow_zero, Nat.mul_one] at this
  exact this

/-- The integer that 'fillInts' puts at place i. -/
def fillZ (z : Nat → Int) (len i : Nat) : Int := if len = 0 then 0 else (z (i % len)).tmod 1048576

theorem fillZ_lt (z : Nat → Int) (len i : Nat) : (fillZ z len i).natAbs < 2 ^ 20 := by
  unfold fillZ
  split
  · decide
  · have := Int.natAbs_tmod (z (i % len)) 1048576
    rw [this]
    exact Nat.mod_lt _ (by decide)

set_option maxRecDepth 100000 in
set_option maxHeartbeats 2000000 in
theorem fillInts_any (r c s : Int) (g N : Nat) (a : Option Addr) (len cap : Nat) (z : Nat → Int) (w : World) (hN : N ≤ 10000) (hl : len ≤ 140737488355328) (hz : ∀ i, i < len → -2147483648 ≤ z i ∧ z i ≤ 2147483647)
    (hrow : w.rowIs g 46 N fun _ => .float .f64 0) (hx : Sl w a len fun i => .int .i32 (z i)) (hne : 0 < len → ∀ b off, a = some ⟨b, off, none⟩ → b ≠ g) :
    Calls Tagg.prog 47 #[matV r c s (some ⟨g, 0, none⟩) N N, .slice a len cap] w fun e w' => e = .returned (.tuple #[]) ∧ w'.rowIs g 46 N (fun i => .float .f64 (fi (fillZ z len i))) ∧ w.grownBy w' (some g) := by
  have hgl := hrow.lt
  unfold matV
  go_enter Tagg.func47, Tagg.ntmps47
  go_wp2_with fail
  generalize eX : w.alloc _ = X
  have bM : Box X w.heap.size (.int .i64 r) (.int .i64 c) (.int .i64 s) (.slice (some ⟨g, 0, none⟩) N N) := by rw [← eX]; exact Box.new w _ _ _ _
  have hbX : Below w.heap.size w X := by rw [← eX]; exact (Below.refl _ _).alloc (Nat.le_refl _) _
  clear eX
  have hrX := hrow.of_block (hbX.block g hgl)
  have hxX := hx.below hbX
  have hwX : w.grownBy X (some g) := ⟨hbX.os, hbX.tape, hbX.output, hbX.size, fun k hk _ => hbX.block k hk⟩
  clear hrow hx hbX
  have gM : w.heap.size ≠ g := by omega
  go_loopw [4] (fun i wr => ∃ q : Nat, q ≤ N ∧ i = .int .i64 q ∧ X.grownBy wr (some g) ∧ ∃ f : Nat → Nat, wr.rowIs g 46 N (fun i => .float .f64 (f i)) ∧ (∀ i, i < q → f i = fi (fillZ z len i)) ∧ (len = 0 → ∀ i, f i = 0)) (fun i _ => N - (intOf i).toNat)
  case atStart => exact ⟨0, by omega, rfl, ⟨rfl, rfl, rfl, Nat.le_refl _, fun _ _ _ => rfl⟩, fun _ => 0, hrX, fun i h => absurd h (Nat.not_lt_zero i), fun _ _ => rfl⟩
  case round =>
    obtain ⟨q, hq, rfl, hgr, f, hrw, hf, hf0⟩ := hrel
    have bMr := bM.grown hgr gM
    obtain ⟨c0, c1, c2, c3⟩ := bMr.cells
    by_cases hlt : q < N ∧ 0 < len
    · obtain ⟨hlt, hpos⟩ := hlt
      have hm : q % len < len := Nat.mod_lt _ hpos
      obtain ⟨b, off, rfl, cz⟩ := hxX _ hm
      have cz' : wr.cell? ⟨b, off + q % len, none⟩ = some (.int .i32 (z (q % len))) := grown_cell hgr (hne hpos b off rfl) cz
      have cR : wr.cell? ⟨g, q, none⟩ = some (.float .f64 (f q)) := hrw.cell hlt
      have cF := hrw.frozen q
      have zb := hz _ hm
      have i1 : (q : Int) % (len : Int) < len := by omega
      have i0 : 0 ≤ (q : Int) % (len : Int) := by omega
      have i2 : (q : Int) < N := by omega
      have i4 : ((len : Int) == 0) = false := by simp; omega
      have e1 : ((q : Int) % (len : Int)).toNat = q % len := by omega
      have e2 : Int.tmod (q : Int) (len : Int) = ((q % len : Nat) : Int) := by rw [Int.ofNat_tmod]
      have hb1 := Int.natAbs_tmod (z (q % len)) 1048576
      clear cz hxX hz hne
      go_wp2
      go_region
      go_wp2
      go_roundw
      case rel =>
        have ht : ((z (q % len)).tmod 1048576).natAbs < 2 ^ 20 := by rw [Int.natAbs_tmod]; exact Nat.mod_lt _ (by decide)
        have hfl : floatOfInt .f64 ((z (q % len)).tmod 1048576) = fi (fillZ z len q) := by
          rw [floatOfInt_fi _ (by omega)]; unfold fillZ; rw [if_neg (by omega)]
        rw [hfl]
        refine ⟨q + 1, by omega, by go_num, grown_set hgr 1 _ _, upd f q (fi (fillZ z len q)), ?_, ?_, fun h => by omega⟩
        · exact row_set (F := Value.float .f64) hrw q _
        · intro i hi
          by_cases e : i = q
          · subst e; exact upd_same _ _ _
          · rw [upd_ne _ _ e]; exact hf i (by omega)
      case measure => simp [intOf]; omega
    · have hend : q = N ∨ len = 0 := by omega
      have hall : ∀ i, i < N → f i = fi (fillZ z len i) := by
        intro i hi
        rcases hend with h | h
        · exact hf i (by omega)
        · rw [hf0 h i]; simp [fillZ, h]; decide
      have hrow := hrw.congr (g := fun i => .float .f64 (fi (fillZ z len i))) (fun i hi => by rw [hall i hi])
      have hbel := hwX.trans hgr
      clear hf hf0 hall hxX bM bMr hrX hrw hz hne
      by_cases hq2 : q < N
      · have hl0 : len = 0 := by omega
        subst hl0
        go_wp2
        go_end0
        exact ⟨rfl, hrow, hbel⟩
      · go_wp2
        go_end0
        exact ⟨rfl, hrow, hbel⟩
end Go.Proofs.Ygctag
