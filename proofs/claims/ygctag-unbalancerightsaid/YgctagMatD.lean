import Derived.Test.YgctagMatC
import Derived.Deep.CutBlock
namespace Go.Proofs.Ygctag
open Go.RowKit
attribute [local go_sem] run_store_float

/-- The pattern that 'matrixOf' puts at place i. -/
def pat (z : Nat → Int) (len i : Nat) : Nat := if len = 0 then 0 else (bits .xor .u64 (z (i % len)) ((i / len : Nat) : Int)).toNat

theorem pat_eq (z : Nat → Int) {len : Nat} (q : Nat) (h : 0 < len) (hq : q ≤ 5110) : (bits .xor .u64 (z (q % len)) (IntKind.u64.wrap (wrap64 ((q : Int) / (len : Int))))).toNat = pat z len q := by
  have h1 : (q : Int) / (len : Int) = ((q / len : Nat) : Int) := by rw [Int.natCast_ediv]
  have h2 : q / len ≤ q := Nat.div_le_self _ _
  unfold pat
  rw [if_neg (by omega), h1]
  generalize q / len = d at *
  rw [IntWalk.wrap64_in _ ⟨by omega, by omega⟩, IntWalk.u64_in _ ⟨by omega, by omega⟩]

theorem pat_eq' (z : Nat → Int) {len : Nat} (q : Nat) (h : 0 < len) (hq : q ≤ 5110) : (bits .xor .u64 (z (q % len)) (IntKind.u64.wrap (IntKind.i64.wrap ((q : Int) / (len : Int))))).toNat = pat z len q := by
  have h1 : (q : Int) / (len : Int) = ((q / len : Nat) : Int) := by rw [Int.natCast_ediv]
  have h2 : q / len ≤ q := Nat.div_le_self _ _
  unfold pat
  rw [if_neg (by omega), h1]
  generalize q / len = d at *
  rw [IntWalk.i64_in _ ⟨by omega, by omega⟩, IntWalk.u64_in _ ⟨by omega, by omega⟩]

set_option maxRecDepth 100000 in
set_option maxHeartbeats 2000000 in
theorem matrixOf_any (R C G : Int) (r c g : Nat) (hR : R % 71 = r) (hC : C % 71 = c) (hG : G % 4 = g) (hR0 : 0 ≤ R) (hC0 : 0 ≤ C) (hG0 : 0 ≤ G) (a : Option Addr) (len cap : Nat) (z : Nat → Int) (w : World)
    (hl : len ≤ 140737488355328) (hx : Sl w a len fun i => .int .u64 (z i)) :
    Calls Tagg.prog 40 #[.int .u8 R, .int .u8 C, .int .u8 G, .slice a len cap] w fun e w' => ∃ b, e = .returned (matV r c ((c : Int) + g) (some ⟨b, 0, none⟩) (r * (c + g)) (r * (c + g))) ∧ w.heap.size ≤ b ∧
      w'.rowIs b 46 (r * (c + g)) (fun i => .float .f64 (pat z len i)) ∧ Below w.heap.size w w' := by
  have r71 : r < 71 := by omega
  have c71 : c < 71 := by omega
  have g4 : g < 4 := by omega
  have hp : r * (c + g) ≤ 70 * 73 := Nat.mul_le_mul (by omega) (by omega)
  have hp' : (r : Int) * ((c : Int) + g) ≤ 5110 := by have : ((r * (c + g) : Nat) : Int) ≤ 5110 := by omega
                                                      simpa using this
  have hp0 : 0 ≤ (r : Int) * ((c : Int) + g) := Int.mul_nonneg (by omega) (by omega)
  have hmk := run_make_row' (P := Tagg.prog) 65 46 (.float .f64 0) 8 Tagg.underlying65 Tagg.info46 rfl .i64 .i64 (r * (c + g)) (by omega) (by omega)
  rw [show ((r * (c + g) : Nat) : Int) = (r : Int) * ((c : Int) + g) by simp] at hmk
  go_enter Tagg.func40, Tagg.ntmps40
  go_wp2_with fail
  obtain ⟨N, hN⟩ : ∃ N, N = r * (c + g) := ⟨_, rfl⟩
  have hNb : N ≤ 5110 := by rw [hN]; exact hp
  have HN : Hid (N = r * (c + g)) := hN
  rw [← hN] at hmk ⊢
  clear hN
  generalize eX : ((w.alloc _).alloc _).alloc _ = X
  have bZ : Box X w.heap.size (.int .i64 0) (.int .i64 0) (.int .i64 0) (.slice none 0 0) := by
    rw [← eX]; exact ((Box.new w _ _ _ _).alloc _).alloc _
  have bM : Box X (w.heap.size + 1 + 1) (.int .i64 r) (.int .i64 c) (.int .i64 (↑c + ↑g)) (.slice (some ⟨w.heap.size + 1, 0, none⟩) N N) := by
    rw [← eX]; exact Box.new_at _ (by simp) _ _ _ _
  have hrX : X.rowIs (w.heap.size + 1) 46 N fun _ => .float .f64 0 := by
    rw [← eX]; exact (made_at (by simp) _ _ _).alloc _
  have hbX : Below w.heap.size w X := by
    rw [← eX]; exact (((Below.refl _ _).alloc (Nat.le_refl _) _).alloc (by simp) _).alloc (by simp; omega) _
  have hXs : X.heap.size = w.heap.size + 3 := by rw [← eX]; simp
  clear eX hmk hR hC hG
  go_loopw [13] (fun i wr => ∃ q : Nat, q ≤ N ∧ i = .int .i64 q ∧ X.grownBy wr (some (w.heap.size + 1)) ∧ ∃ f : Nat → Nat, wr.rowIs (w.heap.size + 1) 46 N (fun i => .float .f64 (f i)) ∧ (∀ i, i < q → f i = pat z len i) ∧ (len = 0 → ∀ i, f i = 0)) (fun i _ => N - (intOf i).toNat)
  case atStart => exact ⟨0, by omega, rfl, ⟨rfl, rfl, rfl, Nat.le_refl _, fun _ _ _ => rfl⟩, fun _ => 0, hrX, fun i h => absurd h (Nat.not_lt_zero i), fun _ _ => rfl⟩
  case round =>
    obtain ⟨q, hq, rfl, hgr, f, hrw, hf, hf0⟩ := hrel
    have bMr := bM.grown hgr (by omega)
    obtain ⟨c0, c1, c2, c3⟩ := bMr.cells
    by_cases hlt : q < N ∧ 0 < len
    · obtain ⟨hlt, hpos⟩ := hlt
      have hm : q % len < len := Nat.mod_lt _ hpos
      obtain ⟨b, off, rfl, cz⟩ := hx _ hm
      have cz' : wr.cell? ⟨b, off + q % len, none⟩ = some (.int .u64 (z (q % len))) := ((hbX.grown hgr (by omega) (by intro k hk; cases hk; omega)).cell (cell_lt cz)).trans cz
      have cR : wr.cell? ⟨w.heap.size + 1, q, none⟩ = some (.float .f64 (f q)) := hrw.cell hlt
      have cF := hrw.frozen q
      have i1 : (q : Int) % (len : Int) < len := by omega
      have i0 : 0 ≤ (q : Int) % (len : Int) := by omega
      have i2 : (q : Int) < N := by omega
      have i4 : ((len : Int) == 0) = false := by simp; omega
      have e1 : ((q : Int) % (len : Int)).toNat = q % len := by omega
      have e2 : Int.tmod (q : Int) (len : Int) = ((q % len : Nat) : Int) := by rw [Int.ofNat_tmod]
      have e3 : Int.tdiv (q : Int) (len : Int) = ((q / len : Nat) : Int) := by rw [Int.ofNat_tdiv]
      go_upto_block 1 with fail
      go_cut [] (fun wx => wx = (wr.setCell ⟨w.heap.size + 1, q, none⟩ (.float .f64 (pat z len q))).drew)
      case first =>
        go_wp2_with fail
        go_region_with (go_at_call 70; with_reducible refine (f64_any _ _).mono ?_; rintro e w' ⟨rfl, rfl⟩)
        all_goals
          go_wp2_with fail
          go_meet
          first | rw [pat_eq z q hpos (by omega)] | rw [pat_eq' z q hpos (by omega)]
      case rest =>
        subst hcut
        go_wp2
        go_roundw
        case rel =>
          refine ⟨q + 1, by omega, by go_num, grown_set hgr 1 _ _, upd f q (pat z len q), ?_, ?_, fun h => by omega⟩
          · exact row_set (F := Value.float .f64) hrw q _
          · intro i hi
            by_cases e : i = q
            · subst e; exact upd_same _ _ _
            · rw [upd_ne _ _ e]; exact hf i (by omega)
        case measure => simp [intOf]; omega
    · have hend : q = N ∨ len = 0 := by omega
      have hall : ∀ i, i < N → f i = pat z len i := by
        intro i hi
        rcases hend with h | h
        · exact hf i (by omega)
        · rw [hf0 h i]; simp [pat, h]
      have bZr := bZ.grown hgr (by omega)
      obtain ⟨z0, z1, z2, z3⟩ := bZr.cells
      obtain ⟨f0, f1, f2, f3⟩ := bZr.frozen
      have hrow := hrw.congr (g := fun i => .float .f64 (pat z len i)) (fun i hi => by rw [hall i hi])
      have hbel := hbX.grown hgr (by omega) (by intro k hk; cases hk; omega)
      clear hf hf0 hall hx bZ bM bMr hrX hbX hrw bZr
      by_cases hq2 : q < N
      · have hl0 : len = 0 := by omega
        subst hl0
        go_wp2
        exact bodyPost_ret (v := matV r c ((c : Int) + g) (some ⟨w.heap.size + 1, 0, none⟩) N N) (by simp [results, Tagg.results40, go_sem, matV, z0, z1, z2, z3]) rfl ⟨w.heap.size + 1, by rw [HN.out], by omega, by rw [← HN.out]; exact (((hrow.setOther (by simp) _).setOther (by simp) _).setOther (by simp) _).setOther (by simp) _, (((hbel.setCell (by simp) _).setCell (by simp) _).setCell (by simp) _).setCell (by simp) _⟩
      · go_wp2
        exact bodyPost_ret (v := matV r c ((c : Int) + g) (some ⟨w.heap.size + 1, 0, none⟩) N N) (by simp [results, Tagg.results40, go_sem, matV, z0, z1, z2, z3]) rfl ⟨w.heap.size + 1, by rw [HN.out], by omega, by rw [← HN.out]; exact (((hrow.setOther (by simp) _).setOther (by simp) _).setOther (by simp) _).setOther (by simp) _, (((hbel.setCell (by simp) _).setCell (by simp) _).setCell (by simp) _).setCell (by simp) _⟩
end Go.Proofs.Ygctag
