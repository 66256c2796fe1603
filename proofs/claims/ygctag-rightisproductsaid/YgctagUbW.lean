import Derived.Test.YgctagUb
import Derived.Test.YgctagMatMul
namespace Go.Proofs.Ygctag
open Go.RowKit

theorem Tagg.info49 : (Tagg.prog.info? 49).map (fun i => (i.zero, i.size, i.bytes)) = some (some (.int .u16 0), 1, 2) := by kernel_rfl

theorem ub_digit (c : Nat → Int) (len q : Nat) : (ubN c len q / P16 q + (if q < len then c q else 0)) % 65536 = dg16 (ubN c len len) q := by
  rw [← ubN_step]
  by_cases h : q + 1 ≤ len
  · exact (ubN_digit c len q len h).symm
  · rw [ubN_after c len (by omega : len ≤ q + 1)]; rfl
theorem ub_over (c : Nat → Int) (len q : Nat) : (ubN c len q / P16 q + (if q < len then c q else 0)) / 65536 = ubN c len (q + 1) / P16 (q + 1) := by
  rw [← ubN_step, div16_succ]
theorem row_up16 {w : World} {b n q : Nat} {t : TypeId} {F G : Nat → Int} (h : w.rowIs b t n (fun j => .int .u16 (if j < q then F j else G j))) :
    (w.setCell ⟨b, q, none⟩ (.int .u16 (F q))).rowIs b t n (fun j => .int .u16 (if j < q + 1 then F j else G j)) := by
  refine (h.set q _).congr fun i hi => ?_
  by_cases h1 : i = q
  · subst h1; rw [if_pos rfl, if_pos (by omega)]
  · rw [if_neg h1]
    by_cases h2 : i < q
    · rw [if_pos h2, if_pos (by omega)]
    · rw [if_neg h2, if_neg (by omega)]
theorem u16w (x : Int) : IntKind.u16.wrap x = x % 65536 := rfl
theorem Sl.grown' {w w' : World} {a : Option Addr} {n g : Nat} {f : Nat → Value} (h : Sl w a n f) (hg : w.grownBy w' (some g)) (hne : g ≥ w.heap.size) : Sl w' a n f := by
  intro i hi
  obtain ⟨b, off, e, c⟩ := h i hi
  have := cell_lt c
  dsimp only at this
  refine ⟨b, off, e, ?_⟩
  rw [World.cell?_of_block (hg.block b this (by intro e; cases e; omega))]
  exact c
theorem grown_self (w : World) (g : Option Nat) : w.grownBy w g := ⟨rfl, rfl, rfl, Nat.le_refl _, fun _ _ _ => rfl⟩

/-- What Unbalance answers. -/
def UbOut (c : Nat → Int) (len : Nat) (w' : World) (e : Ending) : Prop :=
  ((((∃ i, i < len ∧ ¬ (-70368744177664 < c i ∧ c i < 70368744177664)) ∨ ubN c len len < 0) ∧ e = .returned (.tuple #[.slice none 0 0, .bool false])) ∨
  ((∀ i, i < len → -70368744177664 < c i ∧ c i < 70368744177664) ∧ 0 ≤ ubN c len len ∧ ∃ (n : Nat) (a : Option Addr), e = .returned (.tuple #[.slice a n n, .bool true]) ∧ (a = none ↔ n = 0) ∧ n ≤ len + 3 ∧ ubN c len len < P16 n ∧
    (0 < n → dg16 (ubN c len len) (n - 1) ≠ 0) ∧ Sl w' a n (fun i => .int .u16 (dg16 (ubN c len len) i))))

set_option maxRecDepth 100000 in
set_option maxHeartbeats 1000000 in
theorem unbalance_any (a : Option Addr) (len cap : Nat) (c : Nat → Int) (w : World) (hl : len ≤ 1000000) (hx : Sl w a len fun i => .int .i64 (c i)) :
    Calls Tagg.prog 22 #[.slice a len cap] w fun e w' => UbOut c len w' e ∧ Below w.heap.size w w' := by
  have hmk := run_make_row' (P := Tagg.prog) 34 49 (.int .u16 0) 2 Tagg.underlying34 Tagg.info49 rfl .i64 .i64 (len + 3) (by omega) (by omega)
  rw [show ((len + 3 : Nat) : Int) = (len : Int) + 3 by simp] at hmk
  go_enter Tagg.func22, Tagg.ntmps22
  go_wp2_with fail
  generalize eX : w.alloc _ = X
  have hbX : Below w.heap.size w X := by rw [← eX]; exact (Below.refl _ _).alloc (Nat.le_refl _) _
  have hrX : X.rowIs w.heap.size 49 (len + 3) (fun _ => .int .u16 0) := by rw [← eX]; exact made_at rfl _ _ _
  clear eX hmk
  have hwX : w.grownBy X (some w.heap.size) := ⟨hbX.os, hbX.tape, hbX.output, hbX.size, fun k hk _ => hbX.block k hk⟩
  go_loopw [5, 6] (fun ov i wr => ∃ q : Nat, q ≤ len + 3 ∧ i = .int .i64 q ∧ ov = .int .i64 (ubN c len q / P16 q) ∧ (∀ j, j < q → j < len → -70368744177664 < c j ∧ c j < 70368744177664) ∧ w.grownBy wr (some w.heap.size) ∧
    wr.rowIs w.heap.size 49 (len + 3) (fun j => .int .u16 (if j < q then dg16 (ubN c len len) j else 0))) (fun _ i _ => len + 3 - (intOf i).toNat)
  case atStart => exact ⟨0, by omega, rfl, by show _ = Value.int .i64 ((0 : Int) / P16 0); rw [P16_zero]; rfl, fun j h => absurd h (Nat.not_lt_zero j), hwX, hrX.congr (fun i hi => by rw [if_neg (Nat.not_lt_zero i)])⟩
  case round =>
    clear hbX hrX hwX
    obtain ⟨q, hq, rfl, rfl, hok, hgr, hrw⟩ := hrel
    have hxr := hx.grown' hgr (Nat.le_refl _)
    have hbel : Below w.heap.size w wr := ⟨hgr.os, hgr.tape, hgr.output, hgr.size, fun k hk => hgr.block k hk (by simp; omega)⟩
    have dgt := ub_digit c len q
    have ovr := ub_over c len q
    by_cases hlt : q < len
    · rw [if_pos hlt] at dgt ovr
      obtain ⟨b, off, rfl, cc⟩ := hxr q hlt
      by_cases hfar : -70368744177664 < c q ∧ c q < 70368744177664
      · have hbd := ubN_bound' c len q (fun j h1 h2 => hok j h1 h2)
        obtain ⟨f1, f2⟩ := hfar
        have cR := hrw.cell (i := q) (by omega)
        have cF := hrw.frozen q
        have hi1 : (q : Int) < (len : Int) := by omega
        have hi2 : (q : Int) < (len : Int) + 3 := by omega
        have hup := row_up16 (F := dg16 (ubN c len len)) (G := fun _ => 0) hrw
        have hok' : ∀ j, j < q + 1 → j < len → -70368744177664 < c j ∧ c j < 70368744177664 := fun j h1 h2 => by
          by_cases e : j = q
          · subst e; exact ⟨f1, f2⟩
          · exact hok j (by omega) h2
        have hrel' : Hid (∃ q1 : Nat, q1 ≤ len + 3 ∧ Value.int .i64 ((q : Int) + 1) = .int .i64 q1 ∧ Value.int .i64 (ubN c len (q + 1) / P16 (q + 1)) = .int .i64 (ubN c len q1 / P16 q1) ∧ (∀ j, j < q1 → j < len → -70368744177664 < c j ∧ c j < 70368744177664) ∧
            w.grownBy (wr.setCell ⟨w.heap.size, q, none⟩ (.int .u16 (dg16 (ubN c len len) q))) (some w.heap.size) ∧
            (wr.setCell ⟨w.heap.size, q, none⟩ (.int .u16 (dg16 (ubN c len len) q))).rowIs w.heap.size 49 (len + 3) (fun j => .int .u16 (if j < q1 then dg16 (ubN c len len) j else 0))) :=
          ⟨q + 1, by omega, by go_num, rfl, hok', grown_set hgr 0 _ _, hup⟩
        have dgt' : IntKind.u16.wrap (ubN c len q / P16 q + c q) = dg16 (ubN c len len) q := dgt
        clear hok hok' hup hx hxr hrw hbel hgr
        generalize ubN c len (q + 1) / P16 (q + 1) = OV at *
        generalize ubN c len q / P16 q = OL at *
        go_wp2
        exact ⟨hrel'.out, by simp [intOf]; omega⟩
      · have hf2 : 70368744177664 ≤ c q ∨ c q ≤ -70368744177664 := by omega
        have hi1 : (q : Int) < (len : Int) := by omega
        have hi2 : (q : Int) < (len : Int) + 3 := by omega
        have hout : UbOut c len wr (.returned (.tuple #[.slice none 0 0, .bool false])) := .inl ⟨.inl ⟨q, hlt, hfar⟩, rfl⟩
        clear hok hx hxr hrw hgr dgt ovr hfar
        by_cases hf3 : 70368744177664 ≤ c q
        · clear hf2
          go_wp2
          exact bodyPost_ret (v := .tuple #[.slice none 0 0, .bool false]) (by simp [results, Tagg.results22, go_sem]) rfl ⟨hout, hbel⟩
        · have hf4 : c q ≤ -70368744177664 := by omega
          clear hf2
          go_wp2
          exact bodyPost_ret (v := .tuple #[.slice none 0 0, .bool false]) (by simp [results, Tagg.results22, go_sem]) rfl ⟨hout, hbel⟩
    · by_cases hend : q < len + 3
      · rw [if_neg hlt, Int.add_zero] at dgt ovr
        have hbd := ubN_bound' c len q (fun j h1 h2 => hok j h1 h2)
        have cR := hrw.cell (i := q) (by omega)
        have cF := hrw.frozen q
        have hi1 : (len : Int) ≤ (q : Int) := by omega
        have hi2 : (q : Int) < (len : Int) + 3 := by omega
        have hup := row_up16 (F := dg16 (ubN c len len)) (G := fun _ => 0) hrw
        have hok' : ∀ j, j < q + 1 → j < len → -70368744177664 < c j ∧ c j < 70368744177664 := fun j h1 h2 => hok j (by omega) h2
        have hrel' : Hid (∃ q1 : Nat, q1 ≤ len + 3 ∧ Value.int .i64 ((q : Int) + 1) = .int .i64 q1 ∧ Value.int .i64 (ubN c len (q + 1) / P16 (q + 1)) = .int .i64 (ubN c len q1 / P16 q1) ∧ (∀ j, j < q1 → j < len → -70368744177664 < c j ∧ c j < 70368744177664) ∧
            w.grownBy (wr.setCell ⟨w.heap.size, q, none⟩ (.int .u16 (dg16 (ubN c len len) q))) (some w.heap.size) ∧
            (wr.setCell ⟨w.heap.size, q, none⟩ (.int .u16 (dg16 (ubN c len len) q))).rowIs w.heap.size 49 (len + 3) (fun j => .int .u16 (if j < q1 then dg16 (ubN c len len) j else 0))) :=
          ⟨q + 1, by omega, by go_num, rfl, hok', grown_set hgr 0 _ _, hup⟩
        have dgt' : IntKind.u16.wrap (ubN c len q / P16 q) = dg16 (ubN c len len) q := dgt
        clear hok hok' hup hx hxr hrw hbel hgr
        generalize ubN c len (q + 1) / P16 (q + 1) = OV at *
        generalize ubN c len q / P16 q = OL at *
        go_wp2
        exact ⟨hrel'.out, by simp [intOf]; omega⟩
      · have e : q = len + 3 := by omega
        subst e
        have hall : ∀ j, j < len → -70368744177664 < c j ∧ c j < 70368744177664 := fun j h => hok j (by omega) h
        rw [ubN_after c len (by omega : len ≤ len + 3)]
        have hrow := hrw.congr (g := fun j => .int .u16 (dg16 (ubN c len len) j)) (fun j hj => by rw [if_pos hj])
        have hneg := div_neg_iff (T := ubN c len len) (P16_pos (len + 3))
        clear dgt ovr hok hx hxr hgr hrw
        by_cases hT : ubN c len len < 0
        · have hout : UbOut c len wr (.returned (.tuple #[.slice none 0 0, .bool false])) := .inl ⟨.inr hT, rfl⟩
          have hT2 := hneg.2 hT
          clear hall hneg hrow
          generalize ubN c len len / P16 (len + 3) = OV at *
          go_wp2
          exact bodyPost_ret (v := .tuple #[.slice none 0 0, .bool false]) (by simp [results, Tagg.results22, go_sem]) rfl ⟨hout, hbel⟩
        · have h0 : ubN c len len / P16 (len + 3) = 0 := ub_room c len hall (by omega)
          have hroom := lt_of_div_zero (P16_pos _) h0
          rw [h0]
          clear hneg
          generalize hTT : ubN c len len = T at *
          have hall' : Hid (∀ j, j < len → -70368744177664 < c j ∧ c j < 70368744177664) := hall
          clear hall
          go_wp2_with fail
          go_loopw [7] (fun i w2 => ∃ n : Nat, n ≤ len + 3 ∧ i = .int .i64 n ∧ T < P16 n ∧ w2 = wr) (fun i _ => (intOf i).toNat)
          case atStart => exact ⟨len + 3, by omega, by go_num, hroom, rfl⟩
          case round =>
            obtain ⟨n, hn, rfl, hTn, rfl⟩ := hrel
            by_cases hn0 : n = 0
            · subst hn0
              have hout : UbOut c len wr (.returned (.tuple #[.slice none 0 0, .bool true])) := .inr ⟨hall'.out, by rw [hTT]; omega, 0, none, rfl, by simp, by omega, by rw [hTT]; exact hTn, fun h => absurd h (by decide), Sl.zero _ _ _⟩
              clear hrow hroom hTn h0
              go_wp2
              exact bodyPost_ret (v := .tuple #[.slice none 0 0, .bool true]) (by simp [results, Tagg.results22, go_sem]) rfl ⟨hout, hbel⟩
            · obtain ⟨m, rfl⟩ : ∃ m, n = m + 1 := ⟨n - 1, by omega⟩
              have cm := hrow.cell (i := m) (by omega)
              have em : ((m + 1 : Nat) : Int) - 1 = (m : Int) := by omega
              have em2 : (m : Int) + 1 - 1 = (m : Int) := by omega
              have em3 : (m : Int) < (len : Int) + 3 := by omega
              by_cases hz : dg16 T m = 0
              · have ht := trim16 (by omega) hTn hz
                clear hrow hroom hTn h0
                go_wp2
                go_roundw
                case rel => exact ⟨m, by omega, by go_num, ht, by trivial⟩
                case measure => simp [intOf]
              · have hout : UbOut c len wr (.returned (.tuple #[.slice (some ⟨w.heap.size, 0, none⟩) (m + 1) (m + 1), .bool true])) := .inr ⟨hall'.out, by rw [hTT]; omega, m + 1, _, rfl, by simp, by omega, by rw [hTT]; exact hTn, fun _ => by rw [hTT]; exact hz, by rw [hTT]; exact (Sl.of_row hrow).take (by omega)⟩
                clear hrow hroom hTn h0
                go_wp2
                exact bodyPost_ret (v := .tuple #[.slice (some ⟨w.heap.size, 0, none⟩) (m + 1) (m + 1), .bool true]) (by simp [results, Tagg.results22, go_sem]) rfl ⟨hout, hbel⟩
end Go.Proofs.Ygctag
