import Derived.Test.YgctagRpA
namespace Go.Proofs.Ygctag
open Go.RowKit

theorem Tagg.info21 : (Tagg.prog.info? 21).map (fun i => (i.zero, i.size, i.bytes)) = some (some (.int .i32 0), 1, 4) := by kernel_rfl

set_option maxRecDepth 100000 in
set_option maxHeartbeats 2000000 in
theorem balance20 (a : Option Addr) (L cap : Nat) (d : Nat → Int) (w : World) (hL1 : 1 ≤ L) (hL : L ≤ 2048) (hd : ∀ i, i < L → 0 ≤ d i ∧ d i < 65536) (ha : Sl w a L fun i => .int .u16 (d i)) :
    Calls Tagg.prog 20 #[.slice a L cap] w fun e w' => ∃ g B, B = balLen d L ∧ e = .returned (.slice (some ⟨g, 0, none⟩) B B) ∧ w.heap.size ≤ g ∧ w'.rowIs g 21 (L + 1) (fun i => .int .i32 (balD d L i)) ∧ Below w.heap.size w w' := by
  have hmk := run_make_row' (P := Tagg.prog) 22 21 (.int .i32 0) 4 Tagg.underlying22 Tagg.info21 rfl .i64 .i64 (L + 1) (by omega) (by omega)
  rw [show ((L + 1 : Nat) : Int) = (L : Int) + 1 by simp] at hmk
  have i0 : ((L : Int) == 0) = false := by simp; omega
  have v0 : IntKind.i64.wrap ((L : Int) + 1) = (L : Int) + 1 := IntWalk.i64_in _ ⟨by omega, by omega⟩
  go_enter Tagg.func20, Tagg.ntmps20
  go_wp2_with fail
  generalize eX : w.alloc _ = X
  have hbX : Below w.heap.size w X := by rw [← eX]; exact (Below.refl _ _).alloc (Nat.le_refl _) _
  have hrX : X.rowIs w.heap.size 21 (L + 1) (fun _ => .int .i32 0) := by rw [← eX]; exact made_at rfl _ _ _
  clear eX hmk
  have hgX : X.grownBy X (some w.heap.size) := ⟨rfl, rfl, rfl, Nat.le_refl _, fun _ _ _ => rfl⟩
  obtain ⟨g, hg⟩ : ∃ g, g = w.heap.size := ⟨_, rfl⟩
  have haX := ha.below hbX
  have hlt : ∀ i, i < L → ∀ b o, a = some ⟨b, o, none⟩ → b < g ∧ b < X.heap.size := fun i hi b o e => by
    obtain ⟨b', o', e', hcc⟩ := ha i hi
    rw [e] at e'
    injection e' with e'
    injection e' with e1 e2
    subst e1
    have h1 : b < w.heap.size := cell_lt hcc
    have h2 := hbX.size
    exact ⟨by omega, by omega⟩
  rw [← hg] at hrX hgX ⊢
  have hgH : Hid (w.heap.size ≤ g) := by show w.heap.size ≤ g; omega
  clear hg ha
  go_loopw [4, 5] (fun vc vi wr => ∃ q : Nat, q ≤ L ∧ vi = .int .i64 (q : Int) ∧ vc = .int .i32 (bcar d q) ∧ X.grownBy wr (some g) ∧ wr.rowIs g 21 (L + 1) (fun i => .int .i32 (if i < q then bdig d i else 0))) (fun _ vi _ => L - (intOf vi).toNat)
  case atStart => exact ⟨0, by omega, rfl, rfl, hgX, hrX.congr fun i _ => by rw [if_neg (Nat.not_lt_zero _)]⟩
  case round =>
    clear hrX hgX
    obtain ⟨q, hq, rfl, rfl, hgr, hrw⟩ := hrel
    have hc01 := bcar_01 d q
    by_cases hqL : q < L
    · obtain ⟨b, o, rfl, hc⟩ := haX q hqL
      obtain ⟨l1, l2⟩ := hlt q hqL b o rfl
      have cA : wr.cell? ⟨b, o + q, none⟩ = some (.int .u16 (d q)) := (World.cell?_of_block (hgr.block b l2 (by simp; omega))).trans hc
      obtain ⟨d0, d1⟩ := hd q hqL
      have j1 : (q : Int) < L := by omega
      have j2 : (q : Int) < (L : Int) + 1 := by omega
      have cW := hrw.cell (i := q) (by omega)
      have fW := hrw.frozen q
      have vd : IntKind.i32.wrap (d q) = d q := IntWalk.i32_in _ ⟨by omega, by omega⟩
      have vs : IntKind.i32.wrap (d q + bcar d q) = d q + bcar d q := IntWalk.i32_in _ ⟨by omega, by omega⟩
      have hup : (wr.setCell ⟨g, q, none⟩ (.int .i32 (bdig d q))).rowIs g 21 (L + 1) (fun i => .int .i32 (if i < q + 1 then bdig d i else 0)) := (hrw.set q _).congr fun i _ => by
        by_cases h : i = q
        · subst h; rw [if_pos rfl, if_pos (Nat.lt_succ_self _)]
        · rw [if_neg h]
          by_cases h2 : i < q
          · rw [if_pos h2, if_pos (by omega)]
          · rw [if_neg h2, if_neg (by omega)]
      have hnext : Hid (∀ W', W' = wr.setCell ⟨g, q, none⟩ (.int .i32 (bdig d q)) → X.grownBy W' (some g) ∧ W'.rowIs g 21 (L + 1) (fun i => .int .i32 (if i < q + 1 then bdig d i else 0))) := by
        show ∀ W', _ → _
        rintro W' rfl
        exact ⟨grown_set hgr 0 _ _, hup⟩
      by_cases hge : 32768 ≤ d q + bcar d q
      · have e1 : bcar d (q + 1) = 1 := by show (if 32768 ≤ d q + bcar d q then (1 : Int) else 0) = 1; rw [if_pos hge]
        have e2 : d q + bcar d q - 65536 = bdig d q := by unfold bdig; rw [e1]; omega
        have vb : IntKind.i32.wrap (bdig d q) = bdig d q := by rw [← e2]; exact IntWalk.i32_in _ ⟨by omega, by omega⟩
        have e1H : Hid (bcar d (q + 1) = 1) := e1
        clear hrw hgr hup haX hlt hc hbX hd e1
        generalize bdig d q = bq at *
        generalize bcar d q = cq at *
        generalize d q = dq at *
        go_wp2
        exact ⟨⟨q + 1, by omega, by go_num, by rw [e1H.out], hnext.out _ rfl⟩, by simp [intOf]; omega⟩
      · have e1 : bcar d (q + 1) = 0 := by show (if 32768 ≤ d q + bcar d q then (1 : Int) else 0) = 0; rw [if_neg hge]
        have e2 : d q + bcar d q = bdig d q := by unfold bdig; rw [e1]; omega
        have hge' : d q + bcar d q < 32768 := by omega
        have e1H : Hid (bcar d (q + 1) = 0) := e1
        rw [e2] at vs hge'
        clear hrw hgr hup haX hlt hc hbX hd e1 hge
        generalize bdig d q = bq at *
        generalize bcar d q = cq at *
        generalize d q = dq at *
        go_wp2
        exact ⟨⟨q + 1, by omega, by go_num, by rw [e1H.out], hnext.out _ rfl⟩, by simp [intOf]; omega⟩
    · have e : q = L := by omega
      subst e
      have cW := hrw.cell (i := q) (by omega)
      have fW := hrw.frozen q
      have j2 : (q : Int) < (q : Int) + 1 := by omega
      have j3 : (q : Int) ≤ (q : Int) + 1 := by omega
      rcases hc01 with e0 | e1
      · have hrow : wr.rowIs g 21 (q + 1) (fun i => .int .i32 (balD d q i)) := hrw.congr fun i hi => by
          unfold balD
          by_cases h : i < q
          · rw [if_pos h, if_pos h]
          · rw [if_neg h, if_neg h, e0]
        have hbel := below_grown hbX hgr hgH.out
        have hBl : Hid (q = balLen d q) := by show q = balLen d q; unfold balLen; rw [if_pos e0]
        clear hrw haX hlt hd hgr hbX
        rw [e0]
        clear e0
        go_wp2
        go_ret
        exact ⟨g, q, hBl.out, rfl, hgH.out, hrow, hbel⟩
      · have hrow : (wr.setCell ⟨g, q, none⟩ (.int .i32 1)).rowIs g 21 (q + 1) (fun i => .int .i32 (balD d q i)) := (hrw.set q _).congr fun i hi => by
          unfold balD
          by_cases h : i < q
          · rw [if_neg (show ¬ i = q by omega), if_pos h, if_pos h]
          · rw [if_pos (show i = q by omega), if_neg h, e1]
        have hbel0 := below_grown hbX hgr hgH.out
        have hbel : Below w.heap.size w (wr.setCell ⟨g, q, none⟩ (.int .i32 1)) := hbel0.setCell hgH.out _
        have hBl : Hid (q + 1 = balLen d q) := by show q + 1 = balLen d q; unfold balLen; rw [if_neg (by omega)]
        clear hrw haX hlt hd hgr hbX hbel0
        rw [e1]
        clear e1
        go_wp2
        go_ret
        exact ⟨g, q + 1, hBl.out, rfl, hgH.out, hrow, hbel⟩

def byteAt (V : Int) (q j : Nat) : Int := if j < 2 * q then dg8 V j else 0
set_option maxRecDepth 100000 in
set_option maxHeartbeats 2000000 in
theorem bytes24 (a : Option Addr) (n cap : Nat) (V : Int) (w : World) (hn : n ≤ 4096) (h0 : 0 ≤ V) (hV : V < P16 n) (ha : Sl w a n fun i => .int .u16 (dg16 V i)) :
    Calls Tagg.prog 24 #[.slice a n cap] w fun e w' => ∃ v, e = .returned v ∧ NatOwn w' w.heap.size v V ∧ Below w.heap.size w w' := by
  have hmk := run_make_row' (P := Tagg.prog) 30 5 (.int .u8 0) 1 Tagg.underlying30 Tagg.info5 rfl .i64 .i64 (2 * n) (by omega) (by omega)
  rw [show ((2 * n : Nat) : Int) = 2 * (n : Int) by simp] at hmk
  have v0 : IntKind.i64.wrap (2 * (n : Int)) = 2 * (n : Int) := IntWalk.i64_in _ ⟨by omega, by omega⟩
  have hval : val (dg8 V) (2 * n) = V := dg8_val h0 (by rw [P8_two]; exact hV)
  have hvH : Hid (val (dg8 V) (2 * n) = V) := hval
  clear hval hV
  go_enter Tagg.func24, Tagg.ntmps24
  go_wp2_with fail
  generalize eX : w.alloc _ = X
  have hbX : Below w.heap.size w X := by rw [← eX]; exact (Below.refl _ _).alloc (Nat.le_refl _) _
  have hrX : X.rowIs w.heap.size 5 (2 * n) (fun _ => .int .u8 0) := by rw [← eX]; exact made_at rfl _ _ _
  clear eX hmk
  have hgX : X.grownBy X (some w.heap.size) := ⟨rfl, rfl, rfl, Nat.le_refl _, fun _ _ _ => rfl⟩
  obtain ⟨g, hg⟩ : ∃ g, g = w.heap.size := ⟨_, rfl⟩
  have haX := ha.below hbX
  have hlt : ∀ i, i < n → ∀ b o, a = some ⟨b, o, none⟩ → b < g ∧ b < X.heap.size := fun i hi b o e => by
    obtain ⟨b', o', e', hcc⟩ := ha i hi
    rw [e] at e'
    injection e' with e'
    injection e' with e1 e2
    subst e1
    have h1 : b < w.heap.size := cell_lt hcc
    have h2 := hbX.size
    exact ⟨by omega, by omega⟩
  rw [← hg] at hrX hgX ⊢
  have hgH : Hid (w.heap.size ≤ g) := by show w.heap.size ≤ g; omega
  clear hg ha
  go_loopw [4] (fun vi wr => ∃ q : Nat, q ≤ n ∧ vi = .int .i64 (q : Int) ∧ X.grownBy wr (some g) ∧ wr.rowIs g 5 (2 * n) (fun j => .int .u8 (byteAt V q j))) (fun vi _ => n - (intOf vi).toNat)
  case atStart => exact ⟨0, by omega, rfl, hgX, hrX.congr fun i _ => by unfold byteAt; rw [if_neg (by omega)]⟩
  case round =>
    clear hrX hgX
    obtain ⟨q, hq, rfl, hgr, hrw⟩ := hrel
    by_cases hqn : q < n
    · obtain ⟨b, o, rfl, hc⟩ := haX q hqn
      obtain ⟨l1, l2⟩ := hlt q hqn b o rfl
      have cA : wr.cell? ⟨b, o + q, none⟩ = some (.int .u16 (dg16 V q)) := (World.cell?_of_block (hgr.block b l2 (by simp; omega))).trans hc
      have hd := dg16_bound V q
      have j1 : (q : Int) < n := by omega
      have j2 : 2 * (q : Int) < 2 * (n : Int) := by omega
      have j3 : 2 * (q : Int) + 1 < 2 * (n : Int) := by omega
      have j4 : (2 * (q : Int)).toNat = 2 * q := by omega
      have j5 : (2 * (q : Int) + 1).toNat = 2 * q + 1 := by omega
      have j6 : (0 : Int) ≤ 2 * (q : Int) := by omega
      have j7 : (0 : Int) ≤ 2 * (q : Int) + 1 := by omega
      have v1 : IntKind.i64.wrap (2 * (q : Int)) = 2 * (q : Int) := IntWalk.i64_in _ ⟨by omega, by omega⟩
      have v2 : IntKind.i64.wrap (2 * (q : Int) + 1) = 2 * (q : Int) + 1 := IntWalk.i64_in _ ⟨by omega, by omega⟩
      have cI := hrw.cell (i := 2 * q) (by omega)
      have cJ := hrw.cell (i := 2 * q + 1) (by omega)
      have fI := hrw.frozen (2 * q)
      have fJ := hrw.frozen (2 * q + 1)
      have e1 : IntKind.u8.wrap (dg16 V q) = dg8 V (2 * q) := (dg8_low V q).symm
      have e2 : dg16 V q / 256 = dg8 V (2 * q + 1) := (dg8_up V q).symm
      have hb8 := dg8_bound V (2 * q + 1)
      have e3 : IntKind.u8.wrap (dg8 V (2 * q + 1)) = dg8 V (2 * q + 1) := IntWalk.u8_in _ ⟨by omega, by omega⟩
      have hup := (row_set (F := Value.int .u8) (row_set (F := Value.int .u8) hrw (2 * q) (dg8 V (2 * q))) (2 * q + 1) (dg8 V (2 * q + 1))).congr (g := fun j => .int .u8 (byteAt V (q + 1) j)) (fun j _ => by
        unfold upd byteAt
        by_cases h1 : j = 2 * q + 1
        · subst h1; rw [if_pos rfl, if_pos (by omega)]
        · rw [if_neg h1]
          by_cases h2 : j = 2 * q
          · subst h2; rw [if_pos rfl, if_pos (by omega)]
          · rw [if_neg h2]
            by_cases h3 : j < 2 * q
            · rw [if_pos h3, if_pos (by omega)]
            · rw [if_neg h3, if_neg (by omega)])
      have hnext : Hid (∀ W', W' = ((wr.setCell ⟨g, 2 * q, none⟩ (.int .u8 (dg8 V (2 * q)))).setCell ⟨g, 2 * q + 1, none⟩ (.int .u8 (dg8 V (2 * q + 1)))).drew → X.grownBy W' (some g) ∧ W'.rowIs g 5 (2 * n) (fun j => .int .u8 (byteAt V (q + 1) j))) := by
        show ∀ W', _ → _
        rintro W' rfl
        exact ⟨grown_drew (grown_set (grown_set hgr 0 _ _) 0 _ _), hup⟩
      clear hrw hgr hup haX hlt hc hbX
      generalize dg8 V (2 * q) = dl at *
      generalize dg8 V (2 * q + 1) = du at *
      generalize dg16 V q = dq at *
      go_wp2_with fail
      go_region
      all_goals go_wp2
      all_goals exact ⟨⟨q + 1, by omega, by go_num, hnext.out _ rfl⟩, by simp [intOf]; omega⟩
    · have e : q = n := by omega
      subst e
      have hrow : wr.rowIs g 5 (2 * q) (fun j => .int .u8 (dg8 V j)) := hrw.congr fun j hj => by unfold byteAt; rw [if_pos hj]
      have hbel := below_grown hbX hgr hgH.out
      have hAd := natAdd_ok (some ⟨g, 0, none⟩) none (2 * q) 0 (2 * q) 0 (dg8 V) (fun _ => 0) wr (Nat.le_refl _) (Nat.le_refl _) (by omega) (by omega) (Sl.of_row hrow) (Sl.zero _ _ _) (fun i _ => by have := dg8_bound V i; omega) (fun i hi => absurd hi (Nat.not_lt_zero i))
      rw [hvH.out, show val (fun _ => (0 : Int)) 0 = 0 from rfl, Int.add_zero] at hAd
      clear hrw haX hlt hgr hbX hrow
      go_wp2_with fail
      with_reducible refine hAd.mono ?_
      rintro e w2 ⟨v, rfl, hown, hb2⟩
      have hfin : Hid (NatOwn w2 w.heap.size v V ∧ Below w.heap.size w w2) := ⟨natOwn_mono hown hbel.size, hbel.trans (hb2.mono hbel.size)⟩
      clear hown hb2 hbel hAd
      go_wp2
      go_ret
      exact ⟨_, rfl, hfin.out.1, hfin.out.2⟩

/-- One number twice. -/
theorem sameOwn23 (B1 B2 : Nat) (v1 v2 : Value) (V : Int) (w : World) (hV : V < P8 10000000) (h1 : NatOwn w B1 v1 V) (h2 : NatOwn w B2 v2 V) :
    Calls Tagg.prog 23 #[v1, v2] w fun e w' => e = .returned (.bool true) ∧ ∃ q, w' = w.drewN q := by
  obtain ⟨g1, n, N1, -, rfl, hl, hr1, hn1⟩ := h1
  obtain ⟨g2, n2, N2, -, rfl, hl2, hr2, hn2⟩ := h2
  obtain rfl := hl.uniq hl2
  have hn : n ≤ 10000000 := hl.le hV
  obtain ⟨a1, e1, q1, r1⟩ := cutV_nil g1 n
  obtain ⟨a2, e2, q2, r2⟩ := cutV_nil g2 n
  have s1 : Sl w a1 n (fun i => .int .u8 (dg8 V i)) := fun i hi => by rw [r1 (by omega)]; exact ⟨g1, 0, rfl, by rw [Nat.zero_add]; exact (hr1 (by omega)).cell (by omega)⟩
  have s2 : Sl w a2 n (fun i => .int .u8 (dg8 V i)) := fun i hi => by rw [r2 (by omega)]; exact ⟨g2, 0, rfl, by rw [Nat.zero_add]; exact (hr2 (by omega)).cell (by omega)⟩
  have hS := sameNat_ok a1 a2 n n n (dg8 V) w (by omega) (q1.trans q2.symm) s1 s2
  rw [e1, e2]
  exact hS
end Go.Proofs.Ygctag
