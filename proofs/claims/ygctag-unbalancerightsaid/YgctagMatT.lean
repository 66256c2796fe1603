import Derived.Test.YgctagMatMul
import Derived.Deep.CutBlock
import Derived.Deep.RegionHeld3
namespace Go.Proofs.Ygctag
open Go.RowKit
attribute [local go_sem ↓] run_fadd run_fmul
attribute [local go_sem] run_store_float

theorem held_box {X W W' : World} {p : Nat} {x0 x1 x2 x3 : Value} (hb : Below W.heap.size W W')
    (hS : W.cell? ⟨p, 0, none⟩ = some x0 ∧ W.cell? ⟨p, 1, none⟩ = some x1 ∧ W.cell? ⟨p, 2, none⟩ = some x2 ∧ W.cell? ⟨p, 3, none⟩ = some x3 ∧ Below X.heap.size X W) :
    W'.cell? ⟨p, 0, none⟩ = some x0 ∧ W'.cell? ⟨p, 1, none⟩ = some x1 ∧ W'.cell? ⟨p, 2, none⟩ = some x2 ∧ W'.cell? ⟨p, 3, none⟩ = some x3 ∧ Below X.heap.size X W' := by
  obtain ⟨h0, h1, h2, h3, hB⟩ := hS
  exact ⟨(hb.cell (cell_lt h0)).trans h0, (hb.cell (cell_lt h1)).trans h1, (hb.cell (cell_lt h2)).trans h2, (hb.cell (cell_lt h3)).trans h3, hB.trans (hb.mono hB.size)⟩

set_option maxRecDepth 100000 in
set_option maxHeartbeats 2000000 in
theorem along_one (g o cO k ck m s j : Nat) (ra ta : Option Addr) (nt capt N : Nat) (x y bits : Nat → Nat) (w : World) (hnt : nt ≤ 140737488355328) (hct : nt ≤ capt) (hk : k ≤ 512)
    (hs : soundB m k s nt = true) (hj : j < m) (hx : Sl w ra k fun t => .float .f64 (x t)) (hy : Sl w ta nt fun t => .float .f64 (y t)) (hg : w.rowIs g 46 N (fun t => .float .f64 (bits t))) (ho : o < N) :
    Calls Tagg.prog 87 #[.slice (some ⟨g, o, none⟩) 1 cO, .slice ra k ck, matV m k s ta nt capt, .int .i64 j] w fun e w' => e = .returned (.tuple #[]) ∧
      ∃ sb, absF sb = dotF (fun t => absF (x t)) (fun t => absF (y (j * s + t))) k ∧ w'.rowIs g 46 N (fun t => .float .f64 (upd bits o sb t)) ∧ w.grownBy w' (some g) := by
  have ha : 0 < nt → ∃ b off, ta = some ⟨b, off, none⟩ := fun h => by obtain ⟨b, off, e, _⟩ := hy 0 h; exact ⟨b, off, e⟩
  have hR := fun w => row_any m k s j ta nt capt w hnt hct hs hj ha
  unfold matV at hR ⊢
  go_enter Tagg.func87, Tagg.ntmps87
  go_wp2_with fail
  with_reducible refine (hR _).mono ?_
  rintro e w1 ⟨rt, rfl, hrt, hb1⟩
  have hb : Below w.heap.size w w1 := ((Below.refl _ _).alloc (Nat.le_refl _) _).trans (hb1.mono (by simp))
  have hx1 := hx.below hb
  have hy1 := hy.below hb
  have hg1 : w1.rowIs g 46 N (fun t => .float .f64 (bits t)) := hg.of_block (hb.block g hg.lt)
  clear hx hy hR hb1
  go_wp2_with fail
  go_loopw [10, 11] (fun sv kv wk => ∃ t : Nat, t ≤ k ∧ kv = .int .i64 t ∧ (∃ sb, sv = .float .f64 sb ∧ absF sb = dotF (fun t => absF (x t)) (fun t => absF (y (j * s + t))) t) ∧ ∃ d, wk = w1.drewN d) (fun _ i _ => k - (intOf i).toNat)
  case atStart => exact ⟨0, by omega, rfl, ⟨0, rfl, rfl⟩, 0, rfl⟩
  case round =>
    obtain ⟨t, ht, rfl, ⟨sb, rfl, hsb⟩, d, rfl⟩ := hrel
    have H : Hid (absF sb = dotF (fun t => absF (x t)) (fun t => absF (y (j * s + t))) t) := hsb
    clear hsb
    by_cases htk : t < k
    · obtain ⟨b2, o2, et, rfl⟩ := hrt (by omega)
      obtain ⟨b1, o1, rfl, cx⟩ := hx1 t htk
      obtain ⟨b2', o2', et', cy⟩ := hy1 _ (sound_reach hs hj htk)
      rw [et] at et'; cases et'
      rw [← Nat.add_assoc] at cy
      have i1 : (t : Int) < (k : Int) := by omega
      clear et hx1 hy1 hrt hg1
      go_wp2
      go_region
      go_wp2
      go_roundw
      case rel => exact ⟨t + 1, by omega, by go_num, ⟨_, rfl, by rw [absF_fR, absF_fR, H.out]; rfl⟩, _, rfl⟩
      case measure => simp [intOf]; omega
    · obtain rfl : t = k := by omega
      have c0 : w1.cell? ⟨g, o, none⟩ = some (.float .f64 (bits o)) := hg1.cell ho
      have f0 := hg1.frozen o
      clear hx1 hy1 hrt
      go_wp2
      refine bodyPost_ret (v := .tuple #[]) (by simp [results, Tagg.results87]) rfl ?_
      refine ⟨rfl, sb, H.out, row_set (F := Value.float .f64) (row_draws hg1 d) o sb, ?_⟩
      exact grown_set ⟨hb.os, hb.tape, hb.output, hb.size, fun k hk _ => hb.block k hk⟩ d o _

set_option maxRecDepth 100000 in
set_option maxHeartbeats 4000000 in
theorem along_four (g o cO k ck m s j : Nat) (ra ta : Option Addr) (nt capt N : Nat) (x y bits : Nat → Nat) (w : World) (hnt : nt ≤ 140737488355328) (hct : nt ≤ capt) (hk : k ≤ 512) (hm : m ≤ 512)
    (hs : soundB m k s nt = true) (hj : j + 3 < m) (hx : Sl w ra k fun t => .float .f64 (x t)) (hy : Sl w ta nt fun t => .float .f64 (y t)) (hg : w.rowIs g 46 N (fun t => .float .f64 (bits t))) (ho : o + 3 < N) :
    Calls Tagg.prog 87 #[.slice (some ⟨g, o, none⟩) 4 cO, .slice ra k ck, matV m k s ta nt capt, .int .i64 j] w fun e w' => e = .returned (.tuple #[]) ∧
      ∃ s0 s1 s2 s3, absF s0 = dotF (fun t => absF (x t)) (fun t => absF (y (j * s + t))) k ∧ absF s1 = dotF (fun t => absF (x t)) (fun t => absF (y ((j + 1) * s + t))) k ∧
        absF s2 = dotF (fun t => absF (x t)) (fun t => absF (y ((j + 2) * s + t))) k ∧ absF s3 = dotF (fun t => absF (x t)) (fun t => absF (y ((j + 3) * s + t))) k ∧
        w'.rowIs g 46 N (fun t => .float .f64 (upd (upd (upd (upd bits o s0) (o + 1) s1) (o + 2) s2) (o + 3) s3 t)) ∧ w.grownBy w' (some g) := by
  have ha : 0 < nt → ∃ b off, ta = some ⟨b, off, none⟩ := fun h => by obtain ⟨b, off, e, _⟩ := hy 0 h; exact ⟨b, off, e⟩
  have hR0 := fun w => row_any m k s j ta nt capt w hnt hct hs (by omega) ha
  have hR1 := fun w => row_any m k s (j + 1) ta nt capt w hnt hct hs (by omega) ha
  have hR2 := fun w => row_any m k s (j + 2) ta nt capt w hnt hct hs (by omega) ha
  have hR3 := fun w => row_any m k s (j + 3) ta nt capt w hnt hct hs (by omega) ha
  rw [show ((j + 1 : Nat) : Int) = (j : Int) + 1 by simp] at hR1
  rw [show ((j + 2 : Nat) : Int) = (j : Int) + 2 by simp] at hR2
  rw [show ((j + 3 : Nat) : Int) = (j : Int) + 3 by simp] at hR3
  have v1 : IntKind.i64.wrap ((j : Int) + 1) = (j : Int) + 1 := IntWalk.i64_in _ ⟨by omega, by omega⟩
  have v2 : IntKind.i64.wrap ((j : Int) + 2) = (j : Int) + 2 := IntWalk.i64_in _ ⟨by omega, by omega⟩
  have v3 : IntKind.i64.wrap ((j : Int) + 3) = (j : Int) + 3 := IntWalk.i64_in _ ⟨by omega, by omega⟩
  unfold matV at hR0 hR1 hR2 hR3 ⊢
  go_enter Tagg.func87, Tagg.ntmps87
  go_upto_region 9 with fail
  generalize eX : w.alloc _ = X
  have bx : Box X w.heap.size (.int .i64 m) (.int .i64 k) (.int .i64 s) (.slice ta nt capt) := by rw [← eX]; exact Box.new w _ _ _ _
  have hbX : Below w.heap.size w X := by rw [← eX]; exact (Below.refl _ _).alloc (Nat.le_refl _) _
  clear eX
  generalize w.heap.size = p at bx
  go_cut [12, 13, 14, 15] (fun u0 u1 u2 u3 wx => ∃ r0 r1 r2 r3, u0 = .slice r0 k k ∧ u1 = .slice r1 k k ∧ u2 = .slice r2 k k ∧ u3 = .slice r3 k k ∧
    (0 < k → ∃ b off, ta = some ⟨b, off, none⟩ ∧ r0 = some ⟨b, off + j * s, none⟩) ∧ (0 < k → ∃ b off, ta = some ⟨b, off, none⟩ ∧ r1 = some ⟨b, off + (j + 1) * s, none⟩) ∧
    (0 < k → ∃ b off, ta = some ⟨b, off, none⟩ ∧ r2 = some ⟨b, off + (j + 2) * s, none⟩) ∧ (0 < k → ∃ b off, ta = some ⟨b, off, none⟩ ∧ r3 = some ⟨b, off + (j + 3) * s, none⟩) ∧ Below X.heap.size X wx)
  case first =>
    go_region_held3 (fun W => W.cell? ⟨p, 0, none⟩ = some (.int .i64 m) ∧ W.cell? ⟨p, 1, none⟩ = some (.int .i64 k) ∧ W.cell? ⟨p, 2, none⟩ = some (.int .i64 s) ∧ W.cell? ⟨p, 3, none⟩ = some (.slice ta nt capt) ∧ Below X.heap.size X W)
      (first | exact ⟨bx.cells.1, bx.cells.2.1, bx.cells.2.2.1, bx.cells.2.2.2, ⟨rfl, rfl, rfl, Nat.le_refl _, fun _ _ => rfl⟩⟩ | exact held_box (by assumption) (by assumption))
      (first | (go_at_call 87; fail) | (go_at_call 48; with_reducible refine (hR0 _).mono ?_; rintro e w1 ⟨r0, rfl, hr0, hb1⟩) | (go_at_call 48; with_reducible refine (hR1 _).mono ?_; rintro e w2 ⟨r1, rfl, hr1, hb2⟩) | (go_at_call 48; with_reducible refine (hR2 _).mono ?_; rintro e w3 ⟨r2, rfl, hr2, hb3⟩) | (go_at_call 48; with_reducible refine (hR3 _).mono ?_; rintro e w4 ⟨r3, rfl, hr3, hb4⟩))
    go_wp2_with fail
    go_meet
    exact ⟨_, _, _, _, rfl, rfl, rfl, rfl, hr0, hr1, hr2, hr3, (by assumption : _ ∧ _ ∧ _ ∧ _ ∧ Below X.heap.size X w4).2.2.2.2⟩
  case rest =>
    obtain ⟨r0, r1, r2, r3, rfl, rfl, rfl, rfl, h0, h1, h2, h3, hbc⟩ := hcut
    have hb : Below w.heap.size w wc := hbX.trans (hbc.mono hbX.size)
    have hx1 := hx.below hb
    have hy1 := hy.below hb
    have hg1 : wc.rowIs g 46 N (fun t => .float .f64 (bits t)) := hg.of_block (hb.block g hg.lt)
    clear hx hy hR0 hR1 hR2 hR3 hbc hbX v1 v2 v3 bx
    go_wp2
    go_quiet (fail)
    go_wp2_with fail
    generalize eW : wc.drewN nq = W
    have hx2 : Sl W ra k fun t => .float .f64 (x t) := by rw [← eW]; exact hx1
    have hy2 : Sl W ta nt fun t => .float .f64 (y t) := by rw [← eW]; exact hy1
    have hg2 : W.rowIs g 46 N (fun t => .float .f64 (bits t)) := by rw [← eW]; exact hg1
    have hbW : Below w.heap.size w W := by rw [← eW]; exact below_draws hb nq
    clear eW hx1 hy1 hg1 hb
    go_loopw [16, 17, 18, 19, 20] (fun sv0 sv1 sv2 sv3 kv wk => ∃ t : Nat, t ≤ k ∧ kv = .int .i64 t ∧ (∃ sb, sv0 = .float .f64 sb ∧ absF sb = dotF (fun t => absF (x t)) (fun t => absF (y (j * s + t))) t) ∧
        (∃ sb, sv1 = .float .f64 sb ∧ absF sb = dotF (fun t => absF (x t)) (fun t => absF (y ((j + 1) * s + t))) t) ∧ (∃ sb, sv2 = .float .f64 sb ∧ absF sb = dotF (fun t => absF (x t)) (fun t => absF (y ((j + 2) * s + t))) t) ∧
        (∃ sb, sv3 = .float .f64 sb ∧ absF sb = dotF (fun t => absF (x t)) (fun t => absF (y ((j + 3) * s + t))) t) ∧ ∃ d, wk = W.drewN d) (fun _ _ _ _ i _ => k - (intOf i).toNat)
    case atStart => exact ⟨0, by omega, rfl, ⟨0, rfl, rfl⟩, ⟨0, rfl, rfl⟩, ⟨0, rfl, rfl⟩, ⟨0, rfl, rfl⟩, 0, rfl⟩
    case round =>
      obtain ⟨t, ht, rfl, ⟨s0, rfl, e0⟩, ⟨s1, rfl, e1⟩, ⟨s2, rfl, e2⟩, ⟨s3, rfl, e3⟩, d, rfl⟩ := hrel
      have H0 : Hid (absF s0 = dotF (fun t => absF (x t)) (fun t => absF (y (j * s + t))) t) := e0
      have H1 : Hid (absF s1 = dotF (fun t => absF (x t)) (fun t => absF (y ((j + 1) * s + t))) t) := e1
      have H2 : Hid (absF s2 = dotF (fun t => absF (x t)) (fun t => absF (y ((j + 2) * s + t))) t) := e2
      have H3 : Hid (absF s3 = dotF (fun t => absF (x t)) (fun t => absF (y ((j + 3) * s + t))) t) := e3
      clear e0 e1 e2 e3
      by_cases htk : t < k
      · obtain ⟨b2, o2, et, rfl⟩ := h0 (by omega)
        obtain ⟨_, _, et1, rfl⟩ := h1 (by omega)
        rw [et] at et1; cases et1
        obtain ⟨_, _, et1, rfl⟩ := h2 (by omega)
        rw [et] at et1; cases et1
        obtain ⟨_, _, et1, rfl⟩ := h3 (by omega)
        rw [et] at et1; cases et1
        obtain ⟨b1, o1, rfl, cx⟩ := hx2 t htk
        obtain ⟨_, _, et', c0⟩ := hy2 _ (sound_reach hs (i := j) (by omega) htk)
        rw [et] at et'; cases et'
        obtain ⟨_, _, et', c1⟩ := hy2 _ (sound_reach hs (i := j + 1) (by omega) htk)
        rw [et] at et'; cases et'
        obtain ⟨_, _, et', c2⟩ := hy2 _ (sound_reach hs (i := j + 2) (by omega) htk)
        rw [et] at et'; cases et'
        obtain ⟨_, _, et', c3⟩ := hy2 _ (sound_reach hs (i := j + 3) (by omega) htk)
        rw [et] at et'; cases et'
        rw [← Nat.add_assoc] at c0 c1 c2 c3
        have i1 : (t : Int) < (k : Int) := by omega
        clear et hx2 hy2 h0 h1 h2 h3 hg2
        go_wp2
        go_roundw
        case rel =>
          exact ⟨t + 1, by omega, by go_num, ⟨_, rfl, by rw [absF_fR, absF_fR, H0.out]; rfl⟩, ⟨_, rfl, by rw [absF_fR, absF_fR, H1.out]; rfl⟩, ⟨_, rfl, by rw [absF_fR, absF_fR, H2.out]; rfl⟩, ⟨_, rfl, by rw [absF_fR, absF_fR, H3.out]; rfl⟩, _, rfl⟩
        case measure => simp [intOf]; omega
      · obtain rfl : t = k := by omega
        have c0 : W.cell? ⟨g, o, none⟩ = some (.float .f64 (bits o)) := hg2.cell (by omega)
        have c1 : W.cell? ⟨g, o + 1, none⟩ = some (.float .f64 (bits (o + 1))) := hg2.cell (by omega)
        have c2 : W.cell? ⟨g, o + 2, none⟩ = some (.float .f64 (bits (o + 2))) := hg2.cell (by omega)
        have c3 : W.cell? ⟨g, o + 3, none⟩ = some (.float .f64 (bits (o + 3))) := hg2.cell (by omega)
        have f0 := hg2.frozen o
        have f1 := hg2.frozen (o + 1)
        have f2 := hg2.frozen (o + 2)
        have f3 := hg2.frozen (o + 3)
        clear hx2 hy2 h0 h1 h2 h3
        go_wp2
        go_end0
        refine ⟨rfl, s0, s1, s2, s3, H0.out, H1.out, H2.out, H3.out, ?_, ?_⟩
        · exact row_set (F := Value.float .f64) (row_set (F := Value.float .f64) (row_set (F := Value.float .f64) (row_set (F := Value.float .f64) (row_draws hg2 d) o s0) (o + 1) s1) (o + 2) s2) (o + 3) s3
        · exact grown_set (d := 0) (grown_set (d := 0) (grown_set (d := 0) (grown_set ⟨hbW.os, hbW.tape, hbW.output, hbW.size, fun k hk _ => hbW.block k hk⟩ d o _) (o + 1) _) (o + 2) _) (o + 3) _
end Go.Proofs.Ygctag
