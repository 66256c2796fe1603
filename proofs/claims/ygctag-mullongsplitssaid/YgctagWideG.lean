import Derived.Test.YgctagWideE
namespace Go.Proofs.Ygctag
open Go.RowKit

theorem mkGrid1 (X : World) (N R C rt : Nat) (W : World) (hW : W = ((X.alloc (.cells (madeCells #[Value.int .u32 0] N) 126)).alloc (.cells #[.slice (some ⟨X.heap.size, 0, none⟩) N N, .int .i64 (R : Int), .int .i64 (C : Int), .int .u32 (rt : Int)] 128)).drew) :
    GBox W (X.heap.size + 1) X.heap.size N R C rt ∧ W.rowIs X.heap.size 126 N (fun _ => .int .u32 0) ∧ Below X.heap.size X W := by
  subst hW
  refine ⟨?_, ?_, ?_⟩
  · show ((X.alloc _).alloc _).heap[X.heap.size + 1]? = _
    rw [← Deep.nblk_alloc X (.cells (madeCells #[Value.int .u32 0] N) 126)]
    exact Deep.blk_alloc_new _ _
  · have h := World.rowIs_made X (.int .u32 0) N 126
    exact h.of_block (Deep.blk_alloc_lt _ _ _ (by rw [Deep.nblk_alloc]; omega))
  · exact (((Below.refl _ _).alloc (Nat.le_refl _) _).alloc (by rw [Deep.nblk_alloc]; omega) _).drew
theorem mkGrid2 (X : World) (N R C rt : Nat) (W : World) (hW : W = ((X.alloc (.cells #[.slice (some ⟨X.heap.size + 1, 0, none⟩) N N, .int .i64 (R : Int), .int .i64 (C : Int), .int .u32 (rt : Int)] 128)).alloc (.cells (madeCells #[Value.int .u32 0] N) 126)).drew) :
    GBox W X.heap.size (X.heap.size + 1) N R C rt ∧ W.rowIs (X.heap.size + 1) 126 N (fun _ => .int .u32 0) ∧ Below X.heap.size X W := by
  subst hW
  refine ⟨?_, ?_, ?_⟩
  · show ((X.alloc _).alloc _).heap[X.heap.size]? = _
    exact (Deep.blk_alloc_lt _ _ _ (by rw [Deep.nblk_alloc]; omega)).trans (Deep.blk_alloc_new _ _)
  · have h := World.rowIs_made (X.alloc (.cells #[.slice (some ⟨X.heap.size + 1, 0, none⟩) N N, .int .i64 (R : Int), .int .i64 (C : Int), .int .u32 (rt : Int)] 128)) (.int .u32 0) N 126
    rw [Deep.nblk_alloc] at h
    exact h
  · exact (((Below.refl _ _).alloc (Nat.le_refl _) _).alloc (by rw [Deep.nblk_alloc]; omega) _).drew
theorem nib_next (A : Nat → Int) (q t : Nat) : upd (upd (nib A q) (2 * q) (A q % 16)) (2 * q + 1) (A q / 16) t = nib A (q + 1) t := by
  unfold upd nib
  by_cases e : t = 2 * q + 1
  · subst e; rw [if_pos rfl, if_pos (by omega), if_neg (by omega), show (2 * q + 1) / 2 = q by omega]
  · rw [if_neg e]
    by_cases e2 : t = 2 * q
    · subst e2; rw [if_pos rfl, if_pos (by omega), if_pos (by omega), show 2 * q / 2 = q by omega]
    · rw [if_neg e2]
      by_cases h : t < 2 * q
      · rw [if_pos h, if_pos (show t < 2 * (q + 1) by omega)]
      · rw [if_neg h, if_neg (show ¬ t < 2 * (q + 1) by omega)]
theorem and15 (a : Int) (h0 : 0 ≤ a) (h1 : a ≤ 255) : bits .and .u8 a 15 = a % 16 := by
  rw [u8_and a 15 h0 (by omega) (by decide) (by decide)]
  have : a.toNat &&& (15 : Int).toNat = a.toNat % 16 := Nat.and_two_pow_sub_one_eq_mod a.toNat 4
  rw [this]
  omega

set_option maxRecDepth 100000 in
set_option maxHeartbeats 4000000 in
theorem newGrid_ok (ka kb N R C la cap : Nat) (a : Option Addr) (A : Nat → Int) (w : World) (hka : ka ≤ 11) (hkb : kb ≤ 11) (hkk : (ka + kb) / 2 = ka) (hR : R = 2 ^ ka) (hC : C = 2 ^ kb) (hN : N = R * C) (hla : 2 * la ≤ N)
    (hx : Sl w a la fun i => .int .u8 (A i)) (hA : Bytes A la) :
    Calls Tagg.prog 108 #[.slice a la cap, .int .u8 ((ka + kb : Nat) : Int)] w fun e w' => ∃ g, e = .returned (.agg #[.slice (some ⟨g, 0, none⟩) N N, .int .i64 (R : Int), .int .i64 (C : Int), .int .u32 (rootN (ka + kb) : Nat)]) ∧ w.heap.size ≤ g ∧ w'.rowIs g 126 N (fun i => .int .u32 (nib A la i)) ∧ Below w.heap.size w w' := by
  have hle : 2 ^ ka ≤ 2 ^ 11 := Nat.pow_le_pow_right (by decide) hka
  have hle2 : 2 ^ kb ≤ 2 ^ 11 := Nat.pow_le_pow_right (by decide) hkb
  have hR2 : R ≤ 2048 := by omega
  have hC2 : C ≤ 2048 := by omega
  have hN2 : N ≤ 4194304 := by rw [hN]; exact Nat.le_trans (Nat.mul_le_mul hR2 hC2) (by decide)
  have hRt := root_ok (ka + kb) (by omega)
  obtain ⟨k, hk⟩ : ∃ k, k = ka + kb := ⟨_, rfl⟩
  rw [← hk] at hRt hkk ⊢
  have e1 : (2 : Int) ^ k = (N : Int) := by rw [hN, hR, hC, ← Nat.pow_add, ← hk, Int.natCast_pow]; rfl
  have e2 : (2 : Int) ^ ka = (R : Int) := by rw [hR, Int.natCast_pow]; rfl
  have e3 : (2 : Int) ^ kb = (C : Int) := by rw [hC, Int.natCast_pow]; rfl
  have k1 : (k : Int) / 2 = (ka : Int) := by omega
  have k2 : (k : Int) - (ka : Int) = (kb : Int) := by omega
  have k3 : (k : Int) ≤ 64 := by omega
  have k4 : (ka : Int) ≤ 64 := by omega
  have k5 : (kb : Int) ≤ 64 := by omega
  have v1 : IntKind.i64.wrap (N : Int) = (N : Int) := IntWalk.i64_in _ ⟨by omega, by omega⟩
  have v2 : IntKind.i64.wrap (R : Int) = (R : Int) := IntWalk.i64_in _ ⟨by omega, by omega⟩
  have v3 : IntKind.i64.wrap (C : Int) = (C : Int) := IntWalk.i64_in _ ⟨by omega, by omega⟩
  have v5 : IntKind.u8.wrap (ka : Int) = (ka : Int) := IntWalk.u8_in _ ⟨by omega, by omega⟩
  have v4 : IntKind.u8.wrap (kb : Int) = (kb : Int) := IntWalk.u8_in _ ⟨by omega, by omega⟩
  have hmk := run_make_row' (P := Tagg.prog) 117 126 (.int .u32 0) 4 Tagg.underlying117 Tagg.info126 rfl .i64 .i64 N (by omega) (by omega)
  generalize rootN k = rt at *
  clear hle hle2 hR hC hN hk hkk
  go_enter Tagg.func108, Tagg.ntmps108
  go_wp2_with fail
  generalize eX : w.alloc _ = X
  have hsX : Hid (X.heap.size = w.heap.size + 1) := by show _ = _; rw [← eX]; exact Array.size_push _
  have hbX : Below w.heap.size w X := by rw [← eX]; exact (Below.refl _ _).alloc (Nat.le_refl _) _
  have hRes : Hid (∀ W, Below X.heap.size X W → ∃ z : Array Value, z.size = 4 ∧ W.heap[w.heap.size]? = some (.cells z 128 (0, 0))) := by
    show ∀ W, _ → _
    intro W hW
    refine ⟨_, ?_, (hW.block w.heap.size (by rw [← eX, Deep.nblk_alloc]; omega)).trans (by rw [← eX]; exact Deep.blk_alloc_new _ _)⟩
    rfl
  clear eX
  go_cut [5] (fun v wx => ∃ bb g : Nat, v = .pointer (some ⟨bb, 0, none⟩) ∧ g ≠ bb ∧ X.heap.size ≤ bb ∧ X.heap.size ≤ g ∧ GBox wx bb g N R C rt ∧ wx.rowIs g 126 N (fun _ => .int .u32 0) ∧ Below X.heap.size X wx)
  case first =>
    clear hx hA
    go_region_with (go_at_call 116; with_reducible refine (hRt _).mono ?_; rintro e w1 ⟨rfl, rfl⟩)
    all_goals go_wp2_with fail
    all_goals go_meet
    all_goals first
      | (obtain ⟨m1, m2, m3⟩ := mkGrid1 X N R C rt _ rfl; exact ⟨_, _, rfl, by omega, by omega, by omega, m1, m2, m3⟩)
      | (obtain ⟨m1, m2, m3⟩ := mkGrid2 X N R C rt _ rfl; exact ⟨_, _, rfl, by omega, by omega, by omega, m1, m2, m3⟩)
  case rest =>
    obtain ⟨bb, g, rfl, hgb, hbb, hgg, hG, hrow, hbX2⟩ := hcut
    have hbw : Below w.heap.size w wc := hbX.trans (hbX2.mono hbX.size)
    have hgW : w.grownBy wc (some g) := ⟨hbw.os, hbw.tape, hbw.output, hbw.size, fun k hk _ => hbw.block k hk⟩
    have hbbw : Hid (w.heap.size < bb ∧ w.heap.size < g) := by have := hsX.out; exact ⟨by omega, by omega⟩
    obtain ⟨z, hz4, hzr⟩ := hRes.out wc hbX2
    obtain ⟨z0, z1, z2, z3, rfl⟩ : ∃ z0 z1 z2 z3 : Value, z = #[z0, z1, z2, z3] := by
      rcases z with ⟨l⟩
      match l, hz4 with
      | [a, b, c, d], _ => exact ⟨a, b, c, d, rfl⟩
    have hresH : Hid (wc.heap[w.heap.size]? = some (.cells #[z0, z1, z2, z3] 128 (0, 0))) := hzr
    clear hzr hz4 hRes hRt hmk e1 e2 e3 k1 k2 k3 k4 k5 v1 v2 v3 v4 v5
    go_wp2_with fail
    go_loopw [6] (fun vi wr => ∃ q : Nat, q ≤ la ∧ vi = .int .i64 (q : Int) ∧ wc.grownBy wr (some g) ∧ wr.rowIs g 126 N (fun t => .int .u32 (nib A q t))) (fun vi _ => la - (intOf vi).toNat)
    case atStart => exact ⟨0, by omega, rfl, ⟨rfl, rfl, rfl, Nat.le_refl _, fun _ _ _ => rfl⟩, hrow.congr fun t _ => by rw [nib_zero A 0 t (by omega)]⟩
    case round =>
      clear hrow
      obtain ⟨q, hq, rfl, hgr, hrow⟩ := hrel
      have hB := hG.grown hgr (Ne.symm hgb)
      obtain ⟨c0, c1, c2, c3⟩ := hB.cells
      by_cases hql : q < la
      · obtain ⟨b, off, rfl, cc0⟩ := hx q hql
        have hblt : b < w.heap.size := cell_lt cc0
        have cc1 : wc.cell? ⟨b, off + q, none⟩ = some (.int .u8 (A q)) := (hbw.cell (p := ⟨b, off + q, none⟩) hblt).trans cc0
        have cc : wr.cell? ⟨b, off + q, none⟩ = some (.int .u8 (A q)) := (World.cell?_of_block (hgr.block b (Nat.lt_of_lt_of_le hblt hbw.size) (by have := hbbw.out; simp; omega))).trans cc1
        obtain ⟨a0, a1⟩ := hA q hql
        have b1 := and15 (A q) a0 a1
        have cI := hrow.cell (i := 2 * q) (by omega)
        have cJ := hrow.cell (i := 2 * q + 1) (by omega)
        have fI := hrow.frozen (2 * q)
        have fJ := hrow.frozen (2 * q + 1)
        have i1 : (q : Int) < la := by omega
        have i2 : 2 * (q : Int) < N := by omega
        have i3 : 2 * (q : Int) + 1 < N := by omega
        have i4 : (2 * (q : Int)).toNat = 2 * q := by omega
        have i5 : (2 * (q : Int) + 1).toNat = 2 * q + 1 := by omega
        have v1 : IntKind.i64.wrap (2 * (q : Int)) = 2 * (q : Int) := IntWalk.i64_in _ ⟨by omega, by omega⟩
        have v2 : IntKind.i64.wrap (2 * (q : Int) + 1) = 2 * (q : Int) + 1 := IntWalk.i64_in _ ⟨by omega, by omega⟩
        have hnext : Hid (∀ W', W' = ((wr.setCell ⟨g, 2 * q, none⟩ (.int .u32 (A q % 16))).setCell ⟨g, 2 * q + 1, none⟩ (.int .u32 (A q / 16))).drew → wc.grownBy W' (some g) ∧ W'.rowIs g 126 N (fun t => .int .u32 (nib A (q + 1) t))) := by
          show ∀ W', _ → _
          rintro W' rfl
          refine ⟨grown_drew (grown_set (grown_set hgr 0 _ _) 0 _ _), (row_set (F := Value.int .u32) (row_set (F := Value.int .u32) hrow (2 * q) (A q % 16)) (2 * q + 1) (A q / 16)).congr fun t _ => ?_⟩
          rw [nib_next A q t]
        clear hrow hgr hG hB cc0 cc1 hbw hgW hA hx hbX hbX2
        go_wp2_with fail
        go_region
        all_goals go_wp2
        all_goals exact ⟨⟨q + 1, by omega, by go_num, hnext.out _ rfl⟩, by simp [intOf]; omega⟩
      · have e : q = la := by omega
        subst e
        have hrS := hgr.block w.heap.size (by have := hbw.size; have := hresH.out; obtain ⟨h, _⟩ := Array.getElem?_eq_some_iff.1 this; exact h) (by have := hbbw.out; simp; omega)
        have hrS2 := hrS.trans hresH.out
        have r0 : wr.cell? ⟨w.heap.size, 0, none⟩ = some z0 ∧ wr.cell? ⟨w.heap.size, 1, none⟩ = some z1 ∧ wr.cell? ⟨w.heap.size, 2, none⟩ = some z2 ∧ wr.cell? ⟨w.heap.size, 3, none⟩ = some z3 := by simp [World.cell?, hrS2]
        have rf : wr.frozen? ⟨w.heap.size, 0, none⟩ = false ∧ wr.frozen? ⟨w.heap.size, 1, none⟩ = false ∧ wr.frozen? ⟨w.heap.size, 2, none⟩ = false ∧ wr.frozen? ⟨w.heap.size, 3, none⟩ = false := by simp [World.frozen?, hrS2]
        obtain ⟨r0, r1, r2, r3⟩ := r0
        obtain ⟨f0, f1, f2, f3⟩ := rf
        have hbel : Below w.heap.size w wr := ⟨hgr.os.trans hbw.os, hgr.tape.trans hbw.tape, hgr.output.trans hbw.output, Nat.le_trans hbw.size hgr.size, fun t ht => (hgr.block t (Nat.lt_of_lt_of_le ht hbw.size) (by have := hbbw.out; simp; omega)).trans (hbw.block t ht)⟩
        have hne : w.heap.size ≠ g := by have := hbbw.out; omega
        have hle : w.heap.size ≤ g := by have := hbbw.out; omega
        clear hG hB hgr hx hA hbX hbX2 hbw hgW hrS hrS2
        go_wp2
        refine bodyPost_ret (v := .agg #[.slice (some ⟨g, 0, none⟩) N N, .int .i64 (R : Int), .int .i64 (C : Int), .int .u32 (rt : Int)]) (by simp [results, Tagg.results108, go_sem, r0, r1, r2, r3]) rfl ⟨g, rfl, hle, ?_, ?_⟩
        · exact (((hrow.setOther (by simpa using hne.symm) _).setOther (by simpa using hne.symm) _).setOther (by simpa using hne.symm) _).setOther (by simpa using hne.symm) _
        · exact (((hbel.setCell (Nat.le_refl _) _).setCell (Nat.le_refl _) _).setCell (Nat.le_refl _) _).setCell (Nat.le_refl _) _
end Go.Proofs.Ygctag
