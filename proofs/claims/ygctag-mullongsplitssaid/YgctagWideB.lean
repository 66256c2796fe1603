import Derived.Test.YgctagWideA
namespace Go.Proofs.Ygctag
open Go.RowKit

/-- Columns below c are done. -/
def colAt (back : Bool) (k R C c : Nat) (x : Nat → Int) (i : Nat) : Int := if i % C < c then colT back k R C x i else x i
/-- What is gathered when row r is at its column i. -/
def gath (x : Nat → Int) (C R c r i : Nat) (old : Nat → Int) (t : Nat) : Int := if t % R < r ∨ (t % R = r ∧ t / R < i) then x (t % R * C + c + t / R) else old t
theorem gath_next (x : Nat → Int) (C R c r i : Nat) (old : Nat → Int) (hr : r < R) (t : Nat) : upd (gath x C R c r i old) (i * R + r) (x (r * C + c + i)) t = gath x C R c r (i + 1) old t := by
  unfold upd gath
  by_cases e : t = i * R + r
  · subst e
    rw [if_pos rfl, rc_mod hr, rc_div hr, if_pos (by omega)]
  · rw [if_neg e]
    have : ¬ (t % R = r ∧ t / R = i) := fun h => e (by rw [← h.1, ← h.2, Nat.mul_comm, Nat.div_add_mod])
    by_cases h : t % R < r ∨ (t % R = r ∧ t / R < i)
    · rw [if_pos h, if_pos (by omega)]
    · rw [if_neg h, if_neg (by omega)]
theorem gath_row (x : Nat → Int) (C R c r : Nat) (old : Nat → Int) (t : Nat) (ht : t < 16 * R) : gath x C R c r 16 old t = gath x C R c (r + 1) 0 old t := by
  have hd : t / R < 16 := by rw [Nat.div_lt_iff_lt_mul (by omega)]; exact ht
  unfold gath
  generalize t / R = q at *
  generalize t % R = m at *
  by_cases h : m < r ∨ (m = r ∧ q < 16)
  · rw [if_pos h, if_pos (by omega)]
  · rw [if_neg h, if_neg (by omega)]
/-- The gathered columns, those below i transformed. -/
def chAt (back : Bool) (k R C c i : Nat) (x : Nat → Int) (t : Nat) : Int := if t / R < i then chg back k R (fun r => x (r * C + c + t / R)) (t % R) else x (t % R * C + c + t / R)
theorem gath_done (back : Bool) (k : Nat) (x : Nat → Int) (C R c : Nat) (old : Nat → Int) (t : Nat) (hR : 0 < R) : gath x C R c R 0 old t = chAt back k R C c 0 x t := by
  unfold gath chAt
  have := Nat.mod_lt t hR
  rw [if_pos (.inl this), if_neg (Nat.not_lt_zero _)]
theorem ch_next (back : Bool) (k R C c i : Nat) (x : Nat → Int) (hR : 0 < R) (t : Nat) : splice (i * R) R (chg back k R (fun r => x (r * C + c + i))) (chAt back k R C c i x) t = chAt back k R C c (i + 1) x t := by
  unfold splice
  have hm := Nat.mod_lt t hR
  have hdm := Nat.div_add_mod t R
  by_cases h : i * R ≤ t ∧ t < i * R + R
  · rw [if_pos h]
    have e : t = i * R + (t - i * R) := by omega
    have hd : t / R = i := by rw [e]; exact rc_div (by omega)
    have hmm : t % R = t - i * R := by rw [e]; rw [rc_mod (by omega)]; omega
    unfold chAt
    rw [hd, hmm, if_pos (by omega)]
  · rw [if_neg h]
    have hne : t / R ≠ i := fun e => h (by rw [e, Nat.mul_comm] at hdm; omega)
    unfold chAt
    by_cases h2 : t / R < i
    · rw [if_pos h2, if_pos (by omega)]
    · rw [if_neg h2, if_neg (by omega)]
/-- What is put back when row r is at its column i. -/
def scat (back : Bool) (k R C c r i : Nat) (x : Nat → Int) (t : Nat) : Int := if t % C < c ∨ (t % C < c + 16 ∧ (t / C < r ∨ (t / C = r ∧ t % C < c + i))) then colT back k R C x t else x t
theorem scat_next (back : Bool) (k R C c r i : Nat) (x : Nat → Int) (hi : i < 16) (hc : c + 16 ≤ C) (t : Nat) :
    upd (scat back k R C c r i x) (r * C + c + i) (chg back k R (fun r => x (r * C + c + i)) r) t = scat back k R C c r (i + 1) x t := by
  have hci : c + i < C := by omega
  unfold upd scat
  by_cases e : t = r * C + c + i
  · subst e
    rw [if_pos rfl, Nat.add_assoc, rc_mod hci, rc_div hci, if_pos (by omega)]
    unfold colT
    rw [rc_mod hci, rc_div hci]
    exact chg_congr (fun j _ => by rw [Nat.add_assoc]) _ _ _
  · rw [if_neg e]
    have : ¬ (t / C = r ∧ t % C = c + i) := fun h => e (by rw [← h.1, Nat.add_assoc, ← h.2, Nat.mul_comm, Nat.div_add_mod])
    by_cases h : t % C < c ∨ (t % C < c + 16 ∧ (t / C < r ∨ (t / C = r ∧ t % C < c + i)))
    · rw [if_pos h, if_pos (by omega)]
    · rw [if_neg h, if_neg (by omega)]
theorem scat_zero (back : Bool) (k R C c : Nat) (x : Nat → Int) (t : Nat) : scat back k R C c 0 0 x t = colAt back k R C c x t := by
  unfold scat colAt
  generalize t / C = q at *
  generalize t % C = m at *
  by_cases h : m < c
  · rw [if_pos h, if_pos (by omega)]
  · rw [if_neg h, if_neg (by omega)]
theorem scat_row (back : Bool) (k R C c r : Nat) (x : Nat → Int) (t : Nat) : scat back k R C c r 16 x t = scat back k R C c (r + 1) 0 x t := by
  unfold scat
  by_cases h : t % C < c ∨ (t % C < c + 16 ∧ (t / C < r ∨ (t / C = r ∧ t % C < c + 16)))
  · rw [if_pos h, if_pos (by omega)]
  · rw [if_neg h, if_neg (by omega)]
theorem scat_done (back : Bool) (k R C c : Nat) (x : Nat → Int) (hC : 0 < C) (t : Nat) (ht : t < R * C) : scat back k R C c R 0 x t = colAt back k R C (c + 16) x t := by
  have hd : t / C < R := by rw [Nat.div_lt_iff_lt_mul hC]; exact ht
  unfold scat colAt
  by_cases h : t % C < c + 16
  · rw [if_pos (by omega), if_pos h]
  · rw [if_neg (by omega), if_neg h]
theorem colAt_at (back : Bool) (k R C c : Nat) (x : Nat → Int) (r i : Nat) (hi : c + i < C) : colAt back k R C c x (r * C + c + i) = x (r * C + c + i) := by
  unfold colAt
  rw [Nat.add_assoc, rc_mod hi, if_neg (by omega)]
theorem chAt_at (back : Bool) (k R C c : Nat) (x : Nat → Int) (r i : Nat) (hr : r < R) (hi : i < 16) : chAt back k R C c 16 x (i * R + r) = chg back k R (fun r => x (r * C + c + i)) r := by
  unfold chAt
  rw [rc_mod hr, rc_div hr, if_pos hi]
theorem chAt_bound (back : Bool) (k R C c : Nat) (x : Nat → Int) (t : Nat) (hR : 0 < R) (ht : t < 16 * R) : 0 ≤ chAt back k R C c 16 x t ∧ chAt back k R C c 16 x t < 998244353 := by
  have hd : t / R < 16 := by rw [Nat.div_lt_iff_lt_mul hR]; exact ht
  unfold chAt
  rw [if_pos hd]
  exact chg_bound _ _ _ _ _

set_option maxRecDepth 100000 in
set_option maxHeartbeats 4000000 in
theorem eachColumn_ok (k hb xb N R C rt : Nat) (back : Bool) (x : Nat → Int) (w : World) (hk : k ≤ 11) (hR : R = 2 ^ k) (hC : ∃ m, C = 16 * m) (hC0 : 0 < C) (hC2 : C ≤ 2048) (hN : N = R * C) (hne : hb ≠ xb)
    (hg : GBox w hb xb N R C rt) (hx : w.rowIs xb 126 N (fun i => .int .u32 (x i))) (hxb : ∀ i, i < N → 0 ≤ x i ∧ x i < 998244353) :
    Calls Tagg.prog 117 #[.pointer (some ⟨hb, 0, none⟩), .bool back] w fun e w' => (∃ v, e = .returned v) ∧ w'.rowIs xb 126 N (fun i => .int .u32 (colT back k R C x i)) ∧ w.grownBy w' (some xb) := by
  have hle : 2 ^ k ≤ 2 ^ 11 := Nat.pow_le_pow_right (by decide) hk
  have hR2 : R ≤ 2048 := by omega
  have hR0 : 0 < R := by rw [hR]; exact Nat.two_pow_pos k
  have hRH : Hid (R = 2 ^ k) := hR
  have hCH : Hid (∃ m, C = 16 * m) := hC
  have hNH : Hid (N = R * C) := hN
  have hN2 : N ≤ 4194304 := by rw [hN]; exact Nat.le_trans (Nat.mul_le_mul hR2 hC2) (by decide)
  obtain ⟨c0, c1, c2, c3⟩ := hg.cells
  obtain ⟨RR, hRR⟩ : ∃ RR, RR = 16 * R := ⟨_, rfl⟩
  have e1 : 16 * (R : Int) = (RR : Int) := by omega
  have v1 : IntKind.i64.wrap (RR : Int) = (RR : Int) := IntWalk.i64_in _ ⟨by omega, by omega⟩
  have hmk := run_make_row' (P := Tagg.prog) 117 126 (.int .u32 0) 4 Tagg.underlying117 Tagg.info126 rfl .i64 .i64 RR (by omega) (by omega)
  have hRRH : Hid (RR = 16 * R) := hRR
  have hRR2 : RR ≤ 32768 := by omega
  clear hR hC hN hle hRR
  go_enter Tagg.func117, Tagg.ntmps117
  go_wp2_with fail
  generalize eX : w.alloc _ = X
  have hrX : X.rowIs w.heap.size 126 RR (fun _ => .int .u32 0) := by rw [← eX]; exact made_at rfl _ _ _
  have hbX : Below w.heap.size w X := by rw [← eX]; exact (Below.refl _ _).alloc (Nat.le_refl _) _
  have hgX : w.grownBy X (some xb) := ⟨hbX.os, hbX.tape, hbX.output, hbX.size, fun k hk _ => hbX.block k hk⟩
  have hxX := hx.of_block (hbX.block xb hx.lt)
  have hrb : Hid (xb < w.heap.size ∧ hb < w.heap.size) := ⟨hx.lt, hg.lt⟩
  clear eX hmk hbX e1 v1 c0 c1 c2 c3
  obtain ⟨rb, hrbe⟩ : ∃ rb, rb = w.heap.size := ⟨_, rfl⟩
  rw [← hrbe] at hrX hrb ⊢
  have hxr : xb ≠ rb := by have := hrb.out; omega
  have hhr : hb ≠ rb := by have := hrb.out; omega
  have hrbH : Hid (rb = w.heap.size) := hrbe
  clear hrbe
  -- one store into the room
  have stR : Hid (∀ (W : World) (F : Nat → Int) (t : Nat) (v : Int), w.grownBy W (some xb) → w.grownBy (W.setCell ⟨rb, t, none⟩ (.int .u32 v)) (some xb)) := by
    show ∀ (W : World) (F : Nat → Int) (t : Nat) (v : Int), _ → _
    intro W F t v h
    exact ⟨h.os, h.tape, h.output, by rw [Deep.nblk_setCell]; exact h.size, fun k hk hne => (Deep.blk_setCell_other _ _ _ _ (by intro e; have := hrbH.out; dsimp only at e; omega)).trans (h.block k hk hne)⟩
  go_loopw [6] (fun vc wr => ∃ c : Nat, c ≤ C ∧ (∃ m, c = 16 * m) ∧ vc = .int .i64 (c : Int) ∧ w.grownBy wr (some xb) ∧ wr.rowIs xb 126 N (fun i => .int .u32 (colAt back k R C c x i)) ∧ ∃ Y : Nat → Int, wr.rowIs rb 126 RR (fun i => .int .u32 (Y i))) (fun vc _ => C - (intOf vc).toNat)
  case atStart => exact ⟨0, by omega, ⟨0, rfl⟩, rfl, hgX, hxX.congr (fun i _ => by unfold colAt; rw [if_neg (by omega)]), _, hrX⟩
  case round =>
    clear hgX hxX hrX
    obtain ⟨c, hc, hcm, rfl, hgr, hxr1, Y, hY⟩ := hrel
    have hB := hg.grown hgr hne
    obtain ⟨c0, c1, c2, c3⟩ := hB.cells
    by_cases hlt : c < C
    · have i1 : (c : Int) < C := by omega
      have hc16 : c + 16 ≤ C := by obtain ⟨m, e⟩ := hcm; obtain ⟨m', e'⟩ := hCH.out; omega
      have hcmH : Hid (∃ m, c = 16 * m) := hcm
      clear hcm
      go_upto_block 2 with fail
      go_cut [7, 8, 9] (fun _ _ _ wx => w.grownBy wx (some xb) ∧ wx.rowIs xb 126 N (fun i => .int .u32 (colAt back k R C c x i)) ∧ wx.rowIs rb 126 RR (fun i => .int .u32 (chAt back k R C c 0 x i)))
      case first =>
        go_wp2_with fail
        go_loopw [7, 8, 9] (fun vr _ _ w2 => ∃ r : Nat, r ≤ R ∧ vr = .int .i64 (r : Int) ∧ w.grownBy w2 (some xb) ∧ w2.rowIs xb 126 N (fun i => .int .u32 (colAt back k R C c x i)) ∧ w2.rowIs rb 126 RR (fun i => .int .u32 (gath x C R c r 0 Y i))) (fun vr _ _ _ => R - (intOf vr).toNat)
        case atStart => exact ⟨0, by omega, rfl, hgr, hxr1, hY.congr (fun i _ => by unfold gath; rw [if_neg (by rintro (h | ⟨_, h⟩) <;> exact absurd h (Nat.not_lt_zero _))])⟩
        case round =>
          clear hgr hxr1 hY hB c0 c1 c2 c3
          obtain ⟨r, hr, rfl, hgr, hxr1, hY⟩ := hrel
          have hB := hg.grown hgr hne
          obtain ⟨c0, c1, c2, c3⟩ := hB.cells
          by_cases hrl : r < R
          · have j1 : (r : Int) < R := by omega
            obtain ⟨rc, hrc⟩ : ∃ rc, rc = r * C := ⟨_, rfl⟩
            have d1 : (r : Int) * (C : Int) = (rc : Int) := by rw [hrc, Int.natCast_mul]
            have hrcN : rc + C ≤ N := by
              have : (r + 1) * C ≤ R * C := Nat.mul_le_mul_right _ hrl
              rw [Nat.add_mul, Nat.one_mul, ← hrc, ← hNH.out] at this
              exact this
            have v1 : IntKind.i64.wrap (rc : Int) = (rc : Int) := IntWalk.i64_in _ ⟨by omega, by omega⟩
            have v2 : IntKind.i64.wrap ((rc : Int) + c) = (rc : Int) + c := IntWalk.i64_in _ ⟨by omega, by omega⟩
            have v3 : IntKind.i64.wrap ((rc : Int) + c + 16) = (rc : Int) + c + 16 := IntWalk.i64_in _ ⟨by omega, by omega⟩
            have j2 : (rc : Int) + c + 16 ≤ N := by omega
            have j3 : ((rc : Int) + c).toNat = rc + c := by omega
            have j4 : ((rc : Int) + c + 16).toNat = rc + c + 16 := by omega
            have j5 : rc + c + 16 - (rc + c) = 16 := by omega
            have j6 : 0 ≤ (rc : Int) + c := by omega
            have hrcH : Hid (rc = r * C) := hrc
            clear hrc
            go_wp2_with fail
            go_quiet (fail)
            go_wp2_with fail
            have hgr' : w.grownBy (wr.drewN nq) (some xb) := ⟨hgr.os, hgr.tape, hgr.output, hgr.size, hgr.block⟩
            have hxr' := row_draws hxr1 nq
            have hY' := row_draws hY nq
            generalize wr.drewN nq = w3 at *
            clear hgr hxr1 hY hB c0 c1 c2 c3 v1 v2 v3 j2 j3 j4 j5 j6 d1
            go_loopw [9] (fun vi w4 => ∃ i : Nat, i ≤ 16 ∧ vi = .int .i64 (i : Int) ∧ w.grownBy w4 (some xb) ∧ w4.rowIs xb 126 N (fun i => .int .u32 (colAt back k R C c x i)) ∧ w4.rowIs rb 126 RR (fun t => .int .u32 (gath x C R c r i Y t))) (fun vi _ => 16 - (intOf vi).toNat)
            case atStart => exact ⟨0, by omega, rfl, hgr', hxr', hY'⟩
            case round =>
              clear hgr' hxr' hY'
              obtain ⟨i, hi, rfl, hgr, hxr1, hY⟩ := hrel
              by_cases hil : i < 16
              · obtain ⟨ir, hir⟩ : ∃ ir, ir = i * R := ⟨_, rfl⟩
                have d1 : (i : Int) * (R : Int) = (ir : Int) := by rw [hir, Int.natCast_mul]
                have hirN : ir + R ≤ RR := by
                  have : (i + 1) * R ≤ 16 * R := Nat.mul_le_mul_right _ hil
                  rw [Nat.add_mul, Nat.one_mul, ← hir, ← hRRH.out] at this
                  exact this
                have cX := hxr1.cell (i := rc + c + i) (by omega)
                have eX : colAt back k R C c x (rc + c + i) = x (rc + c + i) := by rw [hrcH.out]; exact colAt_at back k R C c x r i (by omega)
                rw [eX] at cX
                have cR := hY.cell (i := ir + r) (by omega)
                have fR := hY.frozen (ir + r)
                have hnext : Hid (∀ W', W' = wr.setCell ⟨rb, ir + r, none⟩ (.int .u32 (x (rc + c + i))) → w.grownBy W' (some xb) ∧ W'.rowIs xb 126 N (fun i => .int .u32 (colAt back k R C c x i)) ∧ W'.rowIs rb 126 RR (fun t => .int .u32 (gath x C R c r (i + 1) Y t))) := by
                  show ∀ W', _ → _
                  rintro W' rfl
                  refine ⟨stR.out _ x _ _ hgr, hxr1.of_block (Deep.blk_setCell_other _ _ _ _ hxr), (row_set (F := Value.int .u32) hY (ir + r) (x (rc + c + i))).congr fun t _ => ?_⟩
                  rw [hir, hrcH.out, gath_next x C R c r i Y hrl t]
                have j1 : (i : Int) < 16 := by omega
                have j2 : (ir : Int) + r < RR := by omega
                have j3 : ((ir : Int) + r).toNat = ir + r := by omega
                have j4 : 0 ≤ (ir : Int) + r := by omega
                have v1 : IntKind.i64.wrap (ir : Int) = (ir : Int) := IntWalk.i64_in _ ⟨by omega, by omega⟩
                have v2 : IntKind.i64.wrap ((ir : Int) + r) = (ir : Int) + r := IntWalk.i64_in _ ⟨by omega, by omega⟩
                clear hir hgr hxr1 hY eX
                go_wp2
                exact ⟨⟨i + 1, by omega, by go_num, hnext.out _ rfl⟩, by simp [intOf]; omega⟩
              · have e : i = 16 := by omega
                subst e
                have hfin : Hid (w.grownBy wr (some xb) ∧ wr.rowIs xb 126 N (fun i => .int .u32 (colAt back k R C c x i)) ∧ wr.rowIs rb 126 RR (fun i => .int .u32 (gath x C R c (r + 1) 0 Y i))) := ⟨hgr, hxr1, hY.congr fun t ht => by rw [gath_row x C R c r Y t (by rw [← hRRH.out]; exact ht)]⟩
                clear hgr hxr1 hY
                go_wp2
                exact ⟨⟨r + 1, by omega, by go_num, hfin.out⟩, by simp [intOf]; omega⟩
          · have e : r = R := by omega
            subst e
            have hfin : Hid (w.grownBy wr (some xb) ∧ wr.rowIs xb 126 N (fun i => .int .u32 (colAt back k r C c x i)) ∧ wr.rowIs rb 126 RR (fun i => .int .u32 (chAt back k r C c 0 x i))) := ⟨hgr, hxr1, hY.congr fun t ht => by rw [gath_done back k x C r c Y t hR0]⟩
            clear hgr hxr1 hY
            go_wp2
            go_meet
            exact hfin.out
      case rest =>
        clear hgr hxr1 hY hB c0 c1 c2 c3
        obtain ⟨hgr, hxr1, hY⟩ := hcut
        go_upto_block 6 with fail
        go_cut [10] (fun _ wx => w.grownBy wx (some xb) ∧ wx.rowIs xb 126 N (fun i => .int .u32 (colAt back k R C c x i)) ∧ wx.rowIs rb 126 RR (fun i => .int .u32 (chAt back k R C c 16 x i)))
        case first =>
          go_wp2_with fail
          go_loopw [10] (fun vi w2 => ∃ i : Nat, i ≤ 16 ∧ vi = .int .i64 (i : Int) ∧ w.grownBy w2 (some xb) ∧ w2.rowIs xb 126 N (fun i => .int .u32 (colAt back k R C c x i)) ∧ w2.rowIs rb 126 RR (fun t => .int .u32 (chAt back k R C c i x t))) (fun vi _ => 16 - (intOf vi).toNat)
          case atStart => exact ⟨0, by omega, rfl, hgr, hxr1, hY⟩
          case round =>
            clear hgr hxr1 hY
            obtain ⟨i, hi, rfl, hgr, hxr1, hY⟩ := hrel
            by_cases hil : i < 16
            · obtain ⟨ir, hir⟩ : ∃ ir, ir = i * R := ⟨_, rfl⟩
              have d1 : (i : Int) * (R : Int) = (ir : Int) := by rw [hir, Int.natCast_mul]
              have d2 : ((i : Int) + 1) * (R : Int) = (ir : Int) + R := by rw [Int.add_mul, Int.one_mul, d1]
              have hirN : ir + R ≤ RR := by
                have : (i + 1) * R ≤ 16 * R := Nat.mul_le_mul_right _ hil
                rw [Nat.add_mul, Nat.one_mul, ← hir, ← hRRH.out] at this
                exact this
              have hpart := ((Vec.of_row (f := fun _ => 0) hY).part hirN).congr (G := fun r => x (r * C + c + i)) (fun j hj => by
                show chAt back k R C c i x (ir + j) = _
                rw [hir]
                unfold chAt
                rw [rc_div hj, rc_mod hj, if_neg (by omega)])
              rw [Nat.zero_add] at hpart
              have hCh := change_ok k rb RR ir R R back (fun r => x (r * C + c + i)) (splice 0 RR (chAt back k R C c i x) (fun _ => 0)) wr hk hRH.out (Nat.le_refl _) hpart (fun r hr => by
                apply hxb
                rw [hNH.out, Nat.add_assoc]
                exact rc_lt hr (by omega))
              have hback : Hid (∀ w', Vec w' rb RR ir R (chg back k R (fun r => x (r * C + c + i))) (splice 0 RR (chAt back k R C c i x) (fun _ => 0)) → w'.rowIs rb 126 RR (fun t => .int .u32 (chAt back k R C c (i + 1) x t))) := by
                show ∀ w', _ → _
                intro w' hv
                have hv2 : Vec w' rb RR 0 RR (splice ir R (chg back k R (fun r => x (r * C + c + i))) (chAt back k R C c i x)) (fun _ => 0) := Vec.whole (by rw [Nat.zero_add]; exact hv) hirN (by omega)
                refine hv2.2.congr fun t ht => ?_
                show Value.int .u32 (splice 0 RR _ _ t) = _
                rw [splice.eq_1 0 RR, if_pos (by omega), Nat.sub_zero, hir, ch_next back k R C c i x hR0 t]
              have j1 : (i : Int) < 16 := by omega
              have j2 : (ir : Int) + R ≤ RR := by omega
              have j3 : ((ir : Int) + R).toNat = ir + R := by omega
              have j4 : 0 ≤ (ir : Int) + R := by omega
              have j5 : ¬ R = 0 := by omega
              have v1 : IntKind.i64.wrap (ir : Int) = (ir : Int) := IntWalk.i64_in _ ⟨by omega, by omega⟩
              have v2 : IntKind.i64.wrap ((ir : Int) + R) = (ir : Int) + R := IntWalk.i64_in _ ⟨by omega, by omega⟩
              clear hir hpart hY
              go_wp2_with fail
              with_reducible refine hCh.mono ?_
              rintro e w4 ⟨⟨v, rfl⟩, hv4, hg4⟩
              have hfin : Hid (w.grownBy w4 (some xb) ∧ w4.rowIs xb 126 N (fun i => .int .u32 (colAt back k R C c x i)) ∧ w4.rowIs rb 126 RR (fun t => .int .u32 (chAt back k R C c (i + 1) x t))) := by
                refine ⟨⟨hg4.os.trans hgr.os, hg4.tape.trans hgr.tape, hg4.output.trans hgr.output, Nat.le_trans hgr.size hg4.size, fun t ht hne => ?_⟩, hxr1.of_block (hg4.block xb hxr1.lt (by simpa using hxr)), hback.out _ hv4⟩
                refine (hg4.block t (Nat.lt_of_lt_of_le ht hgr.size) ?_).trans (hgr.block t ht hne)
                have := hrbH.out
                simp; omega
              clear hv4 hg4 hCh hback hgr hxr1
              go_wp2
              exact ⟨⟨i + 1, by omega, by go_num, hfin.out⟩, by simp [intOf]; omega⟩
            · have e : i = 16 := by omega
              subst e
              have hfin : Hid (w.grownBy wr (some xb) ∧ wr.rowIs xb 126 N (fun i => .int .u32 (colAt back k R C c x i)) ∧ wr.rowIs rb 126 RR (fun i => .int .u32 (chAt back k R C c 16 x i))) := ⟨hgr, hxr1, hY⟩
              clear hgr hxr1 hY
              go_wp2
              go_meet
              exact hfin.out
        case rest =>
          clear hgr hxr1 hY
          obtain ⟨hgr, hxr1, hY⟩ := hcut
          go_wp2_with fail
          go_loopw [11, 12, 13] (fun vr _ _ w2 => ∃ r : Nat, r ≤ R ∧ vr = .int .i64 (r : Int) ∧ w.grownBy w2 (some xb) ∧ w2.rowIs xb 126 N (fun i => .int .u32 (scat back k R C c r 0 x i)) ∧ w2.rowIs rb 126 RR (fun i => .int .u32 (chAt back k R C c 16 x i))) (fun vr _ _ _ => R - (intOf vr).toNat)
          case atStart => exact ⟨0, by omega, rfl, hgr, hxr1.congr (fun i _ => by rw [scat_zero]), hY⟩
          case round =>
            clear hgr hxr1 hY
            obtain ⟨r, hr, rfl, hgr, hxr1, hY⟩ := hrel
            have hB := hg.grown hgr hne
            obtain ⟨c0, c1, c2, c3⟩ := hB.cells
            by_cases hrl : r < R
            · have j1 : (r : Int) < R := by omega
              obtain ⟨rc, hrc⟩ : ∃ rc, rc = r * C := ⟨_, rfl⟩
              have d1 : (r : Int) * (C : Int) = (rc : Int) := by rw [hrc, Int.natCast_mul]
              have hrcN : rc + C ≤ N := by
                have : (r + 1) * C ≤ R * C := Nat.mul_le_mul_right _ hrl
                rw [Nat.add_mul, Nat.one_mul, ← hrc, ← hNH.out] at this
                exact this
              have v1 : IntKind.i64.wrap (rc : Int) = (rc : Int) := IntWalk.i64_in _ ⟨by omega, by omega⟩
              have v2 : IntKind.i64.wrap ((rc : Int) + c) = (rc : Int) + c := IntWalk.i64_in _ ⟨by omega, by omega⟩
              have v3 : IntKind.i64.wrap ((rc : Int) + c + 16) = (rc : Int) + c + 16 := IntWalk.i64_in _ ⟨by omega, by omega⟩
              have j2 : (rc : Int) + c + 16 ≤ N := by omega
              have j3 : ((rc : Int) + c).toNat = rc + c := by omega
              have j4 : ((rc : Int) + c + 16).toNat = rc + c + 16 := by omega
              have j5 : rc + c + 16 - (rc + c) = 16 := by omega
              have j6 : 0 ≤ (rc : Int) + c := by omega
              have hrcH : Hid (rc = r * C) := hrc
              clear hrc
              go_wp2_with fail
              go_quiet (fail)
              go_wp2_with fail
              have hgr' : w.grownBy (wr.drewN nq) (some xb) := ⟨hgr.os, hgr.tape, hgr.output, hgr.size, hgr.block⟩
              have hxr' := row_draws hxr1 nq
              have hY' := row_draws hY nq
              generalize wr.drewN nq = w3 at *
              clear hgr hxr1 hY hB c0 c1 c2 c3 v1 v2 v3 j2 j3 j4 j5 j6 d1
              go_loopw [13] (fun vi w4 => ∃ i : Nat, i ≤ 16 ∧ vi = .int .i64 (i : Int) ∧ w.grownBy w4 (some xb) ∧ w4.rowIs xb 126 N (fun t => .int .u32 (scat back k R C c r i x t)) ∧ w4.rowIs rb 126 RR (fun i => .int .u32 (chAt back k R C c 16 x i))) (fun vi _ => 16 - (intOf vi).toNat)
              case atStart => exact ⟨0, by omega, rfl, hgr', hxr', hY'⟩
              case round =>
                clear hgr' hxr' hY'
                obtain ⟨i, hi, rfl, hgr, hxr1, hY⟩ := hrel
                by_cases hil : i < 16
                · obtain ⟨ir, hir⟩ : ∃ ir, ir = i * R := ⟨_, rfl⟩
                  have d1 : (i : Int) * (R : Int) = (ir : Int) := by rw [hir, Int.natCast_mul]
                  have hirN : ir + R ≤ RR := by
                    have : (i + 1) * R ≤ 16 * R := Nat.mul_le_mul_right _ hil
                    rw [Nat.add_mul, Nat.one_mul, ← hir, ← hRRH.out] at this
                    exact this
                  have cR := hY.cell (i := ir + r) (by omega)
                  have cX := hxr1.cell (i := rc + c + i) (by omega)
                  have fX := hxr1.frozen (rc + c + i)
                  have eR : chAt back k R C c 16 x (ir + r) = chg back k R (fun r => x (r * C + c + i)) r := by rw [hir]; exact chAt_at back k R C c x r i hrl hil
                  rw [eR] at cR
                  obtain ⟨V, hV⟩ : ∃ V, V = chg back k R (fun r => x (r * C + c + i)) r := ⟨_, rfl⟩
                  rw [← hV] at cR
                  have hnext : Hid (∀ W', W' = wr.setCell ⟨xb, rc + c + i, none⟩ (.int .u32 V) → w.grownBy W' (some xb) ∧ W'.rowIs xb 126 N (fun t => .int .u32 (scat back k R C c r (i + 1) x t)) ∧ W'.rowIs rb 126 RR (fun i => .int .u32 (chAt back k R C c 16 x i))) := by
                    show ∀ W', _ → _
                    rintro W' rfl
                    refine ⟨grown_set hgr 0 _ _, (row_set (F := Value.int .u32) hxr1 (rc + c + i) V).congr fun t _ => ?_, hY.of_block (Deep.blk_setCell_other _ _ _ _ (Ne.symm hxr))⟩
                    rw [hrcH.out, hV, scat_next back k R C c r i x hil hc16 t]
                  have j1 : (i : Int) < 16 := by omega
                  have j2 : (ir : Int) + r < RR := by omega
                  have j3 : ((ir : Int) + r).toNat = ir + r := by omega
                  have j4 : 0 ≤ (ir : Int) + r := by omega
                  have v1 : IntKind.i64.wrap (ir : Int) = (ir : Int) := IntWalk.i64_in _ ⟨by omega, by omega⟩
                  have v2 : IntKind.i64.wrap ((ir : Int) + r) = (ir : Int) + r := IntWalk.i64_in _ ⟨by omega, by omega⟩
                  clear hir hgr hxr1 hY eR hV
                  go_wp2
                  exact ⟨⟨i + 1, by omega, by go_num, hnext.out _ rfl⟩, by simp [intOf]; omega⟩
                · have e : i = 16 := by omega
                  subst e
                  have hfin : Hid (w.grownBy wr (some xb) ∧ wr.rowIs xb 126 N (fun i => .int .u32 (scat back k R C c (r + 1) 0 x i)) ∧ wr.rowIs rb 126 RR (fun i => .int .u32 (chAt back k R C c 16 x i))) := ⟨hgr, hxr1.congr fun t ht => by rw [scat_row], hY⟩
                  clear hgr hxr1 hY
                  go_wp2
                  exact ⟨⟨r + 1, by omega, by go_num, hfin.out⟩, by simp [intOf]; omega⟩
            · have e : r = R := by omega
              subst e
              have hfin : Hid (w.grownBy wr (some xb) ∧ wr.rowIs xb 126 N (fun i => .int .u32 (colAt back k r C (c + 16) x i)) ∧ ∃ Y : Nat → Int, wr.rowIs rb 126 RR (fun i => .int .u32 (Y i))) := ⟨hgr, hxr1.congr fun t ht => by rw [scat_done back k r C c x hC0 t (by rw [← hNH.out]; exact ht)], _, hY⟩
              have hm' : Hid (∃ m, c + 16 = 16 * m) := by obtain ⟨m, e⟩ := hcmH.out; exact ⟨m + 1, by omega⟩
              clear hgr hxr1 hY
              go_wp2
              exact ⟨⟨c + 16, by omega, hm'.out, by go_num, hfin.out⟩, by simp [intOf]; omega⟩
    · have e : c = C := by omega
      subst e
      have hfin : Hid (wr.rowIs xb 126 N (fun i => .int .u32 (colT back k R c x i)) ∧ w.grownBy wr (some xb)) := ⟨hxr1.congr fun t ht => by unfold colAt; rw [if_pos (Nat.mod_lt _ hC0)], hgr⟩
      clear hgr hxr1 hY
      go_wp2
      go_end0
      exact ⟨⟨_, rfl⟩, hfin.out.1, hfin.out.2⟩
end Go.Proofs.Ygctag
