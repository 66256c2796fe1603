import Derived.Test.YgctagWideC
namespace Go.Proofs.Ygctag
open Go.RowKit

def rowAt (back : Bool) (k C r : Nat) (x : Nat → Int) (t : Nat) : Int := if t / C < r then rowT back k C x t else x t
theorem rowAt_next (back : Bool) (k C r : Nat) (x : Nat → Int) (hC : 0 < C) (t : Nat) : splice (r * C) C (chg back k C (fun c => x (r * C + c))) (rowAt back k C r x) t = rowAt back k C (r + 1) x t := by
  unfold splice
  have hm := Nat.mod_lt t hC
  have hdm := Nat.div_add_mod t C
  by_cases h : r * C ≤ t ∧ t < r * C + C
  · rw [if_pos h]
    have e : t = r * C + (t - r * C) := by omega
    have hd : t / C = r := by rw [e]; exact rc_div (by omega)
    have hmm : t % C = t - r * C := by rw [e]; rw [rc_mod (by omega)]; omega
    unfold rowAt rowT
    rw [hd, hmm, if_pos (by omega)]
  · rw [if_neg h]
    have hne : t / C ≠ r := fun e => h (by rw [e, Nat.mul_comm] at hdm; omega)
    unfold rowAt
    by_cases h2 : t / C < r
    · rw [if_pos h2, if_pos (by omega)]
    · rw [if_neg h2, if_neg (by omega)]
/-- One row's transform, in the words of the grid. -/
theorem rowAt_step (back : Bool) (k xb N C r : Nat) (x : Nat → Int) (W : World) (hC : 0 < C) (hr : (r + 1) * C ≤ N) (h : W.rowIs xb 126 N (fun t => .int .u32 (rowAt back k C r x t))) :
    Vec W xb N (r * C) C (fun c => x (r * C + c)) (splice 0 N (rowAt back k C r x) (fun _ => 0)) ∧
    ∀ W', Vec W' xb N (r * C) C (chg back k C (fun c => x (r * C + c))) (splice 0 N (rowAt back k C r x) (fun _ => 0)) → W'.rowIs xb 126 N (fun t => .int .u32 (rowAt back k C (r + 1) x t)) := by
  rw [Nat.add_mul, Nat.one_mul] at hr
  constructor
  · have hpart := ((Vec.of_row (f := fun _ => 0) h).part hr).congr (G := fun c => x (r * C + c)) (fun j hj => by
      show rowAt back k C r x (r * C + j) = _
      unfold rowAt
      rw [rc_div hj, if_neg (by omega)])
    rw [Nat.zero_add] at hpart
    exact hpart
  · intro W' hv
    have hv2 : Vec W' xb N 0 N (splice (r * C) C (chg back k C (fun c => x (r * C + c))) (rowAt back k C r x)) (fun _ => 0) := Vec.whole (by rw [Nat.zero_add]; exact hv) hr (by omega)
    refine hv2.2.congr fun t ht => ?_
    show Value.int .u32 (splice 0 N _ _ t) = _
    rw [splice.eq_1 0 N, if_pos (by omega), Nat.sub_zero, rowAt_next back k C r x hC t]
theorem grown_drewN {X w : World} {g : Option Nat} (h : X.grownBy w g) (d : Nat) : X.grownBy (w.drewN d) g := ⟨h.os, h.tape, h.output, h.size, h.block⟩

set_option maxRecDepth 100000 in
set_option maxHeartbeats 4000000 in
theorem gforward_ok (ka kb hb xb N R C : Nat) (x : Nat → Int) (w : World) (hka : ka ≤ 11) (hR : R = 2 ^ ka) (hkb : kb ≤ 11) (hkb4 : 4 ≤ kb) (hC : C = 2 ^ kb) (hN : N = R * C) (hne : hb ≠ xb)
    (hg : GBox w hb xb N R C (rootN (ka + kb))) (hx : w.rowIs xb 126 N (fun i => .int .u32 (x i))) (hxb : ∀ i, i < N → 0 ≤ x i ∧ x i < 998244353) :
    Calls Tagg.prog 109 #[.pointer (some ⟨hb, 0, none⟩)] w fun e w' => (∃ v, e = .returned v) ∧ w'.rowIs xb 126 N (fun i => .int .u32 (fwdT ka kb R C x i)) ∧ w.grownBy w' (some xb) := by
  have hle : 2 ^ ka ≤ 2 ^ 11 := Nat.pow_le_pow_right (by decide) hka
  have hle2 : 2 ^ kb ≤ 2 ^ 11 := Nat.pow_le_pow_right (by decide) hkb
  have hR2 : R ≤ 2048 := by omega
  have hC2 : C ≤ 2048 := by omega
  have hC0 : 0 < C := by rw [hC]; exact Nat.two_pow_pos kb
  have hC16 : ∃ m, C = 16 * m := ⟨2 ^ (kb - 4), by rw [hC, show kb = 4 + (kb - 4) by omega, Nat.pow_add, show 4 + (kb - 4) - 4 = kb - 4 by omega]⟩
  have hN2 : N ≤ 4194304 := by rw [hN]; exact Nat.le_trans (Nat.mul_le_mul hR2 hC2) (by decide)
  have hCH : Hid (C = 2 ^ kb) := hC
  have hNH : Hid (N = R * C) := hN
  have hE := eachColumn_ok ka hb xb N R C (rootN (ka + kb)) false x w hka hR hC16 hC0 hC2 hN hne hg hx hxb
  have hT := fun W y hg hx hxb => twist_ok hb xb N R C (rootN (ka + kb)) (rootN (ka + kb)) y W (rootN_lt _) hR2 hC0 hC2 hN hne hg hx hxb
  have hfw : Hid (fwdT ka kb R C x = rowT false kb C (twT (rootN (ka + kb) : Nat) C (colT false ka R C x))) := rfl
  have hcb : ∀ i, 0 ≤ colT false ka R C x i ∧ colT false ka R C x i < 998244353 := fun i => chg_bound _ _ _ _ _
  generalize colT false ka R C x = y1 at *
  generalize rootN (ka + kb) = rt at *
  clear hC hN hR hle hle2 hC16
  go_enter Tagg.func109, Tagg.ntmps109
  go_wp2_with fail
  with_reducible refine hE.mono ?_
  rintro e w1 ⟨⟨v, rfl⟩, hx1, hg1⟩
  have hB1 := hg.grown hg1 hne
  have hT1 := hT w1 y1 hB1 hx1 (fun i _ => hcb i)
  obtain ⟨c0, c1, c2, c3⟩ := hB1.cells
  have hcb2 := tw_bound rt C y1
  generalize twT rt C y1 = y2 at *
  clear hE hT hx1 hcb
  go_wp2_with fail
  with_reducible refine hT1.mono ?_
  rintro e w2 ⟨⟨v, rfl⟩, hx2, hg2⟩
  have hg3 := hg1.trans hg2
  clear hT1 hB1 c0 c1 c2 c3 hg1 hg2
  go_wp2_with fail
  go_loopw [2] (fun vr wr => ∃ r : Nat, r ≤ R ∧ vr = .int .i64 (r : Int) ∧ w.grownBy wr (some xb) ∧ wr.rowIs xb 126 N (fun t => .int .u32 (rowAt false kb C r y2 t))) (fun vr _ => R - (intOf vr).toNat)
  case atStart => exact ⟨0, by omega, rfl, hg3, hx2.congr fun t _ => by unfold rowAt; rw [if_neg (Nat.not_lt_zero _)]⟩
  case round =>
    clear hg3 hx2
    obtain ⟨r, hr, rfl, hgr, hxr⟩ := hrel
    have hB := hg.grown hgr hne
    obtain ⟨c0, c1, c2, c3⟩ := hB.cells
    by_cases hrl : r < R
    · have j1 : (r : Int) < R := by omega
      have hrcN : (r + 1) * C ≤ N := by rw [hNH.out]; exact Nat.mul_le_mul_right _ hrl
      have hrow := row119 hb xb N R C rt r wr hB hrcN hN2 hC0 (by omega) (by omega)
      obtain ⟨hV, hback⟩ := rowAt_step false kb xb N C r y2 wr hC0 hrcN hxr
      have hF := fun d => forward_ok kb xb N (r * C) C C (fun c => y2 (r * C + c)) (splice 0 N (rowAt false kb C r y2) (fun _ => 0)) (wr.drewN d) hkb hCH.out (Nat.le_refl _) (hV.draws d) (fun c hc => hcb2 _)
      have hbackH : Hid (∀ W', Vec W' xb N (r * C) C (chg false kb C (fun c => y2 (r * C + c))) (splice 0 N (rowAt false kb C r y2) (fun _ => 0)) → W'.rowIs xb 126 N (fun t => .int .u32 (rowAt false kb C (r + 1) y2 t))) := hback
      clear hback hV hxr
      go_wp2_with fail
      with_reducible refine hrow.mono ?_
      rintro e w3 ⟨rfl, d, rfl⟩
      go_wp2_with fail
      with_reducible refine (hF _).mono ?_
      rintro e w4 ⟨rfl, hv4, hg4⟩
      have hfin : Hid (w.grownBy w4 (some xb) ∧ w4.rowIs xb 126 N (fun t => .int .u32 (rowAt false kb C (r + 1) y2 t))) := ⟨(grown_drewN hgr d).trans hg4, hbackH.out _ hv4⟩
      clear hv4 hg4 hF hrow hbackH hgr
      go_wp2
      exact ⟨⟨r + 1, by omega, by go_num, hfin.out⟩, by simp [intOf]; omega⟩
    · have e : r = R := by omega
      subst e
      have hfin : Hid (wr.rowIs xb 126 N (fun i => .int .u32 (fwdT ka kb r C x i)) ∧ w.grownBy wr (some xb)) := ⟨hxr.congr fun t ht => by rw [hfw.out]; unfold rowAt; rw [if_pos (by rw [Nat.div_lt_iff_lt_mul hC0, ← hNH.out]; exact ht)], hgr⟩
      clear hgr hxr
      go_wp2
      go_end0
      exact ⟨⟨_, rfl⟩, hfin.out.1, hfin.out.2⟩
end Go.Proofs.Ygctag
