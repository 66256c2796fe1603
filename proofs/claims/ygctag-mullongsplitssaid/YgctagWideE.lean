import Derived.Test.YgctagWideD
namespace Go.Proofs.Ygctag
open Go.RowKit

set_option maxRecDepth 100000 in
set_option maxHeartbeats 4000000 in
theorem ginverse_ok (ka kb hb xb N R C : Nat) (x : Nat → Int) (w : World) (hka : ka ≤ 11) (hR : R = 2 ^ ka) (hkb : kb ≤ 11) (hkb4 : 4 ≤ kb) (hC : C = 2 ^ kb) (hN : N = R * C) (hne : hb ≠ xb)
    (hg : GBox w hb xb N R C (rootN (ka + kb))) (hx : w.rowIs xb 126 N (fun i => .int .u32 (x i))) (hxb : ∀ i, i < N → 0 ≤ x i ∧ x i < 998244353) :
    Calls Tagg.prog 111 #[.pointer (some ⟨hb, 0, none⟩)] w fun e w' => (∃ v, e = .returned v) ∧ w'.rowIs xb 126 N (fun i => .int .u32 (invT ka kb R C x i)) ∧ w.grownBy w' (some xb) := by
  have hle : 2 ^ ka ≤ 2 ^ 11 := Nat.pow_le_pow_right (by decide) hka
  have hle2 : 2 ^ kb ≤ 2 ^ 11 := Nat.pow_le_pow_right (by decide) hkb
  have hR2 : R ≤ 2048 := by omega
  have hC2 : C ≤ 2048 := by omega
  have hC0 : 0 < C := by rw [hC]; exact Nat.two_pow_pos kb
  have hC16 : ∃ m, C = 16 * m := ⟨2 ^ (kb - 4), by rw [hC, show kb = 4 + (kb - 4) by omega, Nat.pow_add, show 4 + (kb - 4) - 4 = kb - 4 by omega]⟩
  have hN2 : N ≤ 4194304 := by rw [hN]; exact Nat.le_trans (Nat.mul_le_mul hR2 hC2) (by decide)
  have hCH : Hid (C = 2 ^ kb) := hC
  have hNH : Hid (N = R * C) := hN
  have hE := fun W y hg hx hxb => eachColumn_ok ka hb xb N R C (rootN (ka + kb)) true y W hka hR hC16 hC0 hC2 hN hne hg hx hxb
  have hT := fun W y hg hx hxb => twist_ok hb xb N R C (rootN (ka + kb)) (irootN (ka + kb)) y W (irootN_lt _) hR2 hC0 hC2 hN hne hg hx hxb
  have hI := invMod_ok (rootN (ka + kb)) (rootN_lt _)
  rw [← irootN.eq_1 (ka + kb)] at hI
  have hfw : Hid (invT ka kb R C x = colT true ka R C (twT (irootN (ka + kb) : Nat) C (rowT true kb C x))) := rfl
  have hcb : ∀ i, 0 ≤ rowT true kb C x i ∧ rowT true kb C x i < 998244353 := fun i => chg_bound _ _ _ _ _
  generalize irootN (ka + kb) = irt at *
  generalize rootN (ka + kb) = rt at *
  clear hC hN hR hle hle2 hC16
  have hIH : Hid (∀ w, Calls Tagg.prog 122 #[.int .u32 rt] w fun e w' => e = .returned (.int .u32 irt) ∧ w' = w) := hI
  clear hI
  go_enter Tagg.func111, Tagg.ntmps111
  go_wp2_with fail
  go_loopw [2] (fun vr wr => ∃ r : Nat, r ≤ R ∧ vr = .int .i64 (r : Int) ∧ w.grownBy wr (some xb) ∧ wr.rowIs xb 126 N (fun t => .int .u32 (rowAt true kb C r x t))) (fun vr _ => R - (intOf vr).toNat)
  case atStart => exact ⟨0, by omega, rfl, ⟨rfl, rfl, rfl, Nat.le_refl _, fun _ _ _ => rfl⟩, hx.congr fun t _ => by unfold rowAt; rw [if_neg (Nat.not_lt_zero _)]⟩
  case round =>
    obtain ⟨r, hr, rfl, hgr, hxr⟩ := hrel
    have hB := hg.grown hgr hne
    obtain ⟨c0, c1, c2, c3⟩ := hB.cells
    by_cases hrl : r < R
    · have j1 : (r : Int) < R := by omega
      have hrcN : (r + 1) * C ≤ N := by rw [hNH.out]; exact Nat.mul_le_mul_right _ hrl
      have hrow := row119 hb xb N R C rt r wr hB hrcN hN2 hC0 (by omega) (by omega)
      obtain ⟨hV, hback⟩ := rowAt_step true kb xb N C r x wr hC0 hrcN hxr
      have hF := fun d => inverse_ok kb xb N (r * C) C C (fun c => x (r * C + c)) (splice 0 N (rowAt true kb C r x) (fun _ => 0)) (wr.drewN d) hkb hCH.out (Nat.le_refl _) (hV.draws d) (fun c hc => hxb _ (by rw [hNH.out]; exact rc_lt hrl hc))
      have hbackH : Hid (∀ W', Vec W' xb N (r * C) C (chg true kb C (fun c => x (r * C + c))) (splice 0 N (rowAt true kb C r x) (fun _ => 0)) → W'.rowIs xb 126 N (fun t => .int .u32 (rowAt true kb C (r + 1) x t))) := hback
      clear hback hV hxr hE hT
      go_wp2_with fail
      with_reducible refine hrow.mono ?_
      rintro e w3 ⟨rfl, d, rfl⟩
      go_wp2_with fail
      with_reducible refine (hF _).mono ?_
      rintro e w4 ⟨rfl, hv4, hg4⟩
      have hfin : Hid (w.grownBy w4 (some xb) ∧ w4.rowIs xb 126 N (fun t => .int .u32 (rowAt true kb C (r + 1) x t))) := ⟨(grown_drewN hgr d).trans hg4, hbackH.out _ hv4⟩
      clear hv4 hg4 hF hrow hbackH hgr
      go_wp2
      exact ⟨⟨r + 1, by omega, by go_num, hfin.out⟩, by simp [intOf]; omega⟩
    · have e : r = R := by omega
      subst e
      have hxr' : wr.rowIs xb 126 N (fun i => .int .u32 (rowT true kb C x i)) := hxr.congr fun t ht => by unfold rowAt; rw [if_pos (by rw [Nat.div_lt_iff_lt_mul hC0, ← hNH.out]; exact ht)]
      generalize rowT true kb C x = y1 at *
      have hT1 := hT wr y1 hB hxr' (fun i _ => hcb i)
      have hcb2 := tw_bound irt C y1
      generalize twT irt C y1 = y2 at *
      clear hT hxr hxr' hcb
      go_wp2_with fail
      with_reducible refine (hIH.out _).mono ?_
      rintro e w2 ⟨rfl, rfl⟩
      go_wp2_with fail
      with_reducible refine hT1.mono ?_
      rintro e w3 ⟨⟨v, rfl⟩, hx3, hg3⟩
      have hg4 := hgr.trans hg3
      have hE1 := hE w3 y2 (hB.grown hg3 hne) hx3 (fun i _ => hcb2 i)
      clear hE hT1 hx3 hg3 hB c0 c1 c2 c3 hgr
      go_wp2_with fail
      with_reducible refine hE1.mono ?_
      rintro e w5 ⟨⟨v, rfl⟩, hx5, hg5⟩
      rw [← hfw.out] at hx5
      have hfin : Hid (w5.rowIs xb 126 N (fun i => .int .u32 (invT ka kb r C x i)) ∧ w.grownBy w5 (some xb)) := ⟨hx5, hg4.trans hg5⟩
      clear hE1 hx5 hg4 hg5
      go_wp2
      go_end0
      exact ⟨⟨_, rfl⟩, hfin.out.1, hfin.out.2⟩
end Go.Proofs.Ygctag
