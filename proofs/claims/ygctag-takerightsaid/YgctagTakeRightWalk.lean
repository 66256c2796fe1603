import Derived.Test.YgctagNatW
namespace Go.Proofs.Ygctag
open Go.RowKit
attribute [local go_sem] eql30 neq30

theorem takeLen_step (z : Nat → Int) (n k : Nat) (h : n ≤ k ∨ 1024 ≤ k) (hk : k ≤ n) (hk2 : k ≤ 1024) : trimLen z k = takeLen z n := by
  unfold takeLen; congr 1; omega

set_option maxRecDepth 100000 in
set_option maxHeartbeats 1000000 in
theorem takeRight_walk (a : Option Addr) (n c : Nat) (z : Nat → Int) (w : World) (hn : n ≤ c) (hc : c ≤ 140737488351232) (hnil : a = none → c = 0)
    (h : Sl w a n fun i => .int .u8 (z i)) :
    Calls Tagg.prog 14 #[.slice a n c] w fun e w' => e = .returned (.bool true) ∧ Below w.heap.size w w' := by
  have h1 : ∀ i, i < n → (Value.int IntKind.u8 (z i)).oneCell' = true := fun _ _ => rfl
  go_enter Tagg.func14, Tagg.ntmps14
  go_wp2
  go_loop [3, 4] (fun t i => ∃ k : Nat, k ≤ n ∧ k ≤ 1024 ∧ i = .int .i64 k ∧ t = .int .i64 (trimLen z k)) (fun _ i => n - (intOf i).toNat)
  case atStart => exact ⟨0, by omega, by omega, rfl, rfl⟩
  case round =>
    obtain ⟨k, hk, hk2, rfl, rfl⟩ := hrel
    by_cases hlt : k < n ∧ k < 1024
    · obtain ⟨hlt, hlt2⟩ := hlt
      obtain ⟨b, off, rfl, hcell⟩ := h k hlt
      by_cases hz : z k = 0
      · have hzb : (z k != 0) = false := by simp [hz]
        have H2 : Hid (trimLen z (k + 1) = trimLen z k) := trimLen_zero hz
        clear hz
        go_wp2
        go_round
        case rel => exact ⟨k + 1, by omega, by omega, by go_num, by rw [H2.out]⟩
        case measure => simp [intOf]; omega
      · have hzb : (z k != 0) = true := by simp [hz]
        have H2 : Hid (trimLen z (k + 1) = k + 1) := trimLen_hit hz
        clear hz
        go_wp2
        go_round
        case rel => exact ⟨k + 1, by omega, by omega, by go_num, by rw [H2.out]; go_num⟩
        case measure => simp [intOf]; omega
    · have hk3 := takeLen_step z n k (by omega) hk hk2
      rw [hk3]
      clear hk3
      have hor : n ≤ k ∨ (k < n ∧ 1024 ≤ k) := by omega
      clear hlt
      have htl := takeLen_le z n
      have htl2 := takeLen_le' z n
      rcases hor with hor | ⟨hor, hor2⟩
      all_goals
        go_wp2_with (at_builtin; refine wpList_append_nil rfl _ _ 29 rfl 5 (.int .u8 0) 1 Tagg.underlying29 Tagg.info5 rfl rfl _ _ _ _ rfl hnil h h1 ?_ ?_ ?_)
        · omega
        · unfold maxLen; omega
        · intro v' w1 hcopy hb1
          rcases hcopy with ⟨rfl, rfl⟩ | ⟨hpos, g, cap, cur, rfl, hg, hmc, hcm, hcur, hcs, hcc⟩
          · go_wp2_with fail
            refine (take_any none 0 0 z w1 (Nat.le_refl _) (by omega) (Sl.zero _ _ _)).mono ?_
            rintro e w2 ⟨g2, rfl, hg2, hrow, hb2⟩
            have h0 : takeLen z 0 = 0 := rfl
            rw [h0, cutV_zero]
            clear hrow
            go_wp2_with fail
            refine wp_loop_rounds 1 ?_
            rw [rounds_succ]
            go_wp2_with fail
            refine (sameDigits_any none a 0 0 c z w2 (by omega) (Sl.zero _ _ _) (Sl.zero _ _ _)).mono ?_
            rintro e w3 ⟨rfl, q, rfl⟩
            go_wp2
            go_ret
            exact ⟨rfl, below_draws (hb1.trans (hb2.mono hb1.size)) q⟩
          · have hown : Sl w1 (some ⟨g, 0, none⟩) n fun i => .int .u8 (z i) := Sl.of_cur hcur hcc
            have hgs : g < w1.heap.size := by obtain ⟨h, _⟩ := Array.getElem?_eq_some_iff.1 hcur; exact h
            clear hcur hcs hcc
            go_wp2_with fail
            refine (take_any _ n cap z w1 hmc hcm hown).mono ?_
            rintro e w2 ⟨g2, rfl, hg2, hrow, hb2⟩
            have hraw : Sl w1 a n fun i => .int .u8 (z i) := h.below hb1
            clear h hnil
            by_cases h0 : takeLen z n = 0
            · rw [h0, cutV_zero]
              clear hrow
              go_wp2_with fail
              refine wp_loop_rounds 1 ?_
              rw [rounds_succ]
              go_wp2_with fail
              refine (sameDigits_any _ a n cap c z w2 (by omega) (hown.below hb2) (hraw.below hb2)).mono ?_
              rintro e w3 ⟨rfl, q, rfl⟩
              go_wp2
              go_ret
              exact ⟨rfl, below_draws (hb1.trans (hb2.mono hb1.size)) q⟩
            · have hrow2 := hrow (by omega)
              clear hrow
              rw [cutV_pos h0]
              have h0b : ((takeLen z n : Int) == 0) = false := by simp; omega
              generalize takeLen z n = N at *
              go_wp2_with fail
              go_loopw [7] (fun i wr => ∃ k : Nat, k ≤ N ∧ i = .int .i64 k ∧ Below w1.heap.size w1 wr ∧ ∃ f, wr.rowIs g2 5 N f ∧ ∀ j, k ≤ j → j < N → f j = .int .u8 (z j)) (fun i _ => N - (intOf i).toNat)
              case atStart => exact ⟨0, by omega, rfl, hb2, _, hrow2, fun _ _ _ => rfl⟩
              case round =>
                obtain ⟨j, hj, rfl, hbj, f, hrj, hfj⟩ := hrel
                by_cases hjN : j < N
                · obtain ⟨b, off, rfl, hcr⟩ := hraw j (by omega)
                  have hc1 : wr.cell? ⟨b, off + j, none⟩ = some (.int .u8 (z j)) := (hbj.cell (cell_lt hcr)).trans hcr
                  have hc2 : wr.cell? ⟨g2, j, none⟩ = some (.int .u8 (z j)) := by rw [hrj.cell hjN, hfj j (Nat.le_refl _) hjN]
                  have hfr := hrj.frozen j
                  have hlj : (j : Int) < (n : Int) := by omega
                  have hlN : (j : Int) < (N : Int) := by omega
                  clear hraw hrow2 hown hb2 hb1
                  go_wp2
                  go_quiet (fail)
                  go_wp2
                  go_roundw
                  case rel =>
                    refine ⟨j + 1, by omega, by go_num, (below_draws hbj nq).setCell hg2 _, _, (row_draws hrj nq).set j _, fun i hi hiN => ?_⟩
                    rw [if_neg (by omega)]
                    exact hfj i (by omega) hiN
                  case measure => simp [intOf]; omega
                · go_wp2_with fail
                  refine (sameDigits_any _ a n cap c z wr (by omega) (hown.below hbj) (hraw.below hbj)).mono ?_
                  rintro e w3 ⟨rfl, q, rfl⟩
                  go_wp2
                  go_ret
                  exact ⟨rfl, below_draws (hb1.trans (hbj.mono hb1.size)) q⟩
end Go.Proofs.Ygctag
