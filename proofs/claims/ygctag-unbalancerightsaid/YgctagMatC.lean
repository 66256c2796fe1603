import Derived.Test.YgctagMatMul
import Derived.Test.YgctagExt
namespace Go.Proofs.Ygctag
open Go.RowKit
attribute [local go_sem] run_store_float

theorem same_eq (b : Nat) (w : World) : Calls Tagg.prog 44 #[.float .f64 b, .float .f64 b] w fun e w' => e = .returned (.bool true) ∧ w' = w := by
  go_enter Tagg.func44, Tagg.ntmps44
  go_wp2_with (go_at_call 85; with_reducible refine (b64_any _ _).mono ?_; rintro e w' ⟨rfl, rfl⟩)
  go_ret
  exact ⟨rfl, rfl⟩

theorem order_nan {x : Nat} (h : nanB x = true) (y : Nat) : FloatKind.f64.format.order x y = none := by
  have h' : (Ieee.double.read x).isNaN = true := h
  show (Ieee.double.read x).order (Ieee.double.read y) = none
  cases hd : Ieee.double.read x <;> rw [hd] at h' <;> simp [Ieee.Datum.isNaN] at h'
  cases Ieee.double.read y <;> rfl

theorem same_nan (x y : Nat) (hx : nanB x = true) (hy : nanB y = true) (w : World) : Calls Tagg.prog 44 #[.float .f64 x, .float .f64 y] w fun e w' => e = .returned (.bool true) ∧ w' = w := by
  by_cases h : x = y
  · subst h; exact same_eq x w
  have hb : ((x : Int) == (y : Int)) = false := by simp; omega
  have ox := order_nan hx x
  have oy := order_nan hy y
  go_enter Tagg.func44, Tagg.ntmps44
  go_wp2_with (go_at_call 85; with_reducible refine (b64_any _ _).mono ?_; rintro e w' ⟨rfl, rfl⟩)
  go_ret
  exact ⟨rfl, rfl⟩

theorem same_any (x y : Nat) (h : absF x = absF y) (w : World) : Calls Tagg.prog 44 #[.float .f64 x, .float .f64 y] w fun e w' => e = .returned (.bool true) ∧ w' = w := by
  cases hx : nanB x
  · cases hy : nanB y
    · rw [absF_some hx, absF_some hy] at h
      cases h
      exact same_eq _ w
    · rw [absF_some hx, absF_none hy] at h; cases h
  · cases hy : nanB y
    · rw [absF_none hx, absF_some hy] at h; cases h
    · exact same_nan x y hx hy w

set_option maxRecDepth 100000 in
set_option maxHeartbeats 2000000 in
theorem sameMat_any (r c s1 s2 : Nat) (a1 a2 : Option Addr) (n1 cap1 n2 cap2 : Nat) (x y : Nat → Nat) (w : World) (hn1 : n1 ≤ 140737488355328) (hn2 : n2 ≤ 140737488355328)
    (hc1 : n1 ≤ cap1) (hc2 : n2 ≤ cap2) (hs1 : soundB r c s1 n1 = true) (hs2 : soundB r c s2 n2 = true) (hx : Sl w a1 n1 fun t => .float .f64 (x t)) (hy : Sl w a2 n2 fun t => .float .f64 (y t))
    (heq : ∀ i j, i < r → j < c → absF (x (i * s1 + j)) = absF (y (i * s2 + j))) :
    Calls Tagg.prog 43 #[matV r c s1 a1 n1 cap1, matV r c s2 a2 n2 cap2] w fun e w' => e = .returned (.bool true) ∧ Below w.heap.size w w' := by
  have hr : r ≤ 512 := by have := of_decide_eq_true hs1; omega
  have hcc : c ≤ 512 := by have := of_decide_eq_true hs1; omega
  have hS1 := fun w => sound_any r c s1 a1 n1 cap1 w hn1
  have hS2 := fun w => sound_any r c s2 a2 n2 cap2 w hn2
  have ha1 : 0 < n1 → ∃ b off, a1 = some ⟨b, off, none⟩ := fun h => by obtain ⟨b, off, e, _⟩ := hx 0 h; exact ⟨b, off, e⟩
  have ha2 : 0 < n2 → ∃ b off, a2 = some ⟨b, off, none⟩ := fun h => by obtain ⟨b, off, e, _⟩ := hy 0 h; exact ⟨b, off, e⟩
  have hR1 := fun (i : Nat) (hi : i < r) w => row_any r c s1 i a1 n1 cap1 w hn1 hc1 hs1 hi ha1
  have hR2 := fun (i : Nat) (hi : i < r) w => row_any r c s2 i a2 n2 cap2 w hn2 hc2 hs2 hi ha2
  rw [hs1] at hS1
  rw [hs2] at hS2
  unfold matV at hS1 hS2 hR1 hR2 ⊢
  go_enter Tagg.func43, Tagg.ntmps43
  go_wp2_with fail
  refine (hS1 _).mono ?_
  rintro e w1 ⟨rfl, hb1⟩
  obtain ⟨hcl1, hf1⟩ := bcell hb1
  go_wp2_with fail
  refine (hS2 _).mono ?_
  rintro e w2 ⟨rfl, hb2⟩
  have sz1 := hb1.size
  simp only [Deep.nblk_alloc] at sz1
  have bA : Box w2 w.heap.size (.int .i64 r) (.int .i64 c) (.int .i64 s1) (.slice a1 n1 cap1) := (((Box.new w _ _ _ _).alloc _).below hb1).below hb2
  have bB : Box w2 (w.heap.size + 1) (.int .i64 r) (.int .i64 c) (.int .i64 s2) (.slice a2 n2 cap2) := ((Box.new_at (w.alloc _) (by simp) _ _ _ _).below hb1).below hb2
  have hbX : Below w.heap.size w w2 := ((((Below.refl _ _).alloc (Nat.le_refl _) _).alloc (by simp) _).trans (hb1.mono (by simp; omega))).trans (hb2.mono (by omega))
  clear hcl1 hf1 hb1 hb2 hS1 hS2
  go_wp2_with fail
  go_loopw [5] (fun i wr => ∃ q : Nat, q ≤ r ∧ i = .int .i64 q ∧ Below w2.heap.size w2 wr) (fun i _ => r - (intOf i).toNat)
  case atStart => exact ⟨0, by omega, rfl, Below.refl _ _⟩
  case round =>
    obtain ⟨q, hq, rfl, hbr⟩ := hrel
    have bAr := bA.below hbr
    have bBr := bB.below hbr
    obtain ⟨cA0, cA1, cA2, cA3⟩ := bAr.cells
    by_cases hqr : q < r
    · obtain ⟨cB0, cB1, cB2, cB3⟩ := bBr.cells
      go_upto_region 6 with fail
      go_cut [6, 7] (fun u v wx => ∃ rc ra, u = .slice rc c c ∧ v = .slice ra c c ∧ (0 < c → ∃ b off, a1 = some ⟨b, off, none⟩ ∧ rc = some ⟨b, off + q * s1, none⟩) ∧ (0 < c → ∃ b off, a2 = some ⟨b, off, none⟩ ∧ ra = some ⟨b, off + q * s2, none⟩) ∧ Below wr.heap.size wr wx)
      case first =>
        go_region_with (first | (go_at_call_of 48 (Value.slice a1 n1 cap1); with_reducible refine (hR1 q hqr _).mono ?_; rintro e w3 ⟨rc, rfl, hrc, hb3⟩; obtain ⟨d0, d1, d2, d3⟩ := (bBr.drew.below hb3).cells) | (go_at_call_of 48 (Value.slice a2 n2 cap2); with_reducible refine (hR2 q hqr _).mono ?_; rintro e w4 ⟨ra, rfl, hra, hb4⟩))
        all_goals
          go_wp2_with fail
          go_meet
          exact ⟨_, _, rfl, rfl, hrc, hra, below_of_drew (hb3.trans (hb4.mono hb3.size))⟩
      case rest =>
        obtain ⟨rc, ra, rfl, rfl, hrc, hra, hbc⟩ := hcut
        have hbj : Below w2.heap.size w2 wc := hbr.trans (hbc.mono hbr.size)
        have hxc := (hx.below hbX).below hbj
        have hyc := (hy.below hbX).below hbj
        clear cA0 cA1 cA2 cA3 cB0 cB1 cB2 cB3 bAr bBr hbr hbc hR1 hR2
        go_wp2_with fail
        go_loopw [8] (fun jv wj => ∃ p : Nat, p ≤ c ∧ jv = .int .i64 p ∧ ∃ d, wj = wc.drewN d) (fun i _ => c - (intOf i).toNat)
        case atStart => exact ⟨0, by omega, rfl, 0, rfl⟩
        case round =>
          obtain ⟨p, hp, rfl, hwr⟩ := hrel
          by_cases hpc : p < c
          · obtain ⟨b1, o1, ea1, rfl⟩ := hrc (by omega)
            obtain ⟨b2, o2, ea2, rfl⟩ := hra (by omega)
            obtain ⟨b1', o1', ea1', cx⟩ := hxc _ (sound_reach hs1 hqr hpc)
            obtain ⟨b2', o2', ea2', cy⟩ := hyc _ (sound_reach hs2 hqr hpc)
            rw [ea1] at ea1'; cases ea1'
            rw [ea2] at ea2'; cases ea2'
            rw [← Nat.add_assoc] at cx cy
            have cx' : wr.cell? ⟨b1, o1 + q * s1 + p, none⟩ = some (.float .f64 (x (q * s1 + p))) := by obtain ⟨d, rfl⟩ := hwr; exact cx
            have cy' : wr.cell? ⟨b2, o2 + q * s2 + p, none⟩ = some (.float .f64 (y (q * s2 + p))) := by obtain ⟨d, rfl⟩ := hwr; exact cy
            have Hw : Hid (∃ d, wr = wc.drewN d) := hwr
            clear cx cy hwr
            have hE := fun w => same_any _ _ (heq q p hqr hpc) w
            have i1 : (p : Int) < (c : Int) := by omega
            clear hrc hra hxc hyc heq hx hy ea1 ea2 bA bB hbX ha1 ha2
            go_wp2
            go_quiet ((go_at_call 44; exact Calls.quiet_of_same (hE _)))
            go_wp2
            go_roundw
            case rel => obtain ⟨d, rfl⟩ := Hw.out; exact ⟨p + 1, by omega, by go_num, _, World.drewN_drewN _ _ _⟩
            case measure => simp [intOf]; omega
          · obtain ⟨d, rfl⟩ := hwr
            go_wp2
            go_roundw
            case rel => exact ⟨q + 1, by omega, by go_num, below_draws hbj d⟩
            case measure => simp [intOf]; omega
    · go_wp2
      go_ret
      exact ⟨rfl, hbX.trans (hbr.mono hbX.size)⟩
end Go.Proofs.Ygctag
