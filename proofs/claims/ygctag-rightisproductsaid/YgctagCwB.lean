import Derived.Test.YgctagCwA
import Derived.Deep.DeepCutAuto
import Derived.Deep.CutBlock
namespace Go.Proofs.Ygctag
open Go.RowKit

theorem run_store_complex {P : Program} (w : World) (a : Addr) (m : Mode) (k : FloatKind) (b c : Nat) : (store a (.complex k b c) m).run P w = stored P w a (.complex k b c) m := run_store P w a _ m rfl
attribute [local go_sem] run_store_complex
theorem row_upC {w : World} {b n q : Nat} {t : TypeId} {F G : Nat → Cb} (h : w.rowIs b t n (fun j => cpv (if j < q then F j else G j))) :
    (w.setCell ⟨b, q, none⟩ (cpv (F q))).rowIs b t n (fun j => cpv (if j < q + 1 then F j else G j)) := by
  refine (h.set q _).congr fun i hi => ?_
  by_cases h1 : i = q
  · subst h1; rw [if_pos rfl, if_pos (Nat.lt_succ_self _)]
  · rw [if_neg h1]
    by_cases h2 : i < q
    · rw [if_pos h2, if_pos (by omega)]
    · rw [if_neg h2, if_neg (by omega)]
theorem Tagg.info90 : (Tagg.prog.info? 90).map (fun i => (i.zero, i.size, i.bytes)) = some (some (.complex .f64 0 0), 1, 16) := by kernel_rfl

theorem tabB_zero (k : Nat) : tabB k 0 = (4607182418800017408, 0) := by rw [tabB, dif_pos rfl]
theorem tabB_step (k b j : Nat) (hj : j < 2 ^ b) : tabB k (2 ^ b + j) = cmulB (tabB k j) (baseB (k - b)) := by
  have h0 : 2 ^ b + j ≠ 0 := by have := Nat.two_pow_pos b; omega
  have hl : (2 ^ b + j).log2 = b := by
    have h1 := (Nat.le_log2 h0).2 (show 2 ^ b ≤ 2 ^ b + j by omega)
    have h2 := (Nat.log2_lt h0).2 (show 2 ^ b + j < 2 ^ (b + 1) by rw [Nat.pow_succ]; omega)
    omega
  rw [tabB, dif_neg h0, hl, Nat.add_sub_cancel_left]

set_option maxRecDepth 100000 in
set_option maxHeartbeats 2000000 in
theorem table32 (k : Nat) (hk1 : 1 ≤ k) (hk : k ≤ 11) (H : Nat) (hH : H = 2 ^ (k - 1)) (w : World) :
    Calls Tagg.prog 32 #[.int .u8 (k : Int)] w fun e w' => ∃ g, e = .returned (.slice (some ⟨g, 0, none⟩) H H) ∧ g = w.heap.size ∧ w'.rowIs g 90 H (fun j => cpv (tabB k j)) ∧ Below w.heap.size w w' := by
  have hle : 2 ^ (k - 1) ≤ 2 ^ 10 := Nat.pow_le_pow_right (by decide) (by omega)
  have hH2 : H ≤ 1024 := by omega
  have hH1 : 1 ≤ H := by rw [hH]; exact Nat.two_pow_pos _
  have hmk := run_make_row' (P := Tagg.prog) 58 90 (.complex .f64 0 0) 16 Tagg.underlying58 Tagg.info90 rfl .i64 .i64 H (by omega) (by omega)
  have e1 : (2 : Int) ^ (k - 1) = (H : Int) := by rw [hH, Int.natCast_pow]; rfl
  have i1 : (1 : Int) ≤ k := by omega
  have i2 : (k : Int) ≤ 11 := by omega
  have i3 : (k : Int) - 1 = ((k - 1 : Nat) : Int) := by omega
  have v1 : IntKind.u8.wrap ((k : Int) - 1) = ((k - 1 : Nat) : Int) := by rw [i3]; exact IntWalk.u8_in _ ⟨by omega, by omega⟩
  have v2 : IntKind.i64.wrap (H : Int) = (H : Int) := IntWalk.i64_in _ ⟨by omega, by omega⟩
  have i4 : ((k - 1 : Nat) : Int) ≤ 64 := by omega
  have hHH : Hid (H = 2 ^ (k - 1)) := hH
  clear hH hle i3
  have hrX : (w.alloc (.cells (madeCells #[Value.complex .f64 0 0] H) 90)).rowIs w.heap.size 90 H (fun _ => cpv (0, 0)) := made_at rfl _ _ _
  have hbX : Below w.heap.size w (w.alloc (.cells (madeCells #[Value.complex .f64 0 0] H) 90)) := (Below.refl _ _).alloc (Nat.le_refl _) _
  have cX := hrX.cell (i := 0) (by omega)
  have fX := hrX.frozen 0
  have hrX2 := row_upC (q := 0) (F := tabB k) (G := fun _ => (0, 0)) (hrX.congr fun j _ => by rw [if_neg (Nat.not_lt_zero _)])
  have hbX2 : Below w.heap.size w ((w.alloc (.cells (madeCells #[Value.complex .f64 0 0] H) 90)).setCell ⟨w.heap.size, 0, none⟩ (cpv (tabB k 0))) := hbX.setCell (Nat.le_refl _) _
  rw [tabB_zero] at hrX2 hbX2
  have hH0 : (0 : Int) < H := by omega
  unfold cpv at cX
  have hXH : Hid (((w.alloc (.cells (madeCells #[Value.complex .f64 0 0] H) 90)).setCell ⟨w.heap.size, 0, none⟩ (.complex .f64 4607182418800017408 0)).rowIs w.heap.size 90 H (fun j => cpv (if j < 0 + 1 then tabB k j else (0, 0))) ∧ Below w.heap.size w ((w.alloc (.cells (madeCells #[Value.complex .f64 0 0] H) 90)).setCell ⟨w.heap.size, 0, none⟩ (.complex .f64 4607182418800017408 0))) := ⟨hrX2, hbX2⟩
  rw [World.setCell_alloc_at _ _ _ _ _ rfl] at hXH
  clear hrX hbX hrX2 hbX2
  go_enter Tagg.func32, Tagg.ntmps32
  go_wp2_with fail
  obtain ⟨hrX, hbX⟩ := hXH.out
  generalize w.alloc (.cells ((madeCells #[Value.complex .f64 0 0] H).setIfInBounds 0 (.complex .f64 4607182418800017408 0)) 90) = X at *
  clear cX fX hXH hmk
  obtain ⟨g, hg⟩ : ∃ g, g = w.heap.size := ⟨_, rfl⟩
  rw [← hg] at hrX ⊢
  have hgH : Hid (g = w.heap.size) := hg
  have hgX : X.grownBy X (some g) := ⟨rfl, rfl, rfl, Nat.le_refl _, fun _ _ _ => rfl⟩
  clear hg
  go_loopw [5] (fun vb wr => ∃ b : Nat, b ≤ k - 1 ∧ vb = .int .u8 (b : Int) ∧ X.grownBy wr (some g) ∧ wr.rowIs g 90 H (fun j => cpv (if j < 2 ^ b then tabB k j else (0, 0)))) (fun vb _ => k - (intOf vb).toNat)
  case atStart => exact ⟨0, by omega, rfl, hgX, hrX⟩
  case round =>
    clear hrX hgX
    obtain ⟨b, hb, rfl, hgr, hrw⟩ := hrel
    have j0 : (b : Int) + 1 = ((b + 1 : Nat) : Int) := by omega
    have v3 : IntKind.u8.wrap ((b : Int) + 1) = (b : Int) + 1 := IntWalk.u8_in _ ⟨by omega, by omega⟩
    by_cases hbk : b + 1 < k
    · have hB := base71 (k - b) (by omega)
      have hbase := (base_ok (k - b) (by omega) (by omega)).1
      obtain ⟨Z, hZ⟩ : ∃ Z, Z = 2 ^ b := ⟨_, rfl⟩
      have hZH : 2 * Z ≤ H := by rw [hZ, hHH.out, ← Nat.pow_succ']; exact Nat.pow_le_pow_right (by decide) (by omega)
      have e2 : (2 : Int) ^ b = (Z : Int) := by rw [hZ, Int.natCast_pow]; rfl
      have j1 : (b : Int) + 1 < k := by omega
      have j2 : (k : Int) - (b : Int) = ((k - b : Nat) : Int) := by omega
      have v4 : IntKind.u8.wrap ((k : Int) - (b : Int)) = ((k - b : Nat) : Int) := by rw [j2]; exact IntWalk.u8_in _ ⟨by omega, by omega⟩
      have v5 : IntKind.i64.wrap (Z : Int) = (Z : Int) := IntWalk.i64_in _ ⟨by omega, by omega⟩
      have j3 : (b : Int) ≤ 64 := by omega
      have htab : ∀ j, j < Z → Gd 1 (tabB k j) := fun j hj => (tab_near k hk1 hk b j (by rw [← hZ]; exact hj) (by omega)).1
      have hstep : ∀ j, j < Z → tabB k (Z + j) = cmulB (tabB k j) (baseB (k - b)) := fun j hj => by rw [hZ]; exact tabB_step k b j (by rw [← hZ]; exact hj)
      rw [← hZ] at hrw
      have hZH2 : Hid (Z = 2 ^ b) := hZ
      clear hZ j0 j2
      generalize baseB (k - b) = bs at *
      go_wp2_with fail
      with_reducible refine (hB _).mono ?_
      rintro e w1 ⟨rfl, rfl⟩
      clear hB
      go_wp2_with fail
      go_loopw [8] (fun vj w5 => ∃ j : Nat, j ≤ Z ∧ vj = .int .i64 (j : Int) ∧ X.grownBy w5 (some g) ∧ w5.rowIs g 90 H (fun i => cpv (if i < Z + j then tabB k i else (0, 0)))) (fun vj _ => Z - (intOf vj).toNat)
      case atStart => exact ⟨0, by omega, rfl, hgr, hrw⟩
      case round =>
        clear hrw hgr
        obtain ⟨j, hj, rfl, hgr, hrw⟩ := hrel
        by_cases hjz : j < Z
        · have hM := mul61 (htab j hjz) hbase (by omega)
          have cT := hrw.cell (i := j) (by omega)
          rw [if_pos (show j < Z + j by omega)] at cT
          have cR := hrw.cell (i := Z + j) (by omega)
          have cF := hrw.frozen (Z + j)
          have hup := row_upC (F := tabB k) (G := fun _ => (0, 0)) hrw
          rw [hstep j hjz] at hup
          have k1 : (j : Int) < Z := by omega
          have k2 : (Z : Int) + (j : Int) < H := by omega
          have k3 : ((Z : Int) + (j : Int)).toNat = Z + j := by omega
          have k4 : (j : Int) < H := by omega
          have v6 : IntKind.i64.wrap ((Z : Int) + (j : Int)) = (Z : Int) + (j : Int) := IntWalk.i64_in _ ⟨by omega, by omega⟩
          have hnext : Hid (∀ W', W' = (wr.setCell ⟨g, Z + j, none⟩ (.complex .f64 (cmulB (tabB k j) bs).1 (cmulB (tabB k j) bs).2)) → X.grownBy W' (some g) ∧ W'.rowIs g 90 H (fun i => cpv (if i < Z + (j + 1) then tabB k i else (0, 0)))) := by
            show ∀ W', _ → _
            rintro W' rfl
            exact ⟨grown_set hgr 0 _ _, hup⟩
          unfold cpv at cT cR
          clear hrw hgr hup htab hstep hbase
          generalize tabB k j = tj at *
          go_wp2_with fail
          with_reducible refine (hM _).mono ?_
          rintro e w1 ⟨rfl, rfl⟩
          go_wp2
          exact ⟨⟨j + 1, by omega, by go_num, hnext.out _ rfl⟩, by simp [intOf]; omega⟩
        · have e : j = Z := by omega
          subst e
          have hfin : Hid (wr.rowIs g 90 H (fun i => cpv (if i < 2 ^ (b + 1) then tabB k i else (0, 0)))) := hrw.congr fun i _ => by rw [Nat.pow_succ', ← hZH2.out, Nat.two_mul]
          clear hrw htab hstep hbase
          go_wp2
          exact ⟨⟨b + 1, by omega, by go_num, hgr, hfin.out⟩, by simp [intOf]; omega⟩
    · have e : b = k - 1 := by omega
      have j1 : (k : Int) ≤ (b : Int) + 1 := by omega
      have hrow : wr.rowIs g 90 H (fun j => cpv (tabB k j)) := hrw.congr fun j hj => by rw [if_pos (by rw [e, ← hHH.out]; exact hj)]
      have hbel : Below w.heap.size w wr := hbX.grown hgr hbX.size (fun t ht => by injection ht with ht; have := hgH.out; omega)
      clear hrw hgr j0 e
      go_wp2
      go_ret
      exact ⟨g, rfl, hgH.out, hrow, hbel⟩
end Go.Proofs.Ygctag
