import Derived.Test.YgctagCwE
namespace Go.Proofs.Ygctag
open Go.RowKit
attribute [local go_sem] run_store_complex run_neg_float

theorem fi_convI (n : Int) (h : n.natAbs < 2 ^ 53) : floatOfInt .f64 n = fi n := by
  show Ieee.double.write (.number (decide (n < 0)) n.natAbs 0) = fi n
  have := write_fz (decide (n < 0)) n.natAbs 0 h
  rw [Nat.pow_zero, Nat.mul_one] at this
  exact this

/-- Folded as far as digit q. -/
def foldAt (A : Nat → Int) (n q j : Nat) : Cb := (if j < q then fi (A j) else 0, if n + j < q then Op.negFloat .f64 (fi (A (n + j))) else 0)
theorem foldAt_zero (A : Nat → Int) (n j : Nat) : foldAt A n 0 j = (0, 0) := by unfold foldAt; rw [if_neg (by omega), if_neg (by omega)]
theorem foldAt_low (A : Nat → Int) (n q j : Nat) (h : q < n) : updC (foldAt A n q) q (fi (A q), 0) j = foldAt A n (q + 1) j := by
  unfold updC foldAt
  by_cases e : j = q
  · subst e; rw [if_pos rfl, if_pos (by omega), if_neg (by omega)]
  · rw [if_neg e, if_neg (show ¬ n + j < q by omega), if_neg (show ¬ n + j < q + 1 by omega)]
    by_cases h1 : j < q
    · rw [if_pos h1, if_pos (by omega)]
    · rw [if_neg h1, if_neg (by omega)]
theorem foldAt_high (A : Nat → Int) (n r j : Nat) (hj : j < n) (hr : r < n) : updC (foldAt A n (n + r)) r (fi (A r), Op.negFloat .f64 (fi (A (n + r)))) j = foldAt A n (n + r + 1) j := by
  unfold updC foldAt
  by_cases e : j = r
  · subst e; rw [if_pos rfl, if_pos (by omega), if_pos (by omega)]
  · rw [if_neg e, if_pos (show j < n + r by omega), if_pos (show j < n + r + 1 by omega)]
    by_cases h1 : n + j < n + r
    · rw [if_pos h1, if_pos (by omega)]
    · rw [if_neg h1, if_neg (by omega)]
theorem foldAt_re (A : Nat → Int) (n r : Nat) (hn : r < n) : (foldAt A n (n + r) r).1 = fi (A r) := by unfold foldAt; dsimp only; rw [if_pos (by omega)]
/-- Its numbers. -/
theorem fold16_ok (A : Nat → Int) (n la j : Nat) (hA : ∀ i, i < la → (A i).natAbs ≤ 32768) :
    Gd 16 (foldAt A n la j) ∧ cval (foldAt A n la j) = ⟨if j < la then (A j : Rat) else 0, -(if n + j < la then (A (n + j) : Rat) else 0)⟩ := by
  have key : ∀ z : Int, z.natAbs ≤ 32768 → Num (fi z) (z : Rat) ∧ ab (z : Rat) ≤ 2 ^ ((16 : Nat) : Int) := fun z hz => by
    refine ⟨num_fi z (by omega), ?_⟩
    rw [z2_nat, show ((2 ^ 16 : Nat) : Rat) = ((65536 : Int) : Rat) from rfl]
    refine ab_le (Rat.intCast_le_intCast.2 (by omega)) ?_
    rw [← Rat.intCast_neg]
    exact Rat.intCast_le_intCast.2 (by omega)
  have h0 : ab (0 : Rat) ≤ 2 ^ ((16 : Nat) : Int) := by
    rw [ab_of_nonneg (by decide)]
    exact Rat.le_of_lt (z2_pos _)
  have c1 : ∃ x : Rat, Num (foldAt A n la j).1 x ∧ ab x ≤ 2 ^ ((16 : Nat) : Int) ∧ x = if j < la then (A j : Rat) else 0 := by
    unfold foldAt
    dsimp only
    by_cases h : j < la
    · rw [if_pos h, if_pos h]
      exact ⟨_, (key _ (hA j h)).1, (key _ (hA j h)).2, rfl⟩
    · rw [if_neg h, if_neg h]
      exact ⟨0, zero_num, h0, rfl⟩
  have c2 : ∃ x : Rat, Num (foldAt A n la j).2 x ∧ ab x ≤ 2 ^ ((16 : Nat) : Int) ∧ x = -(if n + j < la then (A (n + j) : Rat) else 0) := by
    unfold foldAt
    dsimp only
    by_cases h : n + j < la
    · rw [if_pos h, if_pos h]
      exact ⟨_, neg_num (key _ (hA _ h)).1, by rw [ab_neg]; exact (key _ (hA _ h)).2, rfl⟩
    · rw [if_neg h, if_neg h]
      exact ⟨0, zero_num, h0, by grind⟩
  obtain ⟨x, x1, x2, x3⟩ := c1
  obtain ⟨y, y1, y2, y3⟩ := c2
  have v1 := x1.val
  have v2 := y1.val
  refine ⟨⟨by rw [v1]; exact x1, by rw [v2]; exact y1, by rw [v1]; exact x2, by rw [v2]; exact y2⟩, ?_⟩
  unfold cval
  rw [v1, v2, x3, y3]

set_option maxRecDepth 100000 in
set_option maxHeartbeats 4000000 in
theorem folded59 (a : Option Addr) (la cap wg H hcap n : Nat) (A : Nat → Int) (wt : Nat → Cb) (w : World) (hn1 : 1 ≤ n) (hn : n ≤ 512) (hla : la ≤ 2 * n) (hH : n ≤ H) (hA : ∀ i, i < la → (A i).natAbs ≤ 32768)
    (ha : Sl w a la fun i => .int .i32 (A i)) (hwt : w.rowIs wg 90 H (fun i => cpv (wt i))) (hg : ∀ j, j < n → Gd 1 (wt j)) :
    Calls Tagg.prog 59 #[.slice a la cap, .slice (some ⟨wg, 0, none⟩) H hcap, .int .i64 (n : Int)] w fun e w' => ∃ g, e = .returned (.slice (some ⟨g, 0, none⟩) n n) ∧ g = w.heap.size ∧ w'.rowIs g 90 n (fun j => cpv (cmulB (foldAt A n la j) (wt j))) ∧ Below w.heap.size w w' := by
  have hmk := run_make_row' (P := Tagg.prog) 58 90 (.complex .f64 0 0) 16 Tagg.underlying58 Tagg.info90 rfl .i64 .i64 n (by omega) (by omega)
  go_enter Tagg.func59, Tagg.ntmps59
  go_wp2_with fail
  generalize eX : w.alloc _ = X
  have hbX : Below w.heap.size w X := by rw [← eX]; exact (Below.refl _ _).alloc (Nat.le_refl _) _
  have hrX : X.rowIs w.heap.size 90 n (fun _ => cpv (0, 0)) := by rw [← eX]; exact made_at rfl _ _ _
  clear eX hmk
  have hgX : X.grownBy X (some w.heap.size) := ⟨rfl, rfl, rfl, Nat.le_refl _, fun _ _ _ => rfl⟩
  obtain ⟨g, hgg⟩ : ∃ g, g = w.heap.size := ⟨_, rfl⟩
  rw [← hgg] at hrX hgX ⊢
  have hwne : wg ≠ g := by have := hwt.lt; omega
  have hgH : Hid (g = w.heap.size) := hgg
  have hwX := hwt.of_block (hbX.block wg hwt.lt)
  have haX : Sl X a la fun i => .int .i32 (A i) := ha.below hbX
  have hab : ∀ i, i < la → ∀ b o, a = some ⟨b, o, none⟩ → b < g ∧ b < X.heap.size := fun i hi b o e => by
    obtain ⟨b', o', e', hcc⟩ := ha i hi
    rw [e] at e'
    injection e' with e'
    injection e' with e1 e2
    subst e1
    have h1 : b < w.heap.size := cell_lt hcc
    have h2 := hbX.size
    exact ⟨by omega, by omega⟩
  clear hgg hwt ha
  go_loopw [8] (fun vj wr => ∃ q : Nat, q ≤ la ∧ vj = .int .i64 (q : Int) ∧ X.grownBy wr (some g) ∧ wr.rowIs g 90 n (fun j => cpv (foldAt A n q j))) (fun vj _ => la - (intOf vj).toNat)
  case atStart => exact ⟨0, by omega, rfl, hgX, hrX.congr fun j _ => by rw [foldAt_zero]⟩
  case round =>
    clear hrX hgX
    obtain ⟨q, hq, rfl, hgr, hrw⟩ := hrel
    by_cases hql : q < la
    · have hAq := hA q hql
      have hfc := fi_convI (A q) (by omega)
      obtain ⟨b, o, rfl, hc⟩ := haX q hql
      obtain ⟨hb1, hb2⟩ := hab q hql b o rfl
      have ca : wr.cell? ⟨b, o + q, none⟩ = some (.int .i32 (A q)) := (World.cell?_of_block (hgr.block b hb2 (by simp; omega))).trans hc
      have i1 : (q : Int) < la := by omega
      by_cases hqn : q < n
      · have cR := hrw.cell (i := q) hqn
        have cF := hrw.frozen q
        have hup := (row_set (F := cpv) hrw q (fi (A q), 0)).congr (g := fun j => cpv (foldAt A n (q + 1) j)) (fun j _ => by rw [← foldAt_low A n q j hqn]; rfl)
        have i2 : (q : Int) < n := by omega
        have hnext : Hid (∀ W', W' = wr.setCell ⟨g, q, none⟩ (.complex .f64 (fi (A q)) 0) → X.grownBy W' (some g) ∧ W'.rowIs g 90 n (fun j => cpv (foldAt A n (q + 1) j))) := by
          show ∀ W', _ → _
          rintro W' rfl
          exact ⟨grown_set hgr 0 _ _, hup⟩
        unfold cpv at cR
        clear hrw hgr hup hwX haX hab hA hc hg hbX
        generalize fi (A q) = fq at *
        go_wp2
        exact ⟨⟨q + 1, by omega, by go_num, hnext.out _ rfl⟩, by simp [intOf]; omega⟩
      · obtain ⟨r, rfl⟩ : ∃ r, q = n + r := ⟨q - n, by omega⟩
        have hrn : r < n := by omega
        have cR := hrw.cell (i := r) hrn
        have cre := foldAt_re A n r hrn
        have cF := hrw.frozen r
        have hup := (row_set (F := cpv) hrw r (fi (A r), Op.negFloat .f64 (fi (A (n + r))))).congr (g := fun j => cpv (foldAt A n (n + r + 1) j)) (fun j hj => by rw [← foldAt_high A n r j hj hrn]; rfl)
        unfold cpv at cR
        rw [cre] at cR
        generalize (foldAt A n (n + r) r).2 = old at *
        generalize fi (A r) = fr at *
        generalize A (n + r) = Aq at *
        generalize fi Aq = fq at *
        obtain ⟨q, hqq⟩ : ∃ q, q = n + r := ⟨_, rfl⟩
        rw [← hqq] at ca i1 hql ⊢
        have i2 : (n : Int) ≤ q := by omega
        have i3 : (q : Int) - (n : Int) = (r : Int) := by omega
        have v1 : IntKind.i64.wrap (r : Int) = (r : Int) := IntWalk.i64_in _ ⟨by omega, by omega⟩
        have i4 : (r : Int) < n := by omega
        have hnext : Hid (∀ W', W' = (wr.setCell ⟨g, r, none⟩ (.complex .f64 fr (Op.negFloat .f64 fq))).drew → X.grownBy W' (some g) ∧ W'.rowIs g 90 n (fun j => cpv (foldAt A n (q + 1) j))) := by
          show ∀ W', _ → _
          rintro W' rfl
          rw [hqq]
          exact ⟨grown_drew (grown_set hgr 0 _ _), hup⟩
        have hqH : Hid (q = n + r) := hqq
        clear hrw hgr hup hwX haX hab hA hc hg hbX cre hqq
        go_wp2_with fail
        go_region
        all_goals go_wp2
        all_goals exact ⟨⟨q + 1, by omega, by go_num, hnext.out _ rfl⟩, by simp [intOf]; omega⟩
    · have e : q = la := by omega
      subst e
      have hgood : ∀ j, Gd 16 (foldAt A n q j) := fun j => (fold16_ok A n q j hA).1
      clear hA haX hab
      go_wp2_with fail
      go_loopw [9] (fun vj w5 => ∃ j : Nat, j ≤ n ∧ vj = .int .i64 (j : Int) ∧ X.grownBy w5 (some g) ∧ w5.rowIs g 90 n (fun i => cpv (if i < j then cmulB (foldAt A n q i) (wt i) else foldAt A n q i))) (fun vj _ => n - (intOf vj).toNat)
      case atStart => exact ⟨0, by omega, rfl, hgr, hrw.congr fun i _ => by rw [if_neg (Nat.not_lt_zero _)]⟩
      case round =>
        clear hrw
        have hgr0 := hgr
        clear hgr
        obtain ⟨j, hj, rfl, hgr, hrw⟩ := hrel
        by_cases hjn : j < n
        · have hM := mul61 (hgood j) (hg j hjn) (by omega)
          have cR := hrw.cell (i := j) hjn
          rw [if_neg (Nat.lt_irrefl j)] at cR
          have cF := hrw.frozen j
          have cW : wr.cell? ⟨wg, j, none⟩ = some (cpv (wt j)) := (World.cell?_of_block (hgr.block wg hwX.lt (by simpa using hwne))).trans (hwX.cell (by omega))
          have hup := row_upC (F := fun i => cmulB (foldAt A n q i) (wt i)) (G := foldAt A n q) hrw
          have i1 : (j : Int) < n := by omega
          have i2 : (j : Int) < H := by omega
          have hnext : Hid (∀ W', W' = (wr.setCell ⟨g, j, none⟩ (.complex .f64 (cmulB (foldAt A n q j) (wt j)).1 (cmulB (foldAt A n q j) (wt j)).2)).drew → X.grownBy W' (some g) ∧ W'.rowIs g 90 n (fun i => cpv (if i < j + 1 then cmulB (foldAt A n q i) (wt i) else foldAt A n q i))) := by
            show ∀ W', _ → _
            rintro W' rfl
            exact ⟨grown_drew (grown_set hgr 0 _ _), hup⟩
          unfold cpv at cR cW
          clear hrw hgr hup hwX hgood hg hbX hgr0
          generalize foldAt A n q j = fj at *
          generalize wt j = wj at *
          go_wp2_with fail
          go_region_with (go_at_call 61; with_reducible refine (hM _).mono ?_; rintro e w1 ⟨rfl, rfl⟩)
          all_goals go_wp2
          all_goals exact ⟨⟨j + 1, by omega, by go_num, hnext.out _ rfl⟩, by simp [intOf]; omega⟩
        · have e : j = n := by omega
          subst e
          have hrow : wr.rowIs g 90 j (fun i => cpv (cmulB (foldAt A j q i) (wt i))) := hrw.congr fun i hi => by rw [if_pos hi]
          have hbel : Below w.heap.size w wr := hbX.grown hgr hbX.size (fun t ht => by injection ht with ht; have := hgH.out; omega)
          clear hrw hwX hgood hg hbX hgr0
          go_wp2
          go_ret
          exact ⟨g, rfl, hgH.out, hrow, hbel⟩
end Go.Proofs.Ygctag
