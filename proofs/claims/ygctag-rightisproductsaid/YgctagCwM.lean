import Derived.Test.YgctagCwL
namespace Go.Proofs.Ygctag
open Go.RowKit

theorem eql23 (w : World) (a : Option Addr) (n c : Nat) : (binOp .eql 23 (.slice a n c) (.slice none 0 0)).run Tagg.prog w = .ok (.bool a.isNone) w := Lib.run_eql_slice_nil w 23 2 a n c 0 0 Tagg.underlying23
attribute [local go_sem] eql23

set_option maxHeartbeats 800000 in
theorem sameInts17 (g1 g2 m c1 c2 : Nat) (f : Nat → Int) (w : World) (hm : m ≤ 1000000) (h1 : w.rowIs g1 2 m (fun i => .int .i64 (f i))) (h2 : w.rowIs g2 2 m (fun i => .int .i64 (f i))) :
    Calls Tagg.prog 17 #[.slice (some ⟨g1, 0, none⟩) m c1, .slice (some ⟨g2, 0, none⟩) m c2] w fun e w' => e = .returned (.bool true) ∧ ∃ q, w' = w.drewN q := by
  go_enter Tagg.func17, Tagg.ntmps17
  go_wp2_with fail
  go_loopw [5] (fun i wr => ∃ k : Nat, k ≤ m ∧ i = .int .i64 k ∧ ∃ q, wr = w.drewN q) (fun i _ => m - (intOf i).toNat)
  case atStart => exact ⟨0, by omega, rfl, 0, rfl⟩
  case round =>
    obtain ⟨k, hk, rfl, q, rfl⟩ := hrel
    by_cases hlt : k < m
    · have e1 := h1.cell hlt
      have e2 := h2.cell hlt
      have hki : (k : Int) < (m : Int) := by omega
      clear h1 h2
      go_wp2
      go_quiet (fail)
      go_wp2
      go_roundw
      case rel => exact ⟨k + 1, by omega, by go_num, _, rfl⟩
      case measure => simp [intOf]; omega
    · have : k = m := by omega
      subst this
      go_wp2
      go_ret
      exact ⟨rfl, _, rfl⟩

/-- The double loop, after q rows and r of the next. -/
def wAt (A B : Nat → Int) (lb q r m : Nat) : Int := cSum A B q lb m + sumI (fun j => if q + j = m then A q * B j else 0) r
theorem wAt_zero (A B : Nat → Int) (lb m : Nat) : cSum A B 0 lb m = 0 := rfl
theorem wAt_start (A B : Nat → Int) (lb q m : Nat) : wAt A B lb q 0 m = cSum A B q lb m := by unfold wAt; show _ + (0 : Int) = _; omega
theorem wAt_next (A B : Nat → Int) (lb q m : Nat) : wAt A B lb q lb m = cSum A B (q + 1) lb m := rfl
theorem wAt_step (A B : Nat → Int) (lb q r m : Nat) : wAt A B lb q (r + 1) m = if m = q + r then wAt A B lb q r (q + r) + A q * B r else wAt A B lb q r m := by
  have e : wAt A B lb q (r + 1) m = wAt A B lb q r m + (if q + r = m then A q * B r else 0) := by
    unfold wAt
    exact (Int.add_assoc _ _ _).symm
  rw [e]
  by_cases h : m = q + r
  · subst h; rw [if_pos rfl, if_pos rfl]
  · rw [if_neg h, if_neg (by omega)]; omega
theorem wAt_bound (A B : Nat → Int) (lb q r m : Nat) (hq : q < 512) (hlb : lb ≤ 512) (hr : r ≤ lb) (hA : ∀ i, i < q + 1 → (A i).natAbs ≤ 32768) (hB : ∀ i, i < lb → (B i).natAbs ≤ 32768) : (wAt A B lb q r m).natAbs ≤ 1099511627776 := by
  have h1 := cSum_bound A B q lb m (by omega) hlb (fun i hi => hA i (by omega)) hB
  have h2 := sumI_abs (fun j => if q + j = m then A q * B j else 0) r 1073741824 (fun j hj => by
    by_cases h : q + j = m
    · rw [if_pos h, Int.natAbs_mul]
      exact Nat.le_trans (Nat.mul_le_mul (hA q (by omega)) (hB j (by omega))) (by decide)
    · rw [if_neg h]; omega)
  have h3 : r * 1073741824 ≤ 512 * 1073741824 := Nat.mul_le_mul_right _ (by omega)
  unfold wAt
  omega

set_option maxRecDepth 100000 in
set_option maxHeartbeats 8000000 in
theorem convRightExact_walk (a b : Option Addr) (na nb ca cb : Nat) (A B : Nat → Int) (w : World) (hna : na ≤ ca) (hnb : nb ≤ cb) (hca : ca ≤ 140737488351232) (hcb : cb ≤ 140737488351232) (hA : ∀ i, i < na → -2147483648 ≤ A i ∧ A i ≤ 2147483647) (hB : ∀ i, i < nb → -2147483648 ≤ B i ∧ B i ≤ 2147483647)
    (ha : Sl w a na fun i => .int .i32 (A i)) (hb : Sl w b nb fun i => .int .i32 (B i)) :
    Calls Tagg.prog 3 #[.slice a na ca, .slice b nb cb] w fun e w' => e = .returned (.bool true) ∧ Below w.heap.size w w' := by
  obtain ⟨x, hx⟩ : ∃ x, x = min na 513 := ⟨_, rfl⟩
  obtain ⟨y, hy⟩ : ∃ y, y = min nb 513 := ⟨_, rfl⟩
  have hAx : ∀ i, i < x → -2147483648 ≤ A i ∧ A i ≤ 2147483647 := fun i hi => hA i (by omega)
  have hBy : ∀ i, i < y → -2147483648 ≤ B i ∧ B i ≤ 2147483647 := fun i hi => hB i (by omega)
  have hax := ha.take (show x ≤ na by omega)
  have hby := hb.take (show y ≤ nb by omega)
  have hx1 : x ≤ 513 := by omega
  have hy1 : y ≤ 513 := by omega
  have hxH : Hid (x = min na 513) := hx
  have hyH : Hid (y = min nb 513) := hy
  clear hx hy ha hb hA hB
  go_enter Tagg.func3, Tagg.ntmps3
  go_upto_if 12 with fail
  go_cut [0] (fun v wx => ∃ c' : Nat, v = .slice a x c' ∧ x ≤ c' ∧ c' ≤ 140737488351232 ∧ w = wx)
  case first =>
    by_cases h : 513 < na
    · have i1 : (513 : Int) < na := by omega
      have i2 : (513 : Int) ≤ ca := by omega
      have e : x = 513 := by have := hxH.out; omega
      clear hax hby hAx hBy
      go_wp2
      go_meet
      exact ⟨513, by rw [e], by omega, by omega, rfl⟩
    · have i1 : (na : Int) ≤ 513 := by omega
      have e : x = na := by have := hxH.out; omega
      clear hax hby hAx hBy
      go_wp2
      go_meet
      exact ⟨ca, by rw [e], by omega, by omega, rfl⟩
  case rest =>
    obtain ⟨c1, rfl, hc1, hc1', rfl⟩ := hcut
    go_upto_if 17 with fail
    go_cut [1] (fun v wx => ∃ c' : Nat, v = .slice b y c' ∧ y ≤ c' ∧ c' ≤ 140737488351232 ∧ w = wx)
    case first =>
      by_cases h : 513 < nb
      · have i1 : (513 : Int) < nb := by omega
        have i2 : (513 : Int) ≤ cb := by omega
        have e : y = 513 := by have := hyH.out; omega
        clear hax hby hAx hBy
        go_wp2
        go_meet
        exact ⟨513, by rw [e], by omega, by omega, rfl⟩
      · have i1 : (nb : Int) ≤ 513 := by omega
        have e : y = nb := by have := hyH.out; omega
        clear hax hby hAx hBy
        go_wp2
        go_meet
        exact ⟨cb, by rw [e], by omega, by omega, rfl⟩
    case rest =>
      obtain ⟨c2, rfl, hc2, hc2', rfl⟩ := hcut
      clear hxH hyH
      by_cases hbal : balB A x ∧ balB B y
      · obtain ⟨b1, b2⟩ := hbal
        by_cases h0 : x = 0 ∨ y = 0
        · have hC := convR_empty a b x y c1 c2 A B w (by omega) (by omega) hAx hBy hax hby b1 b2 h0
          have t1 := balanced16 a x c1 A w (by omega) hAx hax true (by simp [b1])
          have t2 := balanced16 b y c2 B w (by omega) hBy hby true (by simp [b2])
          clear hax hby hAx hBy b1 b2
          go_wp2_with fail
          with_reducible refine hC.mono ?_
          rintro e w1 ⟨rfl, rfl⟩
          go_wp2_with fail
          with_reducible refine t1.mono ?_
          rintro e w1 ⟨rfl, rfl⟩
          go_wp2_with fail
          with_reducible refine t2.mono ?_
          rintro e w1 ⟨rfl, rfl⟩
          by_cases hx0 : x = 0
          · have i1 : ((x : Int) == 0) = true := by simp; omega
            clear hx0 h0
            go_wp2
            go_ret
            exact ⟨rfl, Below.refl _ _⟩
          · have i1 : ((x : Int) == 0) = false := by simp; omega
            have i2 : ((y : Int) == 0) = true := by simp; omega
            clear hx0 h0
            go_wp2
            go_ret
            exact ⟨rfl, Below.refl _ _⟩
        · have hC := convR_ok a b x y c1 c2 A B w (by omega) (by omega) b1 b2 hAx hBy hax hby
          have t1 := fun W h => balanced16 a x c1 A W (by omega) hAx h true (by simp [b1])
          have t2 := fun W h => balanced16 b y c2 B W (by omega) hBy h true (by simp [b2])
          obtain ⟨m, hm⟩ : ∃ m, m = x + y - 1 := ⟨_, rfl⟩
          have hx5 : x ≤ 512 := b1.1
          have hy5 : y ≤ 512 := b2.1
          have i1 : ((x : Int) == 0) = false := by simp; omega
          have i2 : ((y : Int) == 0) = false := by simp; omega
          have i3 : (x : Int) + (y : Int) - 1 = (m : Int) := by omega
          have v1 : IntKind.i64.wrap ((x : Int) + (y : Int)) = (x : Int) + (y : Int) := IntWalk.i64_in _ ⟨by omega, by omega⟩
          have v2 : IntKind.i64.wrap (m : Int) = (m : Int) := IntWalk.i64_in _ ⟨by omega, by omega⟩
          have hmk := run_make_row' (P := Tagg.prog) 23 2 (.int .i64 0) 8 Tagg.underlying23 Tagg.info2'' rfl .i64 .i64 m (by omega) (by omega)
          have hmH : Hid (m = x + y - 1) := hm
          have hA2 := b1.2
          have hB2 := b2.2
          clear b1 b2
          go_wp2_with fail
          with_reducible refine hC.mono ?_
          rintro e w1 ⟨cg, m', hm', rfl, hcg, hcr, hb1⟩
          obtain rfl : m' = m := by omega
          clear hm' hm hC
          have hax1 := hax.below hb1
          have hby1 := hby.below hb1
          go_wp2_with fail
          with_reducible refine (t1 _ hax1).mono ?_
          rintro e w2 ⟨rfl, rfl⟩
          go_wp2_with fail
          with_reducible refine (t2 _ hby1).mono ?_
          rintro e w2 ⟨rfl, rfl⟩
          clear t1 t2 hax hby
          go_wp2_with fail
          generalize eX : w2.alloc _ = X
          have hbX : Below w2.heap.size w2 X := by rw [← eX]; exact (Below.refl _ _).alloc (Nat.le_refl _) _
          have hrX : X.rowIs w2.heap.size 2 m' (fun _ => .int .i64 0) := by rw [← eX]; exact made_at rfl _ _ _
          clear eX hmk
          have hgX : X.grownBy X (some w2.heap.size) := ⟨rfl, rfl, rfl, Nat.le_refl _, fun _ _ _ => rfl⟩
          obtain ⟨wg, hwg⟩ : ∃ wg, wg = w2.heap.size := ⟨_, rfl⟩
          have haX := hax1.below hbX
          have hbyX := hby1.below hbX
          have hcX := hcr.of_block (hbX.block cg hcr.lt)
          have ocg : cg < wg := by have := hcr.lt; omega
          have owg : w.heap.size ≤ wg := by have := hb1.size; omega
          have hwX : Below w.heap.size w X := hb1.trans (hbX.mono hb1.size)
          have hlt : ∀ (z : Option Addr) (k : Nat) (f : Nat → Value), Sl w2 z k f → ∀ i, i < k → ∀ b o, z = some ⟨b, o, none⟩ → b < wg ∧ b < X.heap.size := fun z k f hs i hi b o e => by
            obtain ⟨b', o', e', hcc⟩ := hs i hi
            rw [e] at e'
            injection e' with e'
            injection e' with e1 e2
            subst e1
            have h1 : b < w2.heap.size := cell_lt hcc
            have h2 := hbX.size
            exact ⟨by omega, by omega⟩
          have hlA := hlt _ _ _ hax1
          have hlB := hlt _ _ _ hby1
          rw [← hwg] at hrX hgX ⊢
          clear hlt hax1 hby1 hcr hb1 hbX hwg hcg
          go_loopw [8] (fun vi wr => ∃ q : Nat, q ≤ x ∧ vi = .int .i64 (q : Int) ∧ X.grownBy wr (some wg) ∧ wr.rowIs wg 2 m' (fun t => .int .i64 (cSum A B q y t))) (fun vi _ => x - (intOf vi).toNat)
          case atStart => exact ⟨0, by omega, rfl, hgX, hrX.congr fun t _ => by rw [wAt_zero]⟩
          case round =>
            clear hrX hgX
            obtain ⟨q, hq, rfl, hgr, hrw⟩ := hrel
            by_cases hqx : q < x
            · have j1 : (q : Int) < x := by omega
              go_wp2_with fail
              go_loopw [9] (fun vj w5 => ∃ r : Nat, r ≤ y ∧ vj = .int .i64 (r : Int) ∧ X.grownBy w5 (some wg) ∧ w5.rowIs wg 2 m' (fun t => .int .i64 (wAt A B y q r t))) (fun vj _ => y - (intOf vj).toNat)
              case atStart => exact ⟨0, by omega, rfl, hgr, hrw.congr fun t _ => by rw [wAt_start]⟩
              case round =>
                clear hrw hgr
                obtain ⟨r, hr, rfl, hgr, hrw⟩ := hrel
                by_cases hry : r < y
                · obtain ⟨ba, oa, ea, hca'⟩ := haX q hqx
                  obtain ⟨bb, ob, eb, hcb'⟩ := hbyX r hry
                  obtain ⟨la1, la2⟩ := hlA q hqx ba oa ea
                  obtain ⟨lb1, lb2⟩ := hlB r hry bb ob eb
                  have cA : wr.cell? ⟨ba, oa + q, none⟩ = some (.int .i32 (A q)) := (World.cell?_of_block (hgr.block ba la2 (by simp; omega))).trans hca'
                  have cB : wr.cell? ⟨bb, ob + r, none⟩ = some (.int .i32 (B r)) := (World.cell?_of_block (hgr.block bb lb2 (by simp; omega))).trans hcb'
                  have hmo := hmH.out
                  have cW := hrw.cell (i := q + r) (by omega)
                  have fW := hrw.frozen (q + r)
                  have hb1 := wAt_bound A B y q r (q + r) (by omega) hy5 (by omega) (fun i hi => hA2 i (by omega)) hB2
                  have hb2 := wAt_bound A B y q (r + 1) (q + r) (by omega) hy5 (by omega) (fun i hi => hA2 i (by omega)) hB2
                  rw [wAt_step, if_pos rfl] at hb2
                  have hup : (wr.setCell ⟨wg, q + r, none⟩ (.int .i64 (wAt A B y q r (q + r) + A q * B r))).rowIs wg 2 m' (fun t => .int .i64 (wAt A B y q (r + 1) t)) := (hrw.set (q + r) _).congr fun t _ => by
                    rw [wAt_step]
                    by_cases h : t = q + r
                    · rw [if_pos h, if_pos h]
                    · rw [if_neg h, if_neg h]
                  have hnext : Hid (∀ W', W' = (wr.setCell ⟨wg, q + r, none⟩ (.int .i64 (wAt A B y q r (q + r) + A q * B r))).drew → X.grownBy W' (some wg) ∧ W'.rowIs wg 2 m' (fun t => .int .i64 (wAt A B y q (r + 1) t))) := by
                    show ∀ W', _ → _
                    rintro W' rfl
                    exact ⟨grown_drew (grown_set hgr 0 _ _), hup⟩
                  have hAq := hA2 q hqx
                  have hBr := hB2 r hry
                  have hpr : (A q * B r).natAbs ≤ 1073741824 := by rw [Int.natAbs_mul]; exact Nat.le_trans (Nat.mul_le_mul hAq hBr) (by decide)
                  have j2 : (r : Int) < y := by omega
                  have j3 : (q : Int) + (r : Int) < m' := by omega
                  have j4 : ((q : Int) + (r : Int)).toNat = q + r := by omega
                  have j5 : (0 : Int) ≤ (q : Int) + (r : Int) := by omega
                  have v3 : IntKind.i64.wrap ((q : Int) + (r : Int)) = (q : Int) + (r : Int) := IntWalk.i64_in _ ⟨by omega, by omega⟩
                  have v4 : IntKind.i64.wrap (A q) = A q := IntWalk.i64_in _ ⟨by omega, by omega⟩
                  have v5 : IntKind.i64.wrap (B r) = B r := IntWalk.i64_in _ ⟨by omega, by omega⟩
                  have v6 : IntKind.i64.wrap (A q * B r) = A q * B r := IntWalk.i64_in _ ⟨by omega, by omega⟩
                  have v7 : IntKind.i64.wrap (wAt A B y q r (q + r) + A q * B r) = wAt A B y q r (q + r) + A q * B r := IntWalk.i64_in _ ⟨by omega, by omega⟩
                  subst ea eb
                  clear hrw hgr hup haX hbyX hcX hwX hlA hlB hca' hcb' hAx hBy hA2 hB2 hmo
                  generalize wAt A B y q r (q + r) = old at *
                  generalize hpp : A q * B r = pp at *
                  generalize A q = aq at *
                  generalize B r = br at *
                  go_wp2_with fail
                  go_region
                  all_goals go_wp2
                  all_goals exact ⟨⟨r + 1, by omega, by go_num, hnext.out _ rfl⟩, by simp [intOf]; omega⟩
                · have e : r = y := by omega
                  subst e
                  have hfin : Hid (wr.rowIs wg 2 m' (fun t => .int .i64 (cSum A B (q + 1) r t))) := hrw
                  clear hrw haX hbyX hcX hwX hlA hlB hAx hBy hA2 hB2
                  go_wp2
                  exact ⟨⟨q + 1, by omega, by go_num, hgr, hfin.out⟩, by simp [intOf]; omega⟩
            · have e : q = x := by omega
              subst e
              have hcr2 := grown_blk hgr hcX (show cg ≠ wg by omega)
              have hS := sameInts17 cg wg m' m' m' (fun t => cSum A B q y t) wr (by omega) hcr2 hrw
              have hbel := below_grown hwX hgr owg
              clear hrw hgr hcr2 haX hbyX hcX hwX hlA hlB hAx hBy hA2 hB2
              go_wp2_with fail
              with_reducible refine hS.mono ?_
              rintro e w3 ⟨rfl, d, rfl⟩
              go_wp2
              go_ret
              exact ⟨rfl, ⟨hbel.os, hbel.tape, hbel.output, hbel.size, hbel.block⟩⟩
      · have hC := convR_bad a b x y c1 c2 A B w (by omega) (by omega) hAx hBy hax hby (by
          by_cases h : balB A x
          · exact .inr fun h2 => hbal ⟨h, h2⟩
          · exact .inl h)
        by_cases b1 : balB A x
        · have b2 : ¬ balB B y := fun h => hbal ⟨b1, h⟩
          have t1 := balanced16 a x c1 A w (by omega) hAx hax true (by simp [b1])
          have t2 := balanced16 b y c2 B w (by omega) hBy hby false (by simp [b2])
          clear hax hby hAx hBy b1 b2 hbal
          go_wp2_with fail
          with_reducible refine hC.mono ?_
          rintro e w1 ⟨rfl, rfl⟩
          go_wp2_with fail
          with_reducible refine t1.mono ?_
          rintro e w1 ⟨rfl, rfl⟩
          go_wp2_with fail
          with_reducible refine t2.mono ?_
          rintro e w1 ⟨rfl, rfl⟩
          go_wp2
          go_ret
          exact ⟨rfl, Below.refl _ _⟩
        · have t1 := balanced16 a x c1 A w (by omega) hAx hax false (by simp [b1])
          clear hax hby hAx hBy b1 hbal
          go_wp2_with fail
          with_reducible refine hC.mono ?_
          rintro e w1 ⟨rfl, rfl⟩
          go_wp2_with fail
          with_reducible refine t1.mono ?_
          rintro e w1 ⟨rfl, rfl⟩
          go_wp2
          go_ret
          exact ⟨rfl, Below.refl _ _⟩
end Go.Proofs.Ygctag
