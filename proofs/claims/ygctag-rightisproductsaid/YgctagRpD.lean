import Derived.Test.YgctagRpC
namespace Go.Proofs.Ygctag
open Go.RowKit

theorem P8_mulR (a b : Nat) : P8 a * P8 b = P8 (a + b) := by unfold P8; rw [Nat.pow_add, Int.natCast_mul]
theorem Sl.drawn {w : World} {a : Option Addr} {n : Nat} {f : Nat → Value} (h : Sl w a n f) (d : Nat) : Sl (w.drewN d) a n f := h
theorem NatOwn.drawn {w : World} {B : Nat} {v : Value} {V : Int} (h : NatOwn w B v V) (d : Nat) : NatOwn (w.drewN d) B v V := h
theorem NatOwn.bel {w w' : World} {B : Nat} {v : Value} {V : Int} (h : NatOwn w B v V) (hb : Below w.heap.size w w') : NatOwn w' B v V := by
  obtain ⟨g, n, N, h1, h2, h3, h4, h5⟩ := h
  exact ⟨g, n, N, h1, h2, h3, fun h0 => (h4 h0).of_block (hb.block g (h4 h0).lt), h5⟩

set_option maxRecDepth 100000 in
set_option maxHeartbeats 8000000 in
theorem rightIsProduct_walk (a b : Option Addr) (n m ca cb : Nat) (A B : Nat → Int) (w : World) (hn : n ≤ ca) (hm : m ≤ cb) (hca : ca ≤ 140737488351232) (hcb : cb ≤ 140737488351232)
    (hA : Bytes A n) (hB : Bytes B m) (ha : Sl w a n fun i => .int .u8 (A i)) (hb : Sl w b m fun i => .int .u8 (B i)) :
    Calls Tagg.prog 4 #[.slice a n ca, .slice b m cb] w fun e w' => e = .returned (.bool true) ∧ Below w.heap.size w w' := by
  have hD1 := digits_ok a n ca 1022 w hn
  have hD2 := fun W => digits_ok b m cb 1022 W hm
  rw [show ((1022 : Nat) : Int) = 1022 by rfl] at hD1 hD2
  obtain ⟨x, hx⟩ : ∃ x, x = min n 1022 := ⟨_, rfl⟩
  obtain ⟨y, hy⟩ : ∃ y, y = min m 1022 := ⟨_, rfl⟩
  rw [← hx] at hD1
  rw [← hy] at hD2
  have hAx : Bytes A x := fun i hi => hA i (by omega)
  have hBy : Bytes B y := fun i hi => hB i (by omega)
  have ha' := ha.take (show x ≤ n by omega)
  have hb' := hb.take (show y ≤ m by omega)
  have hx1 : x ≤ 1022 := by omega
  have hy1 : y ≤ 1022 := by omega
  have bV1 := val_bound hAx
  have bV2 := val_bound hBy
  have hT1 := fun c W h1 h2 hs => takeOwn18 a x c A W h1 h2 hx1 hAx hs
  have hT2 := fun c W h1 h2 hs => takeOwn18 b y c B W h1 h2 hy1 hBy hs
  obtain ⟨V1, hV1⟩ : ∃ V1, V1 = val A x := ⟨_, rfl⟩
  obtain ⟨V2, hV2⟩ : ∃ V2, V2 = val B y := ⟨_, rfl⟩
  rw [← hV1] at bV1
  rw [← hV2] at bV2
  simp only [← hV1] at hT1
  simp only [← hV2] at hT2
  have l1 : V1 < P8 1022 := Int.lt_of_lt_of_le bV1.2 (P8_mono hx1)
  have l2 : V2 < P8 1022 := Int.lt_of_lt_of_le bV2.2 (P8_mono hy1)
  have p1 : 0 ≤ V1 := bV1.1
  have p2 : 0 ≤ V2 := bV2.1
  have l3 : V1 < P8 10000000 := Int.lt_of_lt_of_le l1 (P8_mono (by decide))
  have p3 : 0 ≤ V1 * V2 := Int.mul_nonneg p1 p2
  have l4 : V1 * V2 < P8 10000000 := by
    have h1 : V1 * V2 < P8 1022 * P8 1022 := Int.lt_of_le_of_lt (Int.mul_le_mul_of_nonneg_left (Int.le_of_lt l2) p1) (Int.mul_lt_mul_of_pos_right l1 (P8_pos 1022))
    rw [P8_mulR] at h1
    exact Int.lt_of_lt_of_le h1 (P8_mono (by decide))
  clear hx hy ha hb hA hB hAx hBy bV1 bV2 hV1 hV2 hn hm
  obtain ⟨PR, hPR⟩ : ∃ PR, PR = V1 * V2 := ⟨_, rfl⟩
  rw [← hPR] at p3 l4
  have hPRH : Hid (PR = V1 * V2) := hPR
  clear hPR
  go_enter Tagg.func4, Tagg.ntmps4
  go_wp2_with fail
  with_reducible refine hD1.mono ?_
  rintro e w0 ⟨⟨c1, rfl, hc1, hc1'⟩, rfl⟩
  have hT1' := hT1 c1 w0 hc1 (by omega) ha'
  clear hT1 hD1 ha'
  go_wp2_with fail
  with_reducible refine hT1'.mono ?_
  rintro e w1 ⟨xv, rfl, hxo, hb1⟩
  clear hT1'
  go_wp2_with fail
  with_reducible refine (hD2 _).mono ?_
  rintro e w1' ⟨⟨c2, rfl, hc2, hc2'⟩, rfl⟩
  have hT2' := hT2 c2 w1' hc2 (by omega) (hb'.below hb1)
  clear hT2 hD2 hb'
  go_wp2_with fail
  with_reducible refine hT2'.mono ?_
  rintro e w2 ⟨yv, rfl, hyo, hb2⟩
  clear hT2'
  have hxo2 := hxo.bel hb2
  have hw2 : Below w0.heap.size w0 w2 := hb1.trans (hb2.mono hb1.size)
  clear hxo hb1 hb2
  obtain ⟨xa, nx, rfl, hnx, hVx, hsx, hvx⟩ := hxo2.slN 1022 l1
  obtain ⟨ya, ny, rfl, hny, hVy, hsy, hvy⟩ := hyo.slN 1022 l2
  have hW1 := words21 xa nx nx V1 w2 (by omega) p1 hVx hsx
  go_wp2_with fail
  with_reducible refine hW1.mono ?_
  rintro e w3 ⟨g3, L1, hL1, rfl, -, hr3, hb3⟩
  have hVL1 : V1 < P16 L1 := by rw [← P8_two]; exact Int.lt_of_lt_of_le hVx (P8_mono (by omega))
  have hL1' : L1 ≤ 511 := by omega
  clear hW1 hL1
  have hw3 := hw2.trans (hb3.mono hw2.size)
  have hxo3 := hxo2.bel hb3
  have hyo3 := hyo.bel hb3
  have hsx3 := hsx.below hb3
  have hsy3 := hsy.below hb3
  clear hxo2 hyo hsx hsy hw2 hb3
  have hB1 := balance_any g3 L1 V1 w3 hL1' p1 hVL1 hr3
  go_wp2_with fail
  with_reducible refine hB1.mono ?_
  rintro e w4 ⟨pa, lp, P, rfl, hlp, hPb, hPs, hsp, hb4⟩
  clear hB1 hr3
  have hw4 := hw3.trans (hb4.mono hw3.size)
  have hxo4 := hxo3.bel hb4
  have hyo4 := hyo3.bel hb4
  have hsx4 := hsx3.below hb4
  have hsy4 := hsy3.below hb4
  clear hxo3 hyo3 hsx3 hsy3 hw3 hb4
  have hW2 := words21 ya ny ny V2 w4 (by omega) p2 hVy hsy4
  go_wp2_with fail
  with_reducible refine hW2.mono ?_
  rintro e w5 ⟨g5, L2, hL2, rfl, -, hr5, hb5⟩
  have hVL2 : V2 < P16 L2 := by rw [← P8_two]; exact Int.lt_of_lt_of_le hVy (P8_mono (by omega))
  have hL2' : L2 ≤ 511 := by omega
  clear hW2 hL2
  have hw5 := hw4.trans (hb5.mono hw4.size)
  have hxo5 := hxo4.bel hb5
  have hsx5 := hsx4.below hb5
  have hsy5 := hsy4.below hb5
  have hsp5 := hsp.below hb5
  clear hxo4 hyo4 hsx4 hsy4 hw4 hb5 hsp
  have hB2 := balance_any g5 L2 V2 w5 hL2' p2 hVL2 hr5
  go_wp2_with fail
  with_reducible refine hB2.mono ?_
  rintro e w6 ⟨qa, lq, Q, rfl, hlq, hQb, hQs, hsq, hb6⟩
  clear hB2 hr5
  have hw6 := hw5.trans (hb6.mono hw5.size)
  have hxo6 := hxo5.bel hb6
  have hsx6 := hsx5.below hb6
  have hsy6 := hsy5.below hb6
  have hsp6 := hsp5.below hb6
  clear hxo5 hsx5 hsy5 hw5 hb6 hsp5
  have hPsH : Hid (sum16 P lp = V1) := hPs
  have hQsH : Hid (sum16 Q lq = V2) := hQs
  clear hPs hQs hVL1 hVL2
  have hmk := run_make_row' (P := Tagg.prog) 23 2 (.int .i64 0) 8 Tagg.underlying23 Tagg.info2'' rfl .i64 .i64 lp (by omega) (by omega)
  go_wp2_with fail
  generalize eX : w6.alloc _ = X
  have hbX : Below w6.heap.size w6 X := by rw [← eX]; exact (Below.refl _ _).alloc (Nat.le_refl _) _
  have hrX : X.rowIs w6.heap.size 2 lp (fun _ => .int .i64 0) := by rw [← eX]; exact made_at rfl _ _ _
  clear eX hmk
  have hgX : X.grownBy X (some w6.heap.size) := ⟨rfl, rfl, rfl, Nat.le_refl _, fun _ _ _ => rfl⟩
  obtain ⟨wg, hwg⟩ : ∃ wg, wg = w6.heap.size := ⟨_, rfl⟩
  have hspX := hsp6.below hbX
  have hlt : ∀ i, i < lp → ∀ b o, pa = some ⟨b, o, none⟩ → b < wg ∧ b < X.heap.size := fun i hi b o e => by
    obtain ⟨b', o', e', hcc⟩ := hsp6 i hi
    rw [e] at e'
    injection e' with e'
    injection e' with e1 e2
    subst e1
    have h1 : b < w6.heap.size := cell_lt hcc
    have h2 := hbX.size
    exact ⟨by omega, by omega⟩
  have hgH : Hid (w6.heap.size ≤ wg) := by show w6.heap.size ≤ wg; omega
  rw [← hwg] at hrX hgX ⊢
  clear hwg
  go_loopw [10] (fun vi wr => ∃ q : Nat, q ≤ lp ∧ vi = .int .i64 (q : Int) ∧ X.grownBy wr (some wg) ∧ wr.rowIs wg 2 lp (fun i => .int .i64 (if i < q then P i else 0))) (fun vi _ => lp - (intOf vi).toNat)
  case atStart => exact ⟨0, by omega, rfl, hgX, hrX.congr fun i _ => by rw [if_neg (Nat.not_lt_zero _)]⟩
  case round =>
    clear hrX hgX
    obtain ⟨q, hq, rfl, hgr, hrw⟩ := hrel
    by_cases hql : q < lp
    · obtain ⟨bb, oo, rfl, hc⟩ := hspX q hql
      obtain ⟨o1, o2⟩ := hlt q hql bb oo rfl
      have cA : wr.cell? ⟨bb, oo + q, none⟩ = some (.int .i32 (P q)) := (World.cell?_of_block (hgr.block bb o2 (by simp; omega))).trans hc
      obtain ⟨r0, r1⟩ := hPb q hql
      have j1 : (q : Int) < lp := by omega
      have cW := hrw.cell (i := q) hql
      have fW := hrw.frozen q
      have vp : IntKind.i64.wrap (P q) = P q := IntWalk.i64_in _ ⟨by omega, by omega⟩
      have hup : (wr.setCell ⟨wg, q, none⟩ (.int .i64 (P q))).rowIs wg 2 lp (fun i => .int .i64 (if i < q + 1 then P i else 0)) := (hrw.set q _).congr fun i _ => by
        by_cases h : i = q
        · subst h; rw [if_pos rfl, if_pos (Nat.lt_succ_self _)]
        · rw [if_neg h]
          by_cases h2 : i < q
          · rw [if_pos h2, if_pos (by omega)]
          · rw [if_neg h2, if_neg (by omega)]
      have hnext : Hid (∀ W', W' = wr.setCell ⟨wg, q, none⟩ (.int .i64 (P q)) → X.grownBy W' (some wg) ∧ W'.rowIs wg 2 lp (fun i => .int .i64 (if i < q + 1 then P i else 0))) := by
        show ∀ W', _ → _
        rintro W' rfl
        exact ⟨grown_set hgr 0 _ _, hup⟩
      clear hrw hgr hup hspX hlt hc hbX hsp6 hsq hsx6 hsy6 hxo6 hw6 hPb hQb
      generalize P q = pq at *
      go_wp2
      exact ⟨⟨q + 1, by omega, by go_num, hnext.out _ rfl⟩, by simp [intOf]; omega⟩
    · have e : q = lp := by omega
      subst e
      have hrow : wr.rowIs wg 2 q (fun i => .int .i64 (P i)) := hrw.congr fun i hi => by rw [if_pos hi]
      have hbr : Below w6.heap.size w6 wr := below_grown hbX hgr hgH.out
      have hw7 := hw6.trans (hbr.mono hw6.size)
      have hxo7 := hxo6.bel hbr
      have hsx7 := hsx6.below hbr
      have hsy7 := hsy6.below hbr
      have hsp7 := hsp6.below hbr
      have hsq7 := hsq.below hbr
      clear hrw hgr hspX hlt hbX hsp6 hsq hsx6 hsy6 hxo6 hw6 hbr
      have hU := unbal_ok (some ⟨wg, 0, none⟩) q P V1 wr (by omega) p1 (fun i hi => by have := hPb i hi; omega) hPsH.out (Sl.of_row hrow)
      clear hrow
      go_wp2_with fail
      with_reducible refine hU.mono ?_
      rintro e w8 ⟨nb, ba, rfl, hnb, hVb, hsb, hb8⟩
      clear hU
      have hw8 := hw7.trans (hb8.mono hw7.size)
      have hxo8 := hxo7.bel hb8
      have hsx8 := hsx7.below hb8
      have hsy8 := hsy7.below hb8
      have hsp8 := hsp7.below hb8
      have hsq8 := hsq7.below hb8
      clear hxo7 hsx7 hsy7 hsp7 hsq7 hw7 hb8
      have hBy := bytes24 ba nb nb V1 w8 (by omega) p1 hVb hsb
      go_wp2_with fail
      with_reducible refine hBy.mono ?_
      rintro e w9 ⟨bv, rfl, hbo, hb9⟩
      clear hBy hsb hVb
      have hw9 := hw8.trans (hb9.mono hw8.size)
      have hxo9 := hxo8.bel hb9
      have hsx9 := hsx8.below hb9
      have hsy9 := hsy8.below hb9
      have hsp9 := hsp8.below hb9
      have hsq9 := hsq8.below hb9
      clear hxo8 hsx8 hsy8 hsp8 hsq8 hw8 hb9
      have hS := sameOwn23 _ _ bv _ V1 w9 l3 hbo hxo9
      clear hbo hxo9
      go_wp2_with fail
      with_reducible refine hS.mono ?_
      rintro e w10 ⟨rfl, d1, rfl⟩
      clear hS
      have hw10 : Below w0.heap.size w0 (w9.drewN d1) := below_drewN hw9 d1
      have hsx10 := hsx9.drawn d1
      have hsy10 := hsy9.drawn d1
      have hsp10 := hsp9.drawn d1
      have hsq10 := hsq9.drawn d1
      clear hw9 hsx9 hsy9 hsp9 hsq9
      generalize w9.drewN d1 = w10 at *
      have hC := convR_any pa qa q lq P Q w10 hlp hlq hPb hQb hsp10 hsq10
      rw [hPsH.out, hQsH.out, ← hPRH.out] at hC
      clear hsp10 hsq10 hPb hQb
      go_wp2_with fail
      with_reducible refine hC.mono ?_
      rintro e w11 ⟨cc, mm, C, rfl, hmm, hCb, hCs, hsc, hb11⟩
      clear hC
      have hw11 := hw10.trans (hb11.mono hw10.size)
      have hsx11 := hsx10.below hb11
      have hsy11 := hsy10.below hb11
      clear hsx10 hsy10 hw10 hb11
      have hU2 := unbal_ok cc mm C PR w11 hmm p3 hCb hCs hsc
      clear hsc hCb hCs
      go_wp2_with fail
      with_reducible refine hU2.mono ?_
      rintro e w12 ⟨nr, ra, rfl, hnr, hVr, hsr, hb12⟩
      clear hU2
      have hw12 := hw11.trans (hb12.mono hw11.size)
      have hsx12 := hsx11.below hb12
      have hsy12 := hsy11.below hb12
      clear hsx11 hsy11 hw11 hb12
      have hBy2 := bytes24 ra nr nr PR w12 (by omega) p3 hVr hsr
      clear hsr hVr
      go_wp2_with fail
      with_reducible refine hBy2.mono ?_
      rintro e w13 ⟨rv, rfl, hro, hb13⟩
      clear hBy2
      have hw13 := hw12.trans (hb13.mono hw12.size)
      have hsx13 := hsx12.below hb13
      have hsy13 := hsy12.below hb13
      clear hsx12 hsy12 hw12 hb13
      have hMS := school_ok xa ya nx nx ny ny (dg8 V1) (dg8 V2) w13 (Nat.le_refl _) (Nat.le_refl _) (by omega) (by omega) (by omega) (by omega) hsx13 hsy13 (fun i _ => by have := dg8_bound V1 i; omega) (fun i _ => by have := dg8_bound V2 i; omega)
      rw [hvx, hvy, ← hPRH.out] at hMS
      clear hsx13 hsy13
      go_wp2_with fail
      with_reducible refine hMS.mono ?_
      rintro e w14 ⟨sv', rfl, hso, hb14⟩
      clear hMS
      have hw14 := hw13.trans (hb14.mono hw13.size)
      have hro14 := hro.bel hb14
      clear hro hw13 hb14
      have hS2 := sameOwn23 _ _ rv sv' PR w14 l4 hro14 hso
      clear hro14 hso
      go_wp2_with fail
      with_reducible refine hS2.mono ?_
      rintro e w15 ⟨rfl, d2, rfl⟩
      go_wp2
      go_ret
      exact ⟨rfl, below_drewN hw14 d2⟩
end Go.Proofs.Ygctag
