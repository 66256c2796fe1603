import Derived.Test.YgctagMulL
namespace Go.Proofs.Ygctag
open Go.RowKit
attribute [local go_sem] eql30 neq30

/-- The sums of two rows of digits. -/
def addC (P Q : Nat → Int) (nq i : Nat) : Int := P i + if i < nq then Q i else 0
theorem addC_bound {P Q : Nat → Int} {np nq : Nat} (hP : Bytes P np) (hQ : Bytes Q nq) (i : Nat) (hi : i < np) : 0 ≤ addC P Q nq i ∧ addC P Q nq i ≤ 510 := by
  have := hP i hi
  unfold addC
  split
  · next h => have := hQ i h; omega
  · omega
theorem addC_val (P Q : Nat → Int) (np nq : Nat) (h : nq ≤ np) : val (addC P Q nq) np = val P np + val Q nq := by
  unfold val evl
  have e : sumI (fun i => Q i * 256 ^ i) nq = sumI (fun i => (if i < nq then Q i else 0) * 256 ^ i) np := by
    rw [sumI_cut (n := nq) h (fun i h1 _ => by rw [if_neg (by omega), Int.zero_mul])]
    exact sumI_congr fun i hi => by rw [if_pos hi]
  rw [e, ← sumI_add]
  exact sumI_congr fun i _ => by unfold addC; rw [Int.add_mul]
theorem addC_over {P Q : Nat → Int} {np nq : Nat} (hP : Bytes P np) (hQ : Bytes Q nq) (t : Nat) (ht : t ≤ np) : 0 ≤ cyN (addC P Q nq) np t / P8 t ∧ cyN (addC P Q nq) np t / P8 t ≤ 1 := by
  induction t with
  | zero => show 0 ≤ (0 : Int) / P8 0 ∧ (0 : Int) / P8 0 ≤ _; rw [P8_zero]; decide
  | succ t ih =>
    rw [← cy_over, if_pos (by omega)]
    have h1 := ih (by omega)
    have h2 := addC_bound hP hQ t (by omega)
    omega
theorem addC_room {P Q : Nat → Int} {np nq : Nat} (hP : Bytes P np) (hQ : Bytes Q nq) : 0 ≤ val (addC P Q nq) np ∧ val (addC P Q nq) np < P8 (np + 1) := by
  have h := addC_over hP hQ np (Nat.le_refl _)
  rw [cyN_val _ _ (Nat.le_refl _)] at h
  have hp := P8_pos np
  have e := Int.emod_add_mul_ediv (val (addC P Q nq) np) (P8 np)
  have e1 := Int.emod_nonneg (val (addC P Q nq) np) (Int.ne_of_gt hp)
  have e2 := Int.emod_lt_of_pos (val (addC P Q nq) np) hp
  have l1 : P8 np * (val (addC P Q nq) np / P8 np) ≤ P8 np * 1 := Int.mul_le_mul_of_nonneg_left h.2 (Int.le_of_lt hp)
  have l0 : 0 ≤ P8 np * (val (addC P Q nq) np / P8 np) := Int.mul_nonneg (Int.le_of_lt hp) h.1
  rw [P8_succ]
  omega

set_option maxRecDepth 100000 in
set_option maxHeartbeats 4000000 in
theorem natAdd_ok (a b : Option Addr) (la lb ca cb : Nat) (A B : Nat → Int) (w : World) (hca : la ≤ ca) (hcb : lb ≤ cb) (hca2 : ca ≤ 1000000000) (hcb2 : cb ≤ 1000000000)
    (hx : Sl w a la fun i => .int .u8 (A i)) (hy : Sl w b lb fun i => .int .u8 (B i)) (hA : Bytes A la) (hB : Bytes B lb) :
    Calls Tagg.prog 55 #[.slice a la ca, .slice b lb cb] w fun e w' => ∃ v, e = .returned v ∧ NatOwn w' w.heap.size v (val A la + val B lb) ∧ Below w.heap.size w w' := by
  have hS1 := trim_any a la ca A w hca (by omega) hx
  have hS2 := trim_any b lb cb B w hcb (by omega) hy
  have ta := trimLen_le A la
  have tb := trimLen_le B lb
  have vA := val_trim A la
  have vB := val_trim B lb
  have hx' := hx.take ta
  have hy' := hy.take tb
  have hA' : Bytes A (trimLen A la) := fun i hi => hA i (by omega)
  have hB' : Bytes B (trimLen B lb) := fun i hi => hB i (by omega)
  obtain ⟨V, hV⟩ : ∃ V, V = val A la + val B lb := ⟨_, rfl⟩
  have hV2 : V = val A (trimLen A la) + val B (trimLen B lb) := by rw [hV, vA, vB]
  rw [← hV]
  clear vA vB hx hy hV hA hB
  generalize trimLen A la = na at *
  generalize trimLen B lb = nb at *
  obtain ⟨a', hca', haa⟩ := cutV_slice a na
  obtain ⟨b', hcb', hbb⟩ := cutV_slice b nb
  rw [hca'] at hS1
  rw [hcb'] at hS2
  have hxs : Sl w a' na fun i => .int .u8 (A i) := fun i hi => by rw [haa (by omega)]; exact hx' i hi
  have hys : Sl w b' nb fun i => .int .u8 (B i) := fun i hi => by rw [hbb (by omega)]; exact hy' i hi
  clear hx' hy' hca' hcb' haa hbb
  go_enter Tagg.func55, Tagg.ntmps55
  go_wp2_with fail
  with_reducible refine hS1.mono ?_
  rintro e w1 ⟨rfl, rfl⟩
  go_wp2_with fail
  with_reducible refine hS2.mono ?_
  rintro e w2 ⟨rfl, rfl⟩
  clear hS1 hS2
  have hVH : Hid (V = val A na + val B nb) := hV2
  clear hV2
  go_upto_if 17 with fail
  go_cut [0, 1] (fun va vb wx => ∃ (p q : Option Addr) (np nq : Nat) (P Q : Nat → Int), va = .slice p np np ∧ vb = .slice q nq nq ∧ nq ≤ np ∧ np ≤ 1000000000 ∧ Sl w2 p np (fun i => .int .u8 (P i)) ∧ Sl w2 q nq (fun i => .int .u8 (Q i)) ∧ Bytes P np ∧ Bytes Q nq ∧ V = val P np + val Q nq ∧ w2 = wx)
  case first =>
    by_cases hlt : na < nb
    · have i1 : (na : Int) < nb := by omega
      have hrel : Hid (∃ (p q : Option Addr) (np nq : Nat) (P Q : Nat → Int), Value.slice b' nb nb = .slice p np np ∧ Value.slice a' na na = .slice q nq nq ∧ nq ≤ np ∧ np ≤ 1000000000 ∧ Sl w2 p np (fun i => .int .u8 (P i)) ∧ Sl w2 q nq (fun i => .int .u8 (Q i)) ∧ Bytes P np ∧ Bytes Q nq ∧ V = val P np + val Q nq) :=
        ⟨b', a', nb, na, B, A, rfl, rfl, by omega, by omega, hys, hxs, hB', hA', by rw [hVH.out, Int.add_comm]⟩
      clear hxs hys
      go_wp2
      go_meet
      obtain ⟨p, q, np, nq, P, Q, h1, h2, h3, h4, h5, h6, h7, h8, h9⟩ := hrel.out
      exact ⟨p, q, np, nq, P, Q, h1, h2, h3, h4, h5, h6, h7, h8, h9, rfl⟩
    · have i1 : (nb : Int) ≤ na := by omega
      have hrel : Hid (∃ (p q : Option Addr) (np nq : Nat) (P Q : Nat → Int), Value.slice a' na na = .slice p np np ∧ Value.slice b' nb nb = .slice q nq nq ∧ nq ≤ np ∧ np ≤ 1000000000 ∧ Sl w2 p np (fun i => .int .u8 (P i)) ∧ Sl w2 q nq (fun i => .int .u8 (Q i)) ∧ Bytes P np ∧ Bytes Q nq ∧ V = val P np + val Q nq) :=
        ⟨a', b', na, nb, A, B, rfl, rfl, by omega, by omega, hxs, hys, hA', hB', hVH.out⟩
      clear hxs hys
      go_wp2
      go_meet
      obtain ⟨p, q, np, nq, P, Q, h1, h2, h3, h4, h5, h6, h7, h8, h9⟩ := hrel.out
      exact ⟨p, q, np, nq, P, Q, h1, h2, h3, h4, h5, h6, h7, h8, h9, rfl⟩
  case rest =>
    clear hxs hys hVH hA' hB' ta tb hca hcb hca2 hcb2
    obtain ⟨p, q, np, nq, P, Q, rfl, rfl, hnq, hnp, hxs, hys, hP, hQ, hV, rfl⟩ := hcut
    have hmk := run_make_row' (P := Tagg.prog) 30 5 (.int .u8 0) 1 Tagg.underlying30 Tagg.info5 rfl .i64 .i64 (np + 1) (by omega) (by omega)
    rw [show ((np + 1 : Nat) : Int) = (np : Int) + 1 by simp] at hmk
    rw [← addC_val P Q np nq hnq] at hV
    have hroom := addC_room hP hQ
    rw [← hV] at hroom
    have hVH : Hid (V = val (addC P Q nq) np) := hV
    have hover := fun t ht => addC_over hP hQ t ht
    have hcv : ∀ i, addC P Q nq i = P i + if i < nq then Q i else 0 := fun _ => rfl
    clear hV
    generalize addC P Q nq = c at *
    go_wp2_with fail
    generalize eX : w2.alloc _ = X
    have hbX : Below w2.heap.size w2 X := by rw [← eX]; exact (Below.refl _ _).alloc (Nat.le_refl _) _
    have hrX : X.rowIs w2.heap.size 5 (np + 1) (fun _ => .int .u8 0) := by rw [← eX]; exact made_at rfl _ _ _
    clear eX hmk
    have hgX : w2.grownBy X (some w2.heap.size) := grown_of_below hbX
    obtain ⟨g, hg⟩ : ∃ g, g = w2.heap.size := ⟨_, rfl⟩
    rw [← hg] at hrX hgX ⊢
    have hgH : Hid (g = w2.heap.size) := hg
    clear hg hbX
    go_loopw [6, 7] (fun ov i w5 => ∃ t : Nat, t ≤ np ∧ i = .int .i64 (t : Int) ∧ ov = .int .u16 (cyN c np t / P8 t) ∧ w2.grownBy w5 (some g) ∧ w5.rowIs g 5 (np + 1) (fun j => .int .u8 (if j < t then dg8 V j else 0))) (fun _ i _ => np - (intOf i).toNat)
    case atStart => exact ⟨0, by omega, rfl, by show _ = Value.int .u16 ((0 : Int) / P8 0); rw [P8_zero]; rfl, hgX, hrX.congr fun j _ => by rw [if_neg (by omega)]⟩
    case round =>
      clear hrX hgX
      obtain ⟨t, ht, rfl, rfl, hgr, hrw⟩ := hrel
      have dgt := cy_digit c np t
      rw [← hVH.out] at dgt
      have ovr := cy_over c np t
      have hbd := hover t ht
      have cR := hrw.cell (i := t) (by omega)
      have cF := hrw.frozen t
      have hup := row_up8 (F := dg8 V) (G := fun _ => 0) hrw
      by_cases htl : t < np
      · rw [if_pos htl, hcv] at dgt ovr
        obtain ⟨b1, o1, rfl, cp⟩ := hxs t htl
        have cp' : wr.cell? ⟨b1, o1 + t, none⟩ = some (.int .u8 (P t)) := (World.cell?_of_block (hgr.block b1 (cell_lt cp) (by have := cell_lt cp; have := hgH.out; simp at *; omega))).trans cp
        have i1 : (t : Int) < np := by omega
        have i2 : (t : Int) < (np : Int) + 1 := by omega
        have hPt := hP t htl
        have hnext : Hid (∀ W', W' = wr.setCell ⟨g, t, none⟩ (.int .u8 (dg8 V t)) → w2.grownBy W' (some g) ∧ W'.rowIs g 5 (np + 1) (fun j => .int .u8 (if j < t + 1 then dg8 V j else 0))) := by
          show ∀ W', _ → _
          rintro W' rfl
          exact ⟨grown_set hgr 0 _ _, hup⟩
        obtain ⟨OV, hOV⟩ : ∃ OV, OV = cyN c np (t + 1) / P8 (t + 1) := ⟨_, rfl⟩
        rw [← hOV] at ovr
        have hOVH : Hid (OV = cyN c np (t + 1) / P8 (t + 1)) := hOV
        by_cases htq : t < nq
        · rw [if_pos htq] at dgt ovr
          obtain ⟨b2, o2, rfl, cq⟩ := hys t htq
          have cq' : wr.cell? ⟨b2, o2 + t, none⟩ = some (.int .u8 (Q t)) := (World.cell?_of_block (hgr.block b2 (cell_lt cq) (by have := cell_lt cq; have := hgH.out; simp at *; omega))).trans cq
          have i3 : (t : Int) < nq := by omega
          have hQt := hQ t htq
          clear hxs hys hrw hgr hup hOV cp cq hP hQ hover hroom hcv
          generalize cyN c np t / P8 t = OL at *
          rw [show OL + (P t + Q t) = P t + OL + Q t by omega] at dgt ovr
          have dgt' : IntKind.u8.wrap (P t + OL + Q t) = dg8 V t := dgt
          clear dgt
          go_wp2
          exact ⟨⟨t + 1, by omega, by go_num, by rw [hOVH.out], hnext.out _ rfl⟩, by simp [intOf]; omega⟩
        · rw [if_neg htq, Int.add_zero] at dgt ovr
          have i3 : (nq : Int) ≤ t := by omega
          clear hxs hys hrw hgr hup hOV cp hP hQ hover hroom hcv
          generalize cyN c np t / P8 t = OL at *
          rw [show OL + P t = P t + OL by omega] at dgt ovr
          have dgt' : IntKind.u8.wrap (P t + OL) = dg8 V t := dgt
          clear dgt
          go_wp2
          exact ⟨⟨t + 1, by omega, by go_num, by rw [hOVH.out], hnext.out _ rfl⟩, by simp [intOf]; omega⟩
      · have e : t = np := by omega
        subst e
        rw [if_neg (by omega), Int.add_zero] at dgt
        have hbel : Below w2.heap.size w2 wr := ⟨hgr.os, hgr.tape, hgr.output, hgr.size, fun j hj => hgr.block j hj (by have := hgH.out; simp; omega)⟩
        have hrow : (wr.setCell ⟨g, t, none⟩ (.int .u8 (dg8 V t))).rowIs g 5 (t + 1) (fun j => .int .u8 (dg8 V j)) := hup.congr fun j hj => by rw [if_pos hj]
        have hgW : w2.heap.size ≤ g := by have := hgH.out; omega
        have hbW : Below w2.heap.size w2 (wr.setCell ⟨g, t, none⟩ (.int .u8 (dg8 V t))) := hbel.setCell hgW _
        have hT := fun w hx => trim_any (some ⟨g, 0, none⟩) (t + 1) (t + 1) (dg8 V) w (Nat.le_refl _) (by omega) hx
        have dgt' : IntKind.u8.wrap (cyN c t t / P8 t) = dg8 V t := dgt
        have i2 : (t : Int) < (t : Int) + 1 := by omega
        have hown := natOwn_cut (B := w2.heap.size) hgW hroom.1 hroom.2 hrow
        clear hrw hup hgr hbel hxs hys hover hcv hP hQ dgt ovr
        generalize cyN c t t / P8 t = OL at *
        go_wp2_with fail
        with_reducible refine (hT _ (Sl.of_row hrow)).mono ?_
        rintro e w6 ⟨rfl, rfl⟩
        go_wp2
        go_ret
        exact ⟨_, rfl, hown, hbW⟩
end Go.Proofs.Ygctag
