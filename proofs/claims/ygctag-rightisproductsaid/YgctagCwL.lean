import Derived.Test.YgctagCwK
import Derived.Deep.RegionHeld3
namespace Go.Proofs.Ygctag
open Go.RowKit
attribute [local go_sem] run_store_complex run_neg_float

theorem grown_blk {w w' : World} {g : Nat} (h : w.grownBy w' (some g)) {b : Nat} {t n : Nat} {f : Nat → Value} (hr : w.rowIs b t n f) (hne : b ≠ g) : w'.rowIs b t n f := hr.of_block (h.block b hr.lt (by simpa using hne))
theorem below_grown {w w0 w' : World} {g : Nat} (hb : Below w.heap.size w w0) (hg : w0.grownBy w' (some g)) (hB : w.heap.size ≤ g) : Below w.heap.size w w' := hb.grown hg hb.size (fun t ht => by injection ht with ht; omega)

set_option maxRecDepth 100000 in
set_option maxHeartbeats 8000000 in
theorem convR_ok (a b : Option Addr) (la lb ca cb : Nat) (A B : Nat → Int) (w : World) (hla1 : 1 ≤ la) (hlb1 : 1 ≤ lb) (hbA : balB A la) (hbB : balB B lb) (hA : ∀ i, i < la → -2147483648 ≤ A i ∧ A i ≤ 2147483647) (hB : ∀ i, i < lb → -2147483648 ≤ B i ∧ B i ≤ 2147483647)
    (ha : Sl w a la fun i => .int .i32 (A i)) (hb : Sl w b lb fun i => .int .i32 (B i)) :
    Calls Tagg.prog 15 #[.slice a la ca, .slice b lb cb] w fun e w' => ∃ g m, m = la + lb - 1 ∧ e = .returned (.tuple #[.slice (some ⟨g, 0, none⟩) m m, .bool true]) ∧ w.heap.size ≤ g ∧ w'.rowIs g 2 m (fun i => .int .i64 (cSum A B la lb i)) ∧ Below w.heap.size w w' := by
  have hla : la ≤ 512 := hbA.1
  have hlb : lb ≤ 512 := hbB.1
  have t1 := tooMuch57 a la ca A w (by omega) hA ha false (by simp [hbA])
  have t2 := tooMuch57 b lb cb B w (by omega) hB hb false (by simp [hbB])
  obtain ⟨m, hm⟩ : ∃ m, m = la + lb - 1 := ⟨_, rfl⟩
  obtain ⟨k, hk1, hk, hk3, hk4⟩ := leastLog ((m + 1) / 2) 9 (by decide) (by omega)
  obtain ⟨n, hn⟩ : ∃ n, n = 2 ^ k := ⟨_, rfl⟩
  have hfit : la + lb - 1 ≤ 2 * 2 ^ k := by omega
  obtain ⟨hgd, hraw⟩ := raw_ok A B la lb k hk1 hk hla hlb hla1 hlb1 hfit hbA.2 hbB.2
  have gA := (fwd_all k hk1 hk (foldAt A (2 ^ k) la) (fun i _ => (fold16_ok A (2 ^ k) la i hbA.2).1) (norm_fold A la k hla (by omega) hbA.2)).1
  have gB := (fwd_all k hk1 hk (foldAt B (2 ^ k) lb) (fun i _ => (fold16_ok B (2 ^ k) lb i hbB.2).1) (norm_fold B lb k hlb (by omega) hbB.2)).1
  have hT40 := tab_ok40 k hk1 hk
  have hCT := ctab_ok k hk1 hk
  have hT50 := fun j hj => (tab_ok50 k hk j hj).1
  have hLv := levels58 k ((m + 1) / 2) hk1 (by omega) hk3 hk4
  obtain ⟨h, hh⟩ : ∃ h, h = 2 ^ (k - 1) := ⟨_, rfl⟩
  have hnh : n = 2 * h := by rw [hn, hh, ← Nat.pow_succ']; congr 1; omega
  have hTb := fun W => table32 k hk1 (by omega) h hh W
  have hTw := fun W => table32 (k + 2) (by omega) (by omega) (2 * n) (by rw [hn, ← Nat.pow_succ']; congr 1) W
  have hle : 2 ^ k ≤ 2 ^ 9 := Nat.pow_le_pow_right (by decide) hk
  have hn5 : n ≤ 512 := by omega
  have hn1 : 1 ≤ n := by rw [hn]; exact Nat.two_pow_pos k
  have hFa := fun wg W hx hw => folded59 a la ca wg (2 * n) (2 * n) n A (tabB (k + 2)) W hn1 hn5 (by omega) (by omega) hbA.2 hx hw (fun j hj => hT50 j (by rw [Nat.pow_succ, ← hn]; omega))
  have hFb := fun wg W hx hw => folded59 b lb cb wg (2 * n) (2 * n) n B (tabB (k + 2)) W hn1 hn5 (by omega) (by omega) hbB.2 hx hw (fun j hj => hT50 j (by rw [Nat.pow_succ, ← hn]; omega))
  have gwA : ∀ p, p < 2 ^ k → Gd 22 (cmulB (foldAt A n la p) (tabB (k + 2) p)) := fun p hp => by
    have := tab_ok50 k hk p (by rw [Nat.pow_succ]; omega)
    exact (weigh (fold16_ok A n la p hbA.2).1 this.1 (by omega) (rootWW.unit _) this.2).1
  have gwB : ∀ p, p < 2 ^ k → Gd 22 (cmulB (foldAt B n lb p) (tabB (k + 2) p)) := fun p hp => by
    have := tab_ok50 k hk p (by rw [Nat.pow_succ]; omega)
    exact (weigh (fold16_ok B n lb p hbB.2).1 this.1 (by omega) (rootWW.unit _) this.2).1
  have hFwA := fun xg tg W hne hx ht => forward60 k xg n n tg h h 22 (tabB k) (fun j => cmulB (foldAt A n la j) (tabB (k + 2) j)) WW rootWW W hk1 hk (by omega) hn hnh hne hT40 gwA hx ht
  have hFwB := fun xg tg W hne hx ht => forward60 k xg n n tg h h 22 (tabB k) (fun j => cmulB (foldAt B n lb j) (tabB (k + 2) j)) WW rootWW W hk1 hk (by omega) hn hnh hne hT40 gwB hx ht
  have eA : fftB (tabB k) k (fun p => cmulB (foldAt A n la (rev k p)) (tabB (k + 2) (rev k p))) k = fwdB k (foldAt A n la) := rfl
  have eB : fftB (tabB k) k (fun p => cmulB (foldAt B n lb (rev k p)) (tabB (k + 2) (rev k p))) k = fwdB k (foldAt B n lb) := rfl
  simp only [eA] at hFwA
  simp only [eB] at hFwB
  rw [← hn] at hgd hraw gA gB
  have hprod : ∀ p, p < 2 ^ k → Gd 211 (prodB (fwdB k (foldAt A n la)) (fwdB k (foldAt B n lb)) p) := fun p hp => (prod_le (gA p (by rw [hn]; exact hp)) (gB p (by rw [hn]; exact hp)) (by omega)).1
  have hIn := fun xg tg W hx ht => inverse62 k xg n n tg h h 211 (tabB k) (prodB (fwdB k (foldAt A n la)) (fwdB k (foldAt B n lb))) WB rootWB W hk1 hk (by omega) hn hnh hCT hprod hx ht
  have eI : ∀ i, (fdiv (fftB (fun j => conjB (tabB k j)) k (fun p => prodB (fwdB k (foldAt A n la)) (fwdB k (foldAt B n lb)) (rev k p)) k i).1 (fi ((2 ^ k : Nat) : Int)), fdiv (fftB (fun j => conjB (tabB k j)) k (fun p => prodB (fwdB k (foldAt A n la)) (fwdB k (foldAt B n lb)) (rev k p)) k i).2 (fi ((2 ^ k : Nat) : Int))) = divB k (fwdB k (foldAt A n la)) (fwdB k (foldAt B n lb)) i := fun _ => rfl
  simp only [eI] at hIn
  have eO : ∀ i, cmulB (divB k (fwdB k (foldAt A n la)) (fwdB k (foldAt B n lb)) i) (conjB (tabB (k + 2) i)) = outB k (fwdB k (foldAt A n la)) (fwdB k (foldAt B n lb)) i := fun _ => rfl
  have hmulP := fun i hi => mul61 (gA i hi) (gB i hi) (by omega)
  have hT51 : ∀ j, j < n → Gd 1 (conjB (tabB (k + 2) j)) := fun j hj => (conjB_ok (hT50 j (by rw [Nat.pow_succ, ← hn]; omega))).1
  have hmulO := fun i hi => mul61 (hgd i hi).1 (hT51 i hi) (by omega)
  simp only [eO] at hmulO
  have ePr : ∀ i, cmulB (fwdB k (foldAt A n la) i) (fwdB k (foldAt B n lb) i) = prodB (fwdB k (foldAt A n la)) (fwdB k (foldAt B n lb)) i := fun _ => rfl
  simp only [ePr] at hmulP
  generalize prodB (fwdB k (foldAt A n la)) (fwdB k (foldAt B n lb)) = pr at *
  generalize divB k (fwdB k (foldAt A n la)) (fwdB k (foldAt B n lb)) = dv at *
  generalize outB k (fwdB k (foldAt A n la)) (fwdB k (foldAt B n lb)) = ou at *
  generalize fwdB k (foldAt A n la) = xa at *
  generalize fwdB k (foldAt B n lb) = xb at *
  have hRA := fun rg W hr => roundAll64 rg (2 * n) (2 * n) m (rawB ou n) (fun i => cSum A B la lb i) W (by omega) (by omega) (by omega) hraw (fun i _ => by unfold rawB; split <;> rfl) (fun i => Nat.le_trans (cSum_bound A B la lb i hla hlb hbA.2 hbB.2) (by decide)) (fun i hi => cSum_zero A B la lb i (by omega)) hr
  have hmk := run_make_row' (P := Tagg.prog) 58 90 (.complex .f64 0 0) 16 Tagg.underlying58 Tagg.info90 rfl .i64 .i64 (2 * n) (by omega) (by omega)
  rw [show ((2 * n : Nat) : Int) = 2 * (n : Int) by simp] at hmk
  have e1 : (2 : Int) ^ k = (n : Int) := by rw [hn, Int.natCast_pow]; rfl
  have i1 : ((la : Int) == 0) = false := by simp; omega
  have i2 : ((lb : Int) == 0) = false := by simp; omega
  have i3 : (la : Int) + (lb : Int) - 1 = (m : Int) := by omega
  have v1 : IntKind.i64.wrap ((la : Int) + (lb : Int)) = (la : Int) + (lb : Int) := IntWalk.i64_in _ ⟨by omega, by omega⟩
  have v2 : IntKind.i64.wrap (m : Int) = (m : Int) := IntWalk.i64_in _ ⟨by omega, by omega⟩
  have v3 : IntKind.i64.wrap ((m : Int) + 1) = (m : Int) + 1 := IntWalk.i64_in _ ⟨by omega, by omega⟩
  obtain ⟨md, hmd⟩ : ∃ md, md = (m + 1) / 2 := ⟨_, rfl⟩
  rw [← hmd] at hLv
  have i4 : ((m : Int) + 1) / 2 = (md : Int) := by omega
  have i5 : Int.tdiv ((m : Int) + 1) 2 = (md : Int) := by rw [Int.tdiv_eq_ediv_of_nonneg (by omega)]; omega
  have v4 : IntKind.i64.wrap (md : Int) = (md : Int) := IntWalk.i64_in _ ⟨by omega, by omega⟩
  have v5 : IntKind.u8.wrap ((k : Int) + 2) = (k : Int) + 2 := IntWalk.u8_in _ ⟨by omega, by omega⟩
  have v6 : IntKind.i64.wrap (n : Int) = (n : Int) := IntWalk.i64_in _ ⟨by omega, by omega⟩
  have v7 : IntKind.i64.wrap (2 * (n : Int)) = 2 * (n : Int) := IntWalk.i64_in _ ⟨by omega, by omega⟩
  have i6 : (k : Int) ≤ 64 := by omega
  rw [show ((k + 2 : Nat) : Int) = (k : Int) + 2 by simp] at hTw
  have hmH : Hid (m = la + lb - 1) := hm
  clear hm hn hnh hle hmd hh hk3 hk4 hfit hgd hraw gA gB hT40 hCT hT50 gwA gwB eA eB hprod eI eO ePr hT51 hbA hbB hA hB
  rw [← hmH.out] at *
  go_enter Tagg.func15, Tagg.ntmps15
  go_wp2_with fail
  with_reducible refine t1.mono ?_
  rintro e w0 ⟨rfl, rfl⟩
  go_wp2_with fail
  with_reducible refine t2.mono ?_
  rintro e w0 ⟨rfl, rfl⟩
  clear t1 t2
  go_wp2_with fail
  with_reducible refine (hLv _).mono ?_
  rintro e w0 ⟨rfl, rfl⟩
  clear hLv
  go_wp2_with fail
  with_reducible refine (hTb _).mono ?_
  rintro e w1 ⟨tg, rfl, htg, htab, hb1⟩
  have o0 : w0.heap.size ≤ tg := by omega
  clear hTb htg
  go_wp2_with fail
  with_reducible refine (hTw _).mono ?_
  rintro e w2 ⟨wg, rfl, hwg, hwei, hb2⟩
  clear hTw
  have hw2 : Below w0.heap.size w0 w2 := hb1.trans (hb2.mono hb1.size)
  have htab2 := htab.of_block (hb2.block tg htab.lt)
  have o1 : tg < wg := by have := htab.lt; omega
  have o2 : wg < w2.heap.size := hwei.lt
  have ha2 := ha.below hw2
  have hbb2 := hb.below hw2
  clear ha hb hb1 hb2 htab hwg
  have hF1 := hFa wg w2 ha2 hwei
  clear hFa
  go_wp2_with fail
  with_reducible refine hF1.mono ?_
  rintro e w3 ⟨xg, rfl, hxg, hx3, hb3⟩
  have hw3 : Below w0.heap.size w0 w3 := hw2.trans (hb3.mono hw2.size)
  have htab3 := htab2.of_block (hb3.block tg htab2.lt)
  have hwei3 := hwei.of_block (hb3.block wg hwei.lt)
  have hbb3 := hbb2.below hb3
  have o3 : wg < xg := by omega
  have o4 : xg < w3.heap.size := hx3.lt
  clear hF1 ha2 hbb2 htab2 hwei hw2 hb3 hxg o2
  have hF2 := hFb wg w3 hbb3 hwei3
  clear hFb
  go_wp2_with fail
  with_reducible refine hF2.mono ?_
  rintro e w4 ⟨yg, rfl, hyg, hy4, hb4⟩
  have hw4 : Below w0.heap.size w0 w4 := hw3.trans (hb4.mono hw3.size)
  have htab4 := htab3.of_block (hb4.block tg htab3.lt)
  have hwei4 := hwei3.of_block (hb4.block wg hwei3.lt)
  have hx4 := hx3.of_block (hb4.block xg hx3.lt)
  have o5 : xg < yg := by omega
  clear hF2 hbb3 htab3 hwei3 hw3 hb4 hyg hx3 o4
  have hG1 := hFwA xg tg w4 (by omega) hx4 htab4
  clear hFwA
  go_wp2_with fail
  with_reducible refine hG1.mono ?_
  rintro e w5 ⟨rfl, hx5, hg5⟩
  have hw5 := below_grown hw4 hg5 (by omega)
  have htab5 := grown_blk hg5 htab4 (by omega)
  have hwei5 := grown_blk hg5 hwei4 (by omega)
  have hy5 := grown_blk hg5 hy4 (by omega)
  clear hG1 htab4 hwei4 hx4 hw4 hy4 hg5
  have hG2 := hFwB yg tg w5 (by omega) hy5 htab5
  clear hFwB
  go_wp2_with fail
  with_reducible refine hG2.mono ?_
  rintro e w6 ⟨rfl, hy6, hg6⟩
  have hw6 := below_grown hw5 hg6 (by omega)
  have htab6 := grown_blk hg6 htab5 (by omega)
  have hwei6 := grown_blk hg6 hwei5 (by omega)
  have hx6 := grown_blk hg6 hx5 (by omega)
  clear hG2 htab5 hwei5 hx5 hw5 hy5 hg6
  go_wp2_with fail
  go_loopw [13] (fun vi wr => ∃ q : Nat, q ≤ n ∧ vi = .int .i64 (q : Int) ∧ w6.grownBy wr (some xg) ∧ wr.rowIs xg 90 n (fun i => cpv (if i < q then pr i else xa i))) (fun vi _ => n - (intOf vi).toNat)
  case atStart => exact ⟨0, by omega, rfl, ⟨rfl, rfl, rfl, Nat.le_refl _, fun _ _ _ => rfl⟩, hx6.congr fun i _ => by rw [if_neg (Nat.not_lt_zero _)]⟩
  case round =>
    clear hx6
    obtain ⟨q, hq, rfl, hgr, hrw⟩ := hrel
    have hyr := grown_blk hgr hy6 (show yg ≠ xg by omega)
    by_cases hqn : q < n
    · have hM := hmulP q hqn
      have cX := hrw.cell (i := q) hqn
      rw [if_neg (Nat.lt_irrefl q)] at cX
      have cF := hrw.frozen q
      have cY := hyr.cell (i := q) hqn
      have hup := row_upC (F := pr) (G := xa) hrw
      have j1 : (q : Int) < n := by omega
      have hnext : Hid (∀ W', W' = (wr.setCell ⟨xg, q, none⟩ (.complex .f64 (pr q).1 (pr q).2)).drew → w6.grownBy W' (some xg) ∧ W'.rowIs xg 90 n (fun i => cpv (if i < q + 1 then pr i else xa i))) := by
        show ∀ W', _ → _
        rintro W' rfl
        exact ⟨grown_drew (grown_set hgr 0 _ _), hup⟩
      unfold cpv at cX cY
      clear hrw hgr hup hyr hmulP hmulO hIn hRA hmk htab6 hwei6 hw6 hy6
      generalize pr q = pq at *
      generalize xa q = aq at *
      generalize xb q = bq at *
      go_wp2_with fail
      go_region_with (go_at_call 61; with_reducible refine (hM _).mono ?_; rintro e w1 ⟨rfl, rfl⟩)
      all_goals go_wp2
      all_goals exact ⟨⟨q + 1, by omega, by go_num, hnext.out _ rfl⟩, by simp [intOf]; omega⟩
    · have e : q = n := by omega
      subst e
      have hxr : wr.rowIs xg 90 q (fun i => cpv (pr i)) := hrw.congr fun i hi => by rw [if_pos hi]
      have hw7 := below_grown hw6 hgr (by omega)
      have htab7 := grown_blk hgr htab6 (show tg ≠ xg by omega)
      have hwei7 := grown_blk hgr hwei6 (show wg ≠ xg by omega)
      have hI := hIn xg tg wr hxr htab7
      clear hrw hgr hyr hmulP hIn htab6 hwei6 hw6 hy6 hxr htab7
      go_wp2_with fail
      with_reducible refine hI.mono ?_
      rintro e w8 ⟨rfl, hx8, hg8⟩
      have hw8 := below_grown hw7 hg8 (by omega)
      have hwei8 := grown_blk hg8 hwei7 (show wg ≠ xg by omega)
      clear hI hwei7 hw7 hg8
      go_wp2_with fail
      generalize eX : w8.alloc _ = X
      have hbX : Below w8.heap.size w8 X := by rw [← eX]; exact (Below.refl _ _).alloc (Nat.le_refl _) _
      have hrX : X.rowIs w8.heap.size 90 (2 * q) (fun _ => cpv (0, 0)) := by rw [← eX]; exact made_at rfl _ _ _
      clear eX hmk
      have hgX : X.grownBy X (some w8.heap.size) := ⟨rfl, rfl, rfl, Nat.le_refl _, fun _ _ _ => rfl⟩
      obtain ⟨rg, hrg⟩ : ∃ rg, rg = w8.heap.size := ⟨_, rfl⟩
      have o6 : xg < rg := by have := hx8.lt; omega
      have o7 : wg < rg := by omega
      have hxX := hx8.of_block (hbX.block xg hx8.lt)
      have hwX := hwei8.of_block (hbX.block wg hwei8.lt)
      have hwX2 : Below w0.heap.size w0 X := hw8.trans (hbX.mono hw8.size)
      rw [← hrg] at hrX hgX ⊢
      clear hx8 hwei8 hw8 hbX hrg
      go_loopw [15] (fun vi wr => ∃ p : Nat, p ≤ q ∧ vi = .int .i64 (p : Int) ∧ X.grownBy wr (some rg) ∧ wr.rowIs rg 90 (2 * q) (fun i => cpv (rawAt ou q p i))) (fun vi _ => q - (intOf vi).toNat)
      case atStart => exact ⟨0, by omega, rfl, hgX, hrX.congr fun i _ => by rw [rawAt_zero]⟩
      case round =>
        clear hrX hgX
        obtain ⟨p, hp, rfl, hgr, hrw⟩ := hrel
        have hxr := grown_blk hgr hxX (show xg ≠ rg by omega)
        have hwr := grown_blk hgr hwX (show wg ≠ rg by omega)
        by_cases hpq : p < q
        · have hM := hmulO p hpq
          have hC := conj63 (tabB (k + 2) p).1 (tabB (k + 2) p).2
          have cX := hxr.cell (i := p) hpq
          have cW := hwr.cell (i := p) (by omega)
          have cR := hrw.cell (i := p) (by omega)
          have cS := hrw.cell (i := p + q) (by omega)
          have fR := hrw.frozen p
          have fS := hrw.frozen (p + q)
          have hup := (row_set (F := cpv) (row_set (F := cpv) hrw p ((ou p).1, 0)) (p + q) (Op.negFloat .f64 (ou p).2, 0)).congr (g := fun i => cpv (rawAt ou q (p + 1) i)) (fun i _ => by rw [← rawAt_step ou q p i hpq]; rfl)
          have j1 : (p : Int) < q := by omega
          have j2 : (p : Int) < 2 * (q : Int) := by omega
          have j3 : (p : Int) + (q : Int) < 2 * (q : Int) := by omega
          have j4 : ((p : Int) + (q : Int)).toNat = p + q := by omega
          have j5 : (0 : Int) ≤ (p : Int) + (q : Int) := by omega
          have v8 : IntKind.i64.wrap ((p : Int) + (q : Int)) = (p : Int) + (q : Int) := IntWalk.i64_in _ ⟨by omega, by omega⟩
          have k8 : ¬ p = p + q := by omega
          have k9 : ¬ p + q = p := by omega
          have hnext : Hid (∀ d W', W' = (((wr.drewN d).setCell ⟨rg, p, none⟩ (.complex .f64 (ou p).1 0)).setCell ⟨rg, p + q, none⟩ (.complex .f64 (Op.negFloat .f64 (ou p).2) 0)) → X.grownBy W' (some rg) ∧ W'.rowIs rg 90 (2 * q) (fun i => cpv (rawAt ou q (p + 1) i))) := by
            show ∀ d W', _ → _
            rintro d W' rfl
            exact ⟨grown_set (grown_set hgr d _ _) 0 _ _, hup⟩
          unfold cpv at cX cW cR cS
          have hcj : conjB (tabB (k + 2) p) = ((tabB (k + 2) p).1, Op.negFloat .f64 (tabB (k + 2) p).2) := rfl
          rw [hcj] at hM
          dsimp only at hM
          clear hrw hgr hup hxr hwr hmulO hRA hxX hwX hwX2 hcj
          generalize ou p = op at *
          generalize dv p = dp at *
          generalize tabB (k + 2) p = tp at *
          go_wp2_with fail
          go_quiet ((first | (go_at_call 63; with_reducible exact Calls.quiet_of_same (hC _)) | (go_at_call 61; with_reducible exact Calls.quiet_of_same (hM _))))
          go_wp2
          exact ⟨⟨p + 1, by omega, by go_num, hnext.out _ _ rfl⟩, by simp [intOf]; omega⟩
        · have e : p = q := by omega
          subst e
          have hrr : wr.rowIs rg 90 (2 * p) (fun i => cpv (rawB ou p i)) := hrw.congr fun i hi => by rw [rawAt_all ou p i hi]
          have hw9 := below_grown hwX2 hgr (by omega)
          have hR := hRA rg wr hrr
          clear hrw hgr hxr hwr hmulO hRA hxX hwX hwX2 hrr
          go_wp2_with fail
          with_reducible refine hR.mono ?_
          rintro e w10 ⟨cg, rfl, hcg, hcr, hb10⟩
          have hfin : Hid (w0.heap.size ≤ cg ∧ w10.rowIs cg 2 m (fun i => .int .i64 (cSum A B la lb i)) ∧ Below w0.heap.size w0 w10) := ⟨by have := hw9.size; omega, hcr, hw9.trans (hb10.mono hw9.size)⟩
          clear hcr hb10 hw9 hR hcg
          go_wp2
          go_ret2
          exact ⟨cg, m, rfl, rfl, hfin.out⟩
end Go.Proofs.Ygctag
