import Derived.Test.YgctagCwD
namespace Go.Proofs.Ygctag
open Go.RowKit
attribute [local go_sem] run_store_complex run_neg_float

theorem fi_conv (n : Nat) (h : n < 2 ^ 53) : floatOfInt .f64 (n : Int) = fi (n : Int) := by
  show Ieee.double.write (.number (decide ((n : Int) < 0)) (n : Int).natAbs 0) = fi (n : Int)
  have := write_fz (decide ((n : Int) < 0)) (n : Int).natAbs 0 (by rw [Int.natAbs_natCast]; exact h)
  rw [Nat.pow_zero, Nat.mul_one] at this
  exact this

set_option maxRecDepth 100000 in
set_option maxHeartbeats 4000000 in
theorem inverse62 (k g n cap tg h tcap E : Nat) (tab Y : Nat → Cb) (W : Nat → Cx) (hW : Root W) (w : World) (hk1 : 1 ≤ k) (hk : k ≤ 9) (hE : E ≤ 700) (hn : n = 2 ^ k) (hh : n = 2 * h)
    (hT : TabOK (fun j => conjB (tab j)) W k) (hY : ∀ p, p < 2 ^ k → Gd E (Y p)) (hx : w.rowIs g 90 n (fun i => cpv (Y i))) (htb : w.rowIs tg 90 h (fun i => cpv (tab i))) :
    Calls Tagg.prog 62 #[.slice (some ⟨g, 0, none⟩) n cap, .slice (some ⟨tg, 0, none⟩) h tcap] w fun e w' => e = .returned (.bool true) ∧
      w'.rowIs g 90 n (fun i => cpv (fdiv (fftB (fun j => conjB (tab j)) k (fun p => Y (rev k p)) k i).1 (fi ((2 ^ k : Nat) : Int)), fdiv (fftB (fun j => conjB (tab j)) k (fun p => Y (rev k p)) k i).2 (fi ((2 ^ k : Nat) : Int)))) ∧ w.grownBy w' (some g) := by
  have hF := fits98 k hk1 (by omega) n h hn hh
  have hle : 2 ^ k ≤ 2 ^ 9 := Nat.pow_le_pow_right (by decide) hk
  have hn2 : n ≤ 512 := by omega
  have hmk := run_make_row' (P := Tagg.prog) 58 90 (.complex .f64 0 0) 16 Tagg.underlying58 Tagg.info90 rfl .i64 .i64 h (by omega) (by omega)
  have hG := fft_good (x := fun p => Y (rev k p)) hW hk hE hT (fun p _ => hY _ (rev_lt k p)) k (Nat.le_refl _)
  have hFo := fun cg wr hne hx htb => forward60 k g n cap cg h h E (fun j => conjB (tab j)) Y W hW wr hk1 hk hE hn hh hne hT hY hx htb
  have hfc := fi_conv n (by omega)
  rw [← hn]
  have hdiv : ∀ i, i < n → floatBits .quo .f64 (fftB (fun j => conjB (tab j)) k (fun p => Y (rev k p)) k i).1 (fi (n : Int)) = some (fdiv (fftB (fun j => conjB (tab j)) k (fun p => Y (rev k p)) k i).1 (fi (n : Int))) ∧ floatBits .quo .f64 (fftB (fun j => conjB (tab j)) k (fun p => Y (rev k p)) k i).2 (fi (n : Int)) = some (fdiv (fftB (fun j => conjB (tab j)) k (fun p => Y (rev k p)) k i).2 (fi (n : Int))) := by
    intro i hi
    obtain ⟨g1, g2, g3, g4⟩ := hG i (by rw [← hn]; exact hi)
    have h1 := (div_ok hk g1 g3 (by omega)).1
    have h2 := (div_ok hk g2 g4 (by omega)).1
    rw [← hn] at h1 h2
    exact ⟨h1, h2⟩
  have hhn : h ≤ n := by omega
  clear hG hT hY hn hle hh
  generalize fftB (fun j => conjB (tab j)) k (fun p => Y (rev k p)) k = F at *
  obtain ⟨nf, hnf⟩ : ∃ nf, nf = fi (n : Int) := ⟨_, rfl⟩
  rw [← hnf] at hfc hdiv ⊢
  clear hnf
  go_enter Tagg.func62, Tagg.ntmps62
  go_wp2_with fail
  with_reducible refine (hF _).mono ?_
  rintro e w0 ⟨rfl, rfl⟩
  clear hF
  go_wp2_with fail
  generalize eX : w0.alloc _ = X
  have hbX : Below w0.heap.size w0 X := by rw [← eX]; exact (Below.refl _ _).alloc (Nat.le_refl _) _
  have hrX : X.rowIs w0.heap.size 90 h (fun _ => cpv (0, 0)) := by rw [← eX]; exact made_at rfl _ _ _
  clear eX hmk
  have hgX : X.grownBy X (some w0.heap.size) := ⟨rfl, rfl, rfl, Nat.le_refl _, fun _ _ _ => rfl⟩
  obtain ⟨c, hc⟩ : ∃ c, c = w0.heap.size := ⟨_, rfl⟩
  rw [← hc] at hrX hgX ⊢
  have hcg : g ≠ c ∧ tg ≠ c := by have := hx.lt; have := htb.lt; omega
  have hcH : Hid (c = w0.heap.size) := hc
  have hxX := hx.of_block (hbX.block g hx.lt)
  have htX := htb.of_block (hbX.block tg htb.lt)
  clear hc hx htb
  go_loopw [6] (fun vi wr => ∃ q : Nat, q ≤ h ∧ vi = .int .i64 (q : Int) ∧ X.grownBy wr (some c) ∧ wr.rowIs c 90 h (fun j => cpv (if j < q then conjB (tab j) else (0, 0)))) (fun vi _ => h - (intOf vi).toNat)
  case atStart => exact ⟨0, by omega, rfl, hgX, hrX.congr fun j _ => by rw [if_neg (Nat.not_lt_zero _)]⟩
  case round =>
    clear hrX hgX
    obtain ⟨q, hq, rfl, hgr, hrw⟩ := hrel
    have htr := htX.of_block (hgr.block tg htX.lt (by simpa using hcg.2))
    by_cases hqh : q < h
    · have ct := htr.cell hqh
      have cR := hrw.cell (i := q) (by omega)
      have cF := hrw.frozen q
      have hup := row_upC (F := fun j => conjB (tab j)) (G := fun _ => (0, 0)) hrw
      have hC := conj63 (tab q).1 (tab q).2
      have i1 : (q : Int) < h := by omega
      have hnext : Hid (∀ W', W' = wr.setCell ⟨c, q, none⟩ (.complex .f64 (tab q).1 (Op.negFloat .f64 (tab q).2)) → X.grownBy W' (some c) ∧ W'.rowIs c 90 h (fun j => cpv (if j < q + 1 then conjB (tab j) else (0, 0)))) := by
        show ∀ W', _ → _
        rintro W' rfl
        exact ⟨grown_set hgr 0 _ _, hup⟩
      unfold cpv at ct cR
      clear hrw hgr hup htr hxX htX hbX hFo hdiv
      go_wp2_with fail
      with_reducible refine (hC _).mono ?_
      rintro e w1 ⟨rfl, rfl⟩
      go_wp2
      exact ⟨⟨q + 1, by omega, by go_num, hnext.out _ rfl⟩, by simp [intOf]; omega⟩
    · have e : q = h := by omega
      subst e
      have hct : wr.rowIs c 90 q (fun j => cpv (conjB (tab j))) := hrw.congr fun j hj => by rw [if_pos hj]
      have hxr := hxX.of_block (hgr.block g hxX.lt (by simpa using hcg.1))
      have hbr : Below w0.heap.size w0 wr := hbX.grown hgr hbX.size (fun t ht => by injection ht with ht; have := hcH.out; omega)
      have hFw := hFo c wr (Ne.symm hcg.1) hxr hct
      clear hrw hgr hct hxr htr hxX htX hbX hFo
      go_wp2_with fail
      with_reducible refine hFw.mono ?_
      rintro e w2 ⟨rfl, hx2, hg2⟩
      have hgw : w0.grownBy w2 (some g) := ⟨hg2.os.trans hbr.os, hg2.tape.trans hbr.tape, hg2.output.trans hbr.output, Nat.le_trans hbr.size hg2.size, fun t ht hne => (hg2.block t (Nat.lt_of_lt_of_le ht hbr.size) hne).trans (hbr.block t ht)⟩
      clear hFw hg2 hbr
      go_wp2_with fail
      go_loopw [8] (fun vi wr => ∃ q : Nat, q ≤ n ∧ vi = .int .i64 (q : Int) ∧ w0.grownBy wr (some g) ∧ wr.rowIs g 90 n (fun j => cpv (if j < q then (fdiv (F j).1 nf, fdiv (F j).2 nf) else F j))) (fun vi _ => n - (intOf vi).toNat)
      case atStart => exact ⟨0, by omega, rfl, hgw, hx2.congr fun j _ => by rw [if_neg (Nat.not_lt_zero _)]⟩
      case round =>
        clear hx2 hgw
        obtain ⟨p, hp, rfl, hgr, hrw⟩ := hrel
        by_cases hpn : p < n
        · have cR := hrw.cell (i := p) (by omega)
          rw [if_neg (Nat.lt_irrefl p)] at cR
          have cF := hrw.frozen p
          have hup := row_upC (F := fun j => (fdiv (F j).1 nf, fdiv (F j).2 nf)) (G := F) hrw
          have i1 : (p : Int) < n := by omega
          obtain ⟨q1, q2⟩ := hdiv p hpn
          have r1 := fun w t => run_float_arith (P := Tagg.prog) w .quo t .f64 _ _ _ q1
          have r2 := fun w t => run_float_arith (P := Tagg.prog) w .quo t .f64 _ _ _ q2
          have hnext : Hid (∀ W', W' = (wr.setCell ⟨g, p, none⟩ (.complex .f64 (fdiv (F p).1 nf) (fdiv (F p).2 nf))).drew → w0.grownBy W' (some g) ∧ W'.rowIs g 90 n (fun j => cpv (if j < p + 1 then (fdiv (F j).1 nf, fdiv (F j).2 nf) else F j))) := by
            show ∀ W', _ → _
            rintro W' rfl
            exact ⟨grown_drew (grown_set hgr 0 _ _), hup⟩
          unfold cpv at cR
          clear hrw hgr hup hdiv q1 q2
          generalize fdiv (F p).1 nf = d1 at *
          generalize fdiv (F p).2 nf = d2 at *
          generalize F p = fp at *
          go_wp2_with fail
          go_region
          all_goals go_wp2
          all_goals exact ⟨⟨p + 1, by omega, by go_num, hnext.out _ rfl⟩, by simp [intOf]; omega⟩
        · have e : p = n := by omega
          subst e
          have hrow : wr.rowIs g 90 p (fun j => cpv (fdiv (F j).1 nf, fdiv (F j).2 nf)) := hrw.congr fun j hj => by rw [if_pos hj]
          clear hrw hdiv
          go_wp2
          go_ret
          exact ⟨rfl, hrow, hgr⟩
end Go.Proofs.Ygctag
