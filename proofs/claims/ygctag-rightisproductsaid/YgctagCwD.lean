import Derived.Test.YgctagCwC
namespace Go.Proofs.Ygctag
open Go.RowKit
attribute [local go_sem] run_store_complex

/-- Some blocks of a pass done, and j pairs of the next. -/
def stAt (tab : Nat → Cb) (k t : Nat) (Y : Nat → Cb) (b j p : Nat) : Cb :=
  if p < b * (2 * 2 ^ t) ∨ (b * (2 * 2 ^ t) ≤ p ∧ p < b * (2 * 2 ^ t) + j) ∨ (b * (2 * 2 ^ t) + 2 ^ t ≤ p ∧ p < b * (2 * 2 ^ t) + 2 ^ t + j) then stF tab k t Y p else Y p

theorem stAt_start (tab : Nat → Cb) (k t : Nat) (Y : Nat → Cb) (p : Nat) : stAt tab k t Y 0 0 p = Y p := by
  unfold stAt; rw [if_neg (by omega)]
theorem stAt_next (tab : Nat → Cb) (k t : Nat) (Y : Nat → Cb) (b p : Nat) : stAt tab k t Y b (2 ^ t) p = stAt tab k t Y (b + 1) 0 p := by
  unfold stAt
  rw [Nat.add_mul, Nat.one_mul]
  generalize b * (2 * 2 ^ t) = B
  by_cases h : p < B + 2 * 2 ^ t
  · rw [if_pos (by omega), if_pos (by omega)]
  · rw [if_neg (by omega), if_neg (by omega)]
theorem stAt_all (tab : Nat → Cb) (k t : Nat) (Y : Nat → Cb) (b p : Nat) (h : p < b * (2 * 2 ^ t)) : stAt tab k t Y b 0 p = stF tab k t Y p := by
  unfold stAt; rw [if_pos (.inl h)]
theorem stAt_pair (tab : Nat → Cb) (k t : Nat) (Y : Nat → Cb) (b j p : Nat) (hj : j < 2 ^ t) :
    updC (updC (stAt tab k t Y b j) (b * (2 * 2 ^ t) + j) (stF tab k t Y (b * (2 * 2 ^ t) + j))) (b * (2 * 2 ^ t) + 2 ^ t + j) (stF tab k t Y (b * (2 * 2 ^ t) + 2 ^ t + j)) p = stAt tab k t Y b (j + 1) p := by
  unfold updC stAt
  generalize b * (2 * 2 ^ t) = B
  by_cases h1 : p = B + 2 ^ t + j
  · subst h1; rw [if_pos rfl, if_pos (by omega)]
  · rw [if_neg h1]
    by_cases h2 : p = B + j
    · subst h2; rw [if_pos rfl, if_pos (by omega)]
    · rw [if_neg h2]
      by_cases h3 : p < B ∨ (B ≤ p ∧ p < B + j) ∨ (B + 2 ^ t ≤ p ∧ p < B + 2 ^ t + j)
      · rw [if_pos h3, if_pos (by omega)]
      · rw [if_neg h3, if_neg (by omega)]
theorem stAt_low (tab : Nat → Cb) (k t : Nat) (Y : Nat → Cb) (b j : Nat) (hj : j < 2 ^ t) : stAt tab k t Y b j (b * (2 * 2 ^ t) + j) = Y (b * (2 * 2 ^ t) + j) := by
  unfold stAt
  generalize b * (2 * 2 ^ t) = B
  rw [if_neg (by omega)]
theorem stAt_high (tab : Nat → Cb) (k t : Nat) (Y : Nat → Cb) (b j : Nat) : stAt tab k t Y b j (b * (2 * 2 ^ t) + 2 ^ t + j) = Y (b * (2 * 2 ^ t) + 2 ^ t + j) := by
  unfold stAt
  generalize b * (2 * 2 ^ t) = B
  have := Nat.two_pow_pos t
  rw [if_neg (by omega)]

set_option maxRecDepth 100000 in
set_option maxHeartbeats 4000000 in
theorem stage75 (k t g n cap tg h tcap E : Nat) (tab Y : Nat → Cb) (W : Nat → Cx) (w : World) (hk1 : 1 ≤ k) (hk : k ≤ 9) (ht : t + 1 ≤ k) (hE : E ≤ 800) (hn : n = 2 ^ k) (hh : n = 2 * h) (hne : tg ≠ g)
    (hT : TabOK tab W k) (hY : ∀ p, p < 2 ^ k → Gd E (Y p)) (hx : w.rowIs g 90 n (fun i => cpv (Y i))) (htb : w.rowIs tg 90 h (fun i => cpv (tab i))) :
    Calls Tagg.prog 75 #[.slice (some ⟨g, 0, none⟩) n cap, .slice (some ⟨tg, 0, none⟩) h tcap, .int .u8 ((t + 1 : Nat) : Int)] w fun e w' => e = .returned (.tuple #[]) ∧ w'.rowIs g 90 n (fun i => cpv (stF tab k t Y i)) ∧ w.grownBy w' (some g) := by
  have hL := level99 k (by omega) n hn
  have hF := fits98 k hk1 (by omega) n h hn hh
  have hle : 2 ^ k ≤ 2 ^ 9 := Nat.pow_le_pow_right (by decide) hk
  have hn2 : n ≤ 512 := by omega
  obtain ⟨T, hTT⟩ : ∃ T, T = 2 ^ t := ⟨_, rfl⟩
  obtain ⟨S, hS⟩ : ∃ S, S = 2 ^ (k - (t + 1)) := ⟨_, rfl⟩
  have hTS : n = S * (2 * T) := by rw [hn, hS, hTT, ← Nat.pow_succ', ← Nat.pow_add]; congr 1; omega
  have hT0 : 0 < T := by rw [hTT]; exact Nat.two_pow_pos t
  have hS0 : 0 < S := by rw [hS]; exact Nat.two_pow_pos _
  have hTn : 2 * T ≤ n := by rw [hTS]; exact Nat.le_mul_of_pos_left _ hS0
  have hSn : S ≤ n := by rw [hTS]; exact Nat.le_mul_of_pos_right _ (by omega)
  have e1 : (2 : Int) ^ t = (T : Int) := by rw [hTT, Int.natCast_pow]; rfl
  have e2 : (2 : Int) ^ (k - (t + 1)) = (S : Int) := by rw [hS, Int.natCast_pow]; rfl
  have i1 : (1 : Int) ≤ ((t + 1 : Nat) : Int) := by omega
  have i2 : ((t + 1 : Nat) : Int) ≤ k := by omega
  have i3 : ((t + 1 : Nat) : Int) - 1 = (t : Int) := by omega
  have i4 : (k : Int) - ((t + 1 : Nat) : Int) = ((k - (t + 1) : Nat) : Int) := by omega
  have v1 : IntKind.u8.wrap (t : Int) = (t : Int) := IntWalk.u8_in _ ⟨by omega, by omega⟩
  have v2 : IntKind.i64.wrap (T : Int) = (T : Int) := IntWalk.i64_in _ ⟨by omega, by omega⟩
  have v3 : IntKind.i64.wrap (S : Int) = (S : Int) := IntWalk.i64_in _ ⟨by omega, by omega⟩
  have v4 : IntKind.i64.wrap ((t + 1 : Nat) : Int) = ((t + 1 : Nat) : Int) := IntWalk.i64_in _ ⟨by omega, by omega⟩
  have v5 : IntKind.i64.wrap ((k - (t + 1) : Nat) : Int) = ((k - (t + 1) : Nat) : Int) := IntWalk.i64_in _ ⟨by omega, by omega⟩
  have v6 : IntKind.i64.wrap (2 * (T : Int)) = 2 * (T : Int) := IntWalk.i64_in _ ⟨by omega, by omega⟩
  have i5 : (t : Int) ≤ 64 := by omega
  have i6 : ((k - (t + 1) : Nat) : Int) ≤ 64 := by omega
  have hTH : Hid (T = 2 ^ t) := hTT
  have hSH : Hid (S = 2 ^ (k - (t + 1))) := hS
  have hnH : Hid (n = S * (2 * T)) := hTS
  have hnK : Hid (n = 2 ^ k) := hn
  obtain ⟨t1, ht1⟩ : ∃ t1, t1 = t + 1 := ⟨_, rfl⟩
  rw [← ht1] at i1 i2 i3 i4 v4 v5 i6 e2 ⊢
  obtain ⟨kt, hkt⟩ : ∃ kt, kt = k - t1 := ⟨_, rfl⟩
  rw [← hkt] at i4 v5 i6 e2
  have ht1H : Hid (t1 = t + 1) := ht1
  have hhH : Hid (n = 2 * h) := hh
  clear hTT hS hTS hn hle ht1 hkt hh
  go_enter Tagg.func75, Tagg.ntmps75
  go_wp2_with fail
  with_reducible refine (hL _).mono ?_
  rintro e w0 ⟨rfl, rfl⟩
  go_wp2_with fail
  with_reducible refine (hF _).mono ?_
  rintro e w0 ⟨rfl, rfl⟩
  clear hL hF
  go_wp2_with fail
  go_quiet (fail)
  go_wp2_with fail
  go_loopw [9] (fun vs wr => ∃ b : Nat, b ≤ S ∧ vs = .int .i64 ((b * (2 * T) : Nat) : Int) ∧ w0.grownBy wr (some g) ∧ wr.rowIs g 90 n (fun i => cpv (stAt tab k t Y b 0 i))) (fun vs _ => n - (intOf vs).toNat)
  case atStart => exact ⟨0, by omega, by rw [Nat.zero_mul]; rfl, ⟨rfl, rfl, rfl, Nat.le_refl _, fun _ _ _ => rfl⟩, (row_draws hx _).congr fun i _ => by rw [stAt_start]⟩
  case round =>
    clear hx
    obtain ⟨b, hb, rfl, hgr, hrw⟩ := hrel
    obtain ⟨B, hB⟩ : ∃ B, B = b * (2 * T) := ⟨_, rfl⟩
    rw [← hB]
    by_cases hbS : b < S
    · have hBn : B + 2 * T ≤ n := by
        have h1 : (b + 1) * (2 * T) ≤ S * (2 * T) := Nat.mul_le_mul_right _ hbS
        rw [hnH.out, hB]
        rw [Nat.add_mul, Nat.one_mul] at h1
        exact h1
      have j1 : (B : Int) < n := by omega
      have hBH : Hid (B = b * (2 * T)) := hB
      clear hB
      go_wp2_with fail
      go_loopw [10] (fun vj w5 => ∃ j : Nat, j ≤ T ∧ vj = .int .i64 (j : Int) ∧ w0.grownBy w5 (some g) ∧ w5.rowIs g 90 n (fun i => cpv (stAt tab k t Y b j i))) (fun vj _ => T - (intOf vj).toNat)
      case atStart => exact ⟨0, by omega, rfl, hgr, hrw⟩
      case round =>
        clear hrw hgr
        obtain ⟨j, hj, rfl, hgr, hrw⟩ := hrel
        by_cases hjT : j < T
        · have hpB : B = b * (2 * 2 ^ t) := by rw [hBH.out, hTH.out]
          have cp := hrw.cell (i := B + j) (by omega)
          have cq := hrw.cell (i := B + T + j) (by omega)
          have fp := hrw.frozen (B + j)
          have fq := hrw.frozen (B + T + j)
          have hjS : j * S < h := by
            have h1 : (j + 1) * S ≤ T * S := Nat.mul_le_mul_right _ hjT
            have h2 := hnH.out
            have h3 := hhH.out
            have h4 : S * (2 * T) = 2 * (T * S) := by rw [Nat.mul_left_comm, Nat.mul_comm S T]
            rw [Nat.add_mul, Nat.one_mul] at h1
            omega
          have ct : wr.cell? ⟨tg, j * S, none⟩ = some (cpv (tab (j * S))) := (World.cell?_of_block (hgr.block tg htb.lt (by simpa using hne))).trans (htb.cell hjS)
          rw [show stAt tab k t Y b j (B + j) = Y (B + j) by rw [hpB]; exact stAt_low tab k t Y b j (by rw [← hTH.out]; exact hjT)] at cp
          rw [show stAt tab k t Y b j (B + T + j) = Y (B + T + j) by rw [hpB, hTH.out]; exact stAt_high tab k t Y b j] at cq
          have hYp := hY (B + j) (by rw [← hnK.out]; omega)
          have hYq := hY (B + T + j) (by rw [← hnK.out]; omega)
          have htg : Gd 1 (tab (j * S)) := (hT (j * S) (by
            have h3 := hhH.out
            have h4 := hnK.out
            have h5 : 2 ^ k = 2 * 2 ^ (k - 1) := by rw [← Nat.pow_succ']; congr 1; omega
            omega)).1
          have hM := mul61 hYq htg (by omega)
          obtain ⟨-, -, -, -, -, -, gv, -⟩ := cmulB_ok hYq htg (by omega)
          obtain ⟨a1, a2, -, -⟩ := caddB_ok (hYp.mono (show E ≤ E + 1 + 5 by omega)) gv (by omega)
          obtain ⟨s1, s2, -, -⟩ := csubB_ok (hYp.mono (show E ≤ E + 1 + 5 by omega)) gv (by omega)
          have ra : ∀ w ty, (binOp .add ty (.complex .f64 (Y (B + j)).1 (Y (B + j)).2) (.complex .f64 (cmulB (Y (B + T + j)) (tab (j * S))).1 (cmulB (Y (B + T + j)) (tab (j * S))).2)).run Tagg.prog w = .ok (.complex .f64 (caddB (Y (B + j)) (cmulB (Y (B + T + j)) (tab (j * S)))).1 (caddB (Y (B + j)) (cmulB (Y (B + T + j)) (tab (j * S)))).2) w := fun w ty => run_complex_sum w .add (.inl rfl) ty .f64 _ _ _ _ _ _ (by unfold cSumBits; rw [a1, a2]; rfl)
          have rs : ∀ w ty, (binOp .sub ty (.complex .f64 (Y (B + j)).1 (Y (B + j)).2) (.complex .f64 (cmulB (Y (B + T + j)) (tab (j * S))).1 (cmulB (Y (B + T + j)) (tab (j * S))).2)).run Tagg.prog w = .ok (.complex .f64 (csubB (Y (B + j)) (cmulB (Y (B + T + j)) (tab (j * S)))).1 (csubB (Y (B + j)) (cmulB (Y (B + T + j)) (tab (j * S)))).2) w := fun w ty => run_complex_sum w .sub (.inr rfl) ty .f64 _ _ _ _ _ _ (by unfold cSumBits; rw [s1, s2]; rfl)
          have hlow : stF tab k t Y (B + j) = caddB (Y (B + j)) (cmulB (Y (B + T + j)) (tab (j * S))) := by
            rw [hpB, stF_low tab k t Y b j (by rw [← hTH.out]; exact hjT), hSH.out, hTH.out, Nat.add_assoc]
          have hhigh : stF tab k t Y (B + T + j) = csubB (Y (B + j)) (cmulB (Y (B + T + j)) (tab (j * S))) := by
            rw [hpB, Nat.add_assoc, hTH.out, stF_high tab k t Y b j (by rw [← hTH.out]; exact hjT), hSH.out]
          have hup := (row_set (F := cpv) (row_set (F := cpv) hrw (B + j) (stF tab k t Y (B + j))) (B + T + j) (stF tab k t Y (B + T + j))).congr (g := fun i => cpv (stAt tab k t Y b (j + 1) i)) (fun p _ => by
            have h := stAt_pair tab k t Y b j p (by rw [← hTH.out]; exact hjT)
            rw [← hpB, ← hTH.out] at h
            rw [← h]
            rfl)
          rw [hlow, hhigh] at hup
          obtain ⟨js, hjs⟩ : ∃ js, js = j * S := ⟨_, rfl⟩
          rw [← hjs] at ct hM ra rs hup hjS
          have k1 : (j : Int) < T := by omega
          have k2 : (B : Int) + (j : Int) < n := by omega
          have k3 : (B : Int) + (j : Int) + (T : Int) < n := by omega
          have k4 : ((B : Int) + (j : Int)).toNat = B + j := by omega
          have k5 : ((B : Int) + (j : Int) + (T : Int)).toNat = B + T + j := by omega
          have k6 : (j : Int) * (S : Int) = (js : Int) := by rw [hjs, Int.natCast_mul]
          have k7 : (js : Int) < h := by omega
          have z1 : (0 : Int) ≤ (B : Int) + (j : Int) := by omega
          have z2 : (0 : Int) ≤ (B : Int) + (j : Int) + (T : Int) := by omega
          have k8 : ¬ B + j = B + T + j := by omega
          have k9 : ¬ B + T + j = B + j := by omega
          have v7 : IntKind.i64.wrap ((B : Int) + (j : Int)) = (B : Int) + (j : Int) := IntWalk.i64_in _ ⟨by omega, by omega⟩
          have v8 : IntKind.i64.wrap ((B : Int) + (j : Int) + (T : Int)) = (B : Int) + (j : Int) + (T : Int) := IntWalk.i64_in _ ⟨by omega, by omega⟩
          have hjs5 : js ≤ 512 := by have := hhH.out; omega
          have v9 : IntKind.i64.wrap (js : Int) = (js : Int) := IntWalk.i64_in _ ⟨by omega, by omega⟩
          unfold cpv at cp cq ct
          generalize cmulB (Y (B + T + j)) (tab js) = vv at *
          generalize hca : caddB (Y (B + j)) vv = ca at *
          generalize hcs : csubB (Y (B + j)) vv = cs at *
          have hnext : Hid (∀ d W', W' = (((wr.drewN d).setCell ⟨g, B + j, none⟩ (.complex .f64 ca.1 ca.2)).setCell ⟨g, B + T + j, none⟩ (.complex .f64 cs.1 cs.2)) → w0.grownBy W' (some g) ∧ W'.rowIs g 90 n (fun i => cpv (stAt tab k t Y b (j + 1) i))) := by
            show ∀ d W', _ → _
            rintro d W' rfl
            exact ⟨grown_set (grown_set hgr d _ _) 0 _ _, hup⟩
          clear hrw hgr hup hlow hhigh hYp hYq htg gv a1 a2 s1 s2 hY hT htb hjs hca hcs hpB
          generalize Y (B + j) = yp at *
          generalize Y (B + T + j) = yq at *
          generalize tab js = tj at *
          go_wp2_with fail
          go_quiet ((go_at_call 61; with_reducible exact Calls.quiet_of_same (hM _)))
          go_wp2
          exact ⟨⟨j + 1, by omega, by go_num, hnext.out _ _ rfl⟩, by simp [intOf]; omega⟩
        · have e : j = T := by omega
          subst e
          obtain ⟨N1, hN1⟩ : ∃ N1, N1 = (b + 1) * (2 * j) := ⟨_, rfl⟩
          have e5 : (B : Int) + 2 * (j : Int) = (N1 : Int) := by
            have h := hBH.out
            rw [hN1, Nat.add_mul, Nat.one_mul, ← h]; omega
          have v7 : IntKind.i64.wrap (N1 : Int) = (N1 : Int) := IntWalk.i64_in _ ⟨by omega, by omega⟩
          have hfin : Hid (wr.rowIs g 90 n (fun i => cpv (stAt tab k t Y (b + 1) 0 i))) := hrw.congr fun i _ => by rw [← stAt_next, ← hTH.out]
          have hm : n - N1 < n - B := by omega
          have hN1H : Hid (N1 = (b + 1) * (2 * j)) := hN1
          clear hrw hY hT htb hN1
          go_wp2
          exact ⟨⟨b + 1, by omega, by rw [← hN1H.out], hgr, hfin.out⟩, by simp [intOf]; exact hm⟩
    · have e : b = S := by omega
      have hBn : B = n := by rw [hB, e, ← hnH.out]
      have j1 : (n : Int) ≤ B := by omega
      have hrow : wr.rowIs g 90 n (fun i => cpv (stF tab k t Y i)) := hrw.congr fun i hi => by rw [stAt_all tab k t Y b i (by rw [← hTH.out, ← hB, hBn]; exact hi)]
      clear hrw hY hT htb hB hBn
      go_wp2
      go_end0
      exact ⟨rfl, hrow, hgr⟩

set_option maxRecDepth 100000 in
set_option maxHeartbeats 4000000 in
theorem forward60 (k g n cap tg h tcap E : Nat) (tab Y : Nat → Cb) (W : Nat → Cx) (hW : Root W) (w : World) (hk1 : 1 ≤ k) (hk : k ≤ 9) (hE : E ≤ 700) (hn : n = 2 ^ k) (hh : n = 2 * h) (hne : tg ≠ g)
    (hT : TabOK tab W k) (hY : ∀ p, p < 2 ^ k → Gd E (Y p)) (hx : w.rowIs g 90 n (fun i => cpv (Y i))) (htb : w.rowIs tg 90 h (fun i => cpv (tab i))) :
    Calls Tagg.prog 60 #[.slice (some ⟨g, 0, none⟩) n cap, .slice (some ⟨tg, 0, none⟩) h tcap] w fun e w' => e = .returned (.bool true) ∧ w'.rowIs g 90 n (fun i => cpv (fftB tab k (fun p => Y (rev k p)) k i)) ∧ w.grownBy w' (some g) := by
  have hL := level99 k (by omega) n hn
  have hF := fits98 k hk1 (by omega) n h hn hh
  have hR := reverse73 k g n cap Y w (by omega) hn hx
  have hG := fft_good (x := fun p => Y (rev k p)) hW hk hE hT (fun p _ => hY _ (rev_lt k p))
  have hS := fun t wr ht hx htb => stage75 k t g n cap tg h tcap (E + 9 * t) tab (fftB tab k (fun p => Y (rev k p)) t) W wr hk1 hk ht (by omega) hn hh hne hT (hG t (by omega)) hx htb
  have v1 : IntKind.u8.wrap (k : Int) = (k : Int) := IntWalk.u8_in _ ⟨by omega, by omega⟩
  have htl := htb.lt
  clear hn hh hG hY hx
  go_enter Tagg.func60, Tagg.ntmps60
  go_wp2_with fail
  with_reducible refine (hF _).mono ?_
  rintro e w0 ⟨rfl, rfl⟩
  go_wp2_with fail
  with_reducible refine hR.mono ?_
  rintro e w1 ⟨rfl, hx1, hg1⟩
  go_wp2_with fail
  with_reducible refine (hL _).mono ?_
  rintro e w2 ⟨rfl, rfl⟩
  clear hL hF hR
  go_wp2_with fail
  go_loopw [6] (fun vt wr => ∃ t : Nat, t ≤ k ∧ vt = .int .u8 ((t + 1 : Nat) : Int) ∧ w0.grownBy wr (some g) ∧ wr.rowIs g 90 n (fun i => cpv (fftB tab k (fun p => Y (rev k p)) t i))) (fun vt _ => k + 1 - (intOf vt).toNat)
  case atStart => exact ⟨0, by omega, rfl, hg1, hx1⟩
  case round =>
    obtain ⟨t, ht, rfl, hgr, hrw⟩ := hrel
    obtain ⟨t1, ht1⟩ : ∃ t1, t1 = t + 1 := ⟨_, rfl⟩
    rw [← ht1]
    by_cases htk : t < k
    · have hS1 := hS t wr (by omega) hrw (htb.of_block (hgr.block tg htl (by simpa using hne)))
      rw [← ht1] at hS1
      have j1 : (t1 : Int) ≤ k := by omega
      have v2 : IntKind.u8.wrap ((t1 : Int) + 1) = (t1 : Int) + 1 := IntWalk.u8_in _ ⟨by omega, by omega⟩
      have hgrH : Hid (w0.grownBy wr (some g)) := hgr
      have ht1H : Hid (t1 = t + 1) := ht1
      have ht1k : t1 ≤ k := by omega
      clear hS hx1 hg1 hrw hgr htb ht1
      go_wp2_with fail
      with_reducible refine hS1.mono ?_
      rintro e w3 ⟨rfl, hx3, hg3⟩
      have hfin : Hid (w0.grownBy w3 (some g) ∧ w3.rowIs g 90 n (fun i => cpv (fftB tab k (fun p => Y (rev k p)) (t + 1) i))) := ⟨hgrH.out.trans hg3, hx3⟩
      clear hS1 hx3 hg3
      go_wp2
      exact ⟨⟨t + 1, by omega, by have := ht1H.out; subst this; go_num, hfin.out⟩, by simp [intOf]; omega⟩
    · have e : t = k := by omega
      subst e
      have j1 : (t : Int) < t1 := by omega
      clear hS hx1 hg1 htb ht1
      go_wp2
      go_ret
      exact ⟨rfl, hrw, hgr⟩
end Go.Proofs.Ygctag
