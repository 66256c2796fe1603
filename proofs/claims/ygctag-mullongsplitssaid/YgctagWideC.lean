import Derived.Test.YgctagWideB
namespace Go.Proofs.Ygctag
open Go.RowKit

def twAt (wt : Int) (C r c : Nat) (x : Nat → Int) (t : Nat) : Int := if t / C < r ∨ (t / C = r ∧ t % C < c) then twT wt C x t else x t
theorem twAt_next (wt : Int) (C r c : Nat) (x : Nat → Int) (hc : c < C) (t : Nat) : upd (twAt wt C r c x) (r * C + c) (x (r * C + c) * (wt ^ (r * c) % 998244353) % 998244353) t = twAt wt C r (c + 1) x t := by
  unfold upd twAt
  by_cases e : t = r * C + c
  · subst e
    rw [if_pos rfl, rc_mod hc, rc_div hc, if_pos (.inr ⟨rfl, by omega⟩)]
    unfold twT
    rw [rc_mod hc, rc_div hc, ← Eqm.iff_emod]
    exact (Eqm.refl _).mul (Eqm.emod _)
  · rw [if_neg e]
    have : ¬ (t / C = r ∧ t % C = c) := fun h => e (by rw [← h.1, ← h.2, Nat.mul_comm, Nat.div_add_mod])
    generalize t / C = q at *
    generalize t % C = m at *
    by_cases h : q < r ∨ (q = r ∧ m < c)
    · rw [if_pos h, if_pos (by omega)]
    · rw [if_neg h, if_neg (by omega)]
theorem twAt_row (wt : Int) (C r : Nat) (x : Nat → Int) (hC : 0 < C) (t : Nat) : twAt wt C r C x t = twAt wt C (r + 1) 0 x t := by
  have hm := Nat.mod_lt t hC
  unfold twAt
  generalize t / C = q at *
  generalize t % C = m at *
  by_cases h : q < r ∨ (q = r ∧ m < C)
  · rw [if_pos h, if_pos (by omega)]
  · rw [if_neg h, if_neg (by omega)]
theorem pow_emod_next (a : Int) (n m : Nat) : a ^ n % 998244353 * (a ^ m % 998244353) % 998244353 = a ^ (n + m) % 998244353 := by
  rw [← Eqm.iff_emod, Int.pow_add]
  exact (Eqm.emod _).mul (Eqm.emod _)

set_option maxRecDepth 100000 in
set_option maxHeartbeats 4000000 in
theorem twist_ok (hb xb N R C rt : Nat) (wt : Nat) (x : Nat → Int) (w : World) (hwt : wt < 998244353) (hR2 : R ≤ 2048) (hC0 : 0 < C) (hC2 : C ≤ 2048) (hN : N = R * C) (hne : hb ≠ xb)
    (hg : GBox w hb xb N R C rt) (hx : w.rowIs xb 126 N (fun i => .int .u32 (x i))) (hxb : ∀ i, i < N → 0 ≤ x i ∧ x i < 998244353) :
    Calls Tagg.prog 118 #[.pointer (some ⟨hb, 0, none⟩), .int .u32 (wt : Int)] w fun e w' => (∃ v, e = .returned v) ∧ w'.rowIs xb 126 N (fun i => .int .u32 (twT wt C x i)) ∧ w.grownBy w' (some xb) := by
  have hNH : Hid (N = R * C) := hN
  have hN2 : N ≤ 4194304 := by rw [hN]; exact Nat.le_trans (Nat.mul_le_mul hR2 hC2) (by decide)
  obtain ⟨wz, hwz⟩ : ∃ wz : Int, wz = (wt : Int) := ⟨_, rfl⟩
  have hz0 : 0 ≤ wz := by omega
  have hz1 : wz < 998244353 := by omega
  rw [← hwz]
  clear hN hwz
  go_enter Tagg.func118, Tagg.ntmps118
  go_wp2_with fail
  go_loopw [4, 5, 6, 7, 8] (fun vb vr _ _ _ wr => ∃ r : Nat, r ≤ R ∧ vb = .int .u32 (wz ^ r % 998244353) ∧ vr = .int .i64 (r : Int) ∧ w.grownBy wr (some xb) ∧ wr.rowIs xb 126 N (fun t => .int .u32 (twAt wz C r 0 x t))) (fun _ vr _ _ _ _ => R - (intOf vr).toNat)
  case atStart => exact ⟨0, by omega, by rw [Int.pow_zero]; rfl, rfl, ⟨rfl, rfl, rfl, Nat.le_refl _, fun _ _ _ => rfl⟩, hx.congr fun t _ => by unfold twAt; rw [if_neg (by rintro (h | ⟨_, h⟩) <;> exact absurd h (Nat.not_lt_zero _))]⟩
  case round =>
    obtain ⟨r, hr, rfl, rfl, hgr, hxr⟩ := hrel
    have hB := hg.grown hgr hne
    obtain ⟨c0, c1, c2, c3⟩ := hB.cells
    obtain ⟨by_, hby⟩ : ∃ b, b = wz ^ r % 998244353 := ⟨_, rfl⟩
    have hb0 : 0 ≤ by_ := by omega
    have hb1 : by_ < 998244353 := by omega
    rw [← hby]
    by_cases hrl : r < R
    · have j1 : (r : Int) < R := by omega
      obtain ⟨rc, hrc⟩ : ∃ rc, rc = r * C := ⟨_, rfl⟩
      have hrcN : (r + 1) * C ≤ N := by rw [hNH.out]; exact Nat.mul_le_mul_right _ hrl
      have hrow := row119 hb xb N R C rt r wr hB hrcN hN2 hC0 (by omega) (by omega)
      rw [Nat.add_mul, Nat.one_mul, ← hrc] at hrcN
      rw [← hrc] at hrow
      have hrcH : Hid (rc = r * C) := hrc
      have hbyH : Hid (by_ = wz ^ r % 998244353) := hby
      clear hrc hby
      go_wp2_with fail
      with_reducible refine hrow.mono ?_
      rintro e w1 ⟨rfl, d, rfl⟩
      have hgr' : w.grownBy (wr.drewN d) (some xb) := ⟨hgr.os, hgr.tape, hgr.output, hgr.size, hgr.block⟩
      have hxr' := row_draws hxr d
      clear hrow hgr hxr hB c0 c1 c2 c3
      generalize wr.drewN d = w2 at *
      go_wp2_with fail
      go_loopw [7, 8] (fun vp vc w4 => ∃ c : Nat, c ≤ C ∧ vp = .int .u32 (wz ^ (r * c) % 998244353) ∧ vc = .int .i64 (c : Int) ∧ w.grownBy w4 (some xb) ∧ w4.rowIs xb 126 N (fun t => .int .u32 (twAt wz C r c x t))) (fun _ vc _ => C - (intOf vc).toNat)
      case atStart => exact ⟨0, by omega, by rw [Nat.mul_zero, Int.pow_zero]; rfl, rfl, hgr', hxr'⟩
      case round =>
        clear hgr' hxr'
        obtain ⟨c, hc, rfl, rfl, hgr, hxr⟩ := hrel
        obtain ⟨p, hp⟩ : ∃ p, p = wz ^ (r * c) % 998244353 := ⟨_, rfl⟩
        have hp0 : 0 ≤ p := by omega
        have hp1 : p < 998244353 := by omega
        rw [← hp]
        by_cases hcl : c < C
        · have j2 : (c : Int) < C := by omega
          have cX := hxr.cell (i := rc + c) (by omega)
          have fX := hxr.frozen (rc + c)
          have eX : twAt wz C r c x (rc + c) = x (rc + c) := by
            unfold twAt
            rw [hrcH.out, rc_div hcl, rc_mod hcl, if_neg (by omega)]
          rw [eX] at cX
          obtain ⟨b0, b1⟩ := hxb (rc + c) (by omega)
          obtain ⟨xv, hxv⟩ : ∃ xv, xv = x (rc + c) := ⟨_, rfl⟩
          rw [← hxv] at cX b0 b1
          have hM1 := mulMod_ok xv p b0 b1 hp0 hp1
          have hM2 := mulMod_ok p by_ hp0 hp1 hb0 hb1
          have hnext : Hid (∀ W', W' = wr.setCell ⟨xb, rc + c, none⟩ (.int .u32 (xv * p % 998244353)) → w.grownBy W' (some xb) ∧ W'.rowIs xb 126 N (fun t => .int .u32 (twAt wz C r (c + 1) x t))) := by
            show ∀ W', _ → _
            rintro W' rfl
            refine ⟨grown_set hgr 0 _ _, (row_set (F := Value.int .u32) hxr (rc + c) (xv * p % 998244353)).congr fun t _ => ?_⟩
            rw [hxv, hp, hrcH.out, twAt_next wz C r c x hcl t]
          have hpn : Hid (p * by_ % 998244353 = wz ^ (r * (c + 1)) % 998244353) := by
            show _ = _
            rw [hp, hbyH.out, pow_emod_next, Nat.mul_add, Nat.mul_one]
          clear hp hgr hxr eX hxv
          go_wp2_with fail
          with_reducible refine (hM1 _).mono ?_
          rintro e w5 ⟨rfl, rfl⟩
          go_wp2_with fail
          with_reducible refine (hM2 _).mono ?_
          rintro e w5 ⟨rfl, rfl⟩
          go_wp2
          exact ⟨⟨c + 1, by omega, by rw [hpn.out], by go_num, hnext.out _ rfl⟩, by simp [intOf]; omega⟩
        · have e : c = C := by omega
          subst e
          have hM2 := mulMod_ok by_ wz hb0 hb1 hz0 hz1
          have hfin : Hid (w.grownBy wr (some xb) ∧ wr.rowIs xb 126 N (fun t => .int .u32 (twAt wz c (r + 1) 0 x t))) := ⟨hgr, hxr.congr fun t _ => by rw [twAt_row wz c r x hC0]⟩
          have hbn : Hid (by_ * wz % 998244353 = wz ^ (r + 1) % 998244353) := by
            show _ = _
            rw [hbyH.out, ← Eqm.iff_emod, Int.pow_succ]
            exact (Eqm.emod _).mul (Eqm.refl _)
          clear hp hgr hxr
          go_wp2_with fail
          with_reducible refine (hM2 _).mono ?_
          rintro e w5 ⟨rfl, rfl⟩
          go_wp2
          exact ⟨⟨r + 1, by omega, by rw [hbn.out], by go_num, hfin.out⟩, by simp [intOf]; omega⟩
    · have e : r = R := by omega
      subst e
      have hfin : Hid (wr.rowIs xb 126 N (fun i => .int .u32 (twT wz C x i)) ∧ w.grownBy wr (some xb)) := ⟨hxr.congr fun t ht => by unfold twAt; rw [if_pos (.inl (by rw [Nat.div_lt_iff_lt_mul hC0, ← hNH.out]; exact ht))], hgr⟩
      clear hgr hxr hby
      go_wp2
      go_end0
      exact ⟨⟨_, rfl⟩, hfin.out.1, hfin.out.2⟩
end Go.Proofs.Ygctag
