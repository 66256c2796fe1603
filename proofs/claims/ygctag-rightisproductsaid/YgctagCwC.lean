import Derived.Test.YgctagCwB
import Derived.Test.YgctagRev
namespace Go.Proofs.Ygctag
open Go.RowKit
attribute [local go_sem] run_store_complex

def updC (f : Nat → Cb) (i : Nat) (v : Cb) (j : Nat) : Cb := if j = i then v else f j
def revC (k q : Nat) (F : Nat → Cb) : Nat → Cb := fun m => if m < q ∨ rev k m < q then F (rev k m) else F m

theorem revC_swap (k q : Nat) (F : Nat → Cb) (hq : q < 2 ^ k) (h : q < rev k q) (m : Nat) (hm : m < 2 ^ k) :
    updC (updC (revC k q F) q (revC k q F (rev k q))) (rev k q) (revC k q F q) m = revC k (q + 1) F m := by
  have hrr := rev_rev k q hq
  have hrm := rev_rev k m hm
  have e1 : revC k q F q = F q := by unfold revC; rw [if_neg (by omega)]
  have e2 : revC k q F (rev k q) = F (rev k q) := by unfold revC; rw [hrr, if_neg (by omega)]
  rw [e1, e2]
  unfold updC
  by_cases h1 : m = rev k q
  · subst h1
    rw [if_pos rfl]
    unfold revC
    rw [hrr, if_pos (by omega)]
  · rw [if_neg h1]
    by_cases h2 : m = q
    · subst h2
      rw [if_pos rfl]
      unfold revC
      rw [if_pos (by omega)]
    · rw [if_neg h2]
      unfold revC
      have h3 : rev k m ≠ q := fun e => h1 (by rw [← e, hrm])
      by_cases h4 : m < q ∨ rev k m < q
      · rw [if_pos h4, if_pos (by omega)]
      · rw [if_neg h4, if_neg (by omega)]

theorem revC_stay (k q : Nat) (F : Nat → Cb) (hq : q < 2 ^ k) (h : ¬ q < rev k q) (m : Nat) (hm : m < 2 ^ k) : revC k q F m = revC k (q + 1) F m := by
  have hrr := rev_rev k q hq
  have hrm := rev_rev k m hm
  unfold revC
  by_cases h4 : m < q ∨ rev k m < q
  · rw [if_pos h4, if_pos (by omega)]
  · rw [if_neg h4]
    by_cases h5 : m < q + 1 ∨ rev k m < q + 1
    · rw [if_pos h5]
      have : m = q ∨ rev k m = q := by omega
      rcases this with e | e
      · subst e
        have : rev k m = m := by omega
        rw [this]
      · have e2 : m = rev k q := by rw [← e, hrm]
        have : m = q := by omega
        subst this
        rw [e]
    · rw [if_neg h5]

theorem revC_all (k : Nat) (F : Nat → Cb) (m : Nat) (hm : m < 2 ^ k) : revC k (2 ^ k) F m = F (rev k m) := by
  unfold revC; rw [if_pos (.inl hm)]
theorem revC_zero (k : Nat) (F : Nat → Cb) (m : Nat) : revC k 0 F m = F m := by
  unfold revC; rw [if_neg (by omega)]

set_option maxRecDepth 100000 in
set_option maxHeartbeats 2000000 in
theorem reverse73 (k g n cap : Nat) (F : Nat → Cb) (w : World) (hk : k ≤ 11) (hn : n = 2 ^ k) (hx : w.rowIs g 90 n (fun i => cpv (F i))) :
    Calls Tagg.prog 73 #[.slice (some ⟨g, 0, none⟩) n cap] w fun e w' => e = .returned (.tuple #[]) ∧ w'.rowIs g 90 n (fun m => cpv (F (rev k m))) ∧ w.grownBy w' (some g) := by
  have hLv := level99 k hk n hn
  have hk0 : (0 : Int) ≤ k := by omega
  have hle : 2 ^ k ≤ 2 ^ 11 := Nat.pow_le_pow_right (by decide) hk
  have hn2 : n ≤ 2048 := by omega
  have hN : Hid (n = 2 ^ k) := hn
  clear hn hle
  go_enter Tagg.func73, Tagg.ntmps73
  go_wp2_with fail
  with_reducible refine (hLv _).mono ?_
  rintro e w0 ⟨rfl, rfl⟩
  clear hLv
  go_wp2_with fail
  go_loopw [3, 4] (fun vj vi wr => ∃ q : Nat, q ≤ n ∧ vi = .int .i64 q ∧ vj = .int .i64 (rev k q) ∧ w0.grownBy wr (some g) ∧ wr.rowIs g 90 n (fun i => cpv (revC k q F i))) (fun _ vi _ => n - (intOf vi).toNat)
  case atStart => exact ⟨0, by omega, rfl, by rw [rev_of_zero]; rfl, ⟨rfl, rfl, rfl, Nat.le_refl _, fun _ _ _ => rfl⟩, hx.congr fun i _ => by rw [revC_zero k F i]⟩
  case round =>
    obtain ⟨q, hq, rfl, rfl, hgr, hv⟩ := hrel
    by_cases hqn : q < n
    · have hrn : rev k q < n := by rw [hN.out]; exact rev_lt k q
      have hiq : (q : Int) < n := by omega
      have hir : ((rev k q : Nat) : Int) < n := by omega
      go_upto_if 18 with fail
      go_cut [3] (fun vj wx => vj = Value.int .i64 ((rev k q : Nat) : Int) ∧ w0.grownBy wx (some g) ∧ wx.rowIs g 90 n (fun i => cpv (revC k (q + 1) F i)))
      case first =>
        by_cases hsw : q < rev k q
        · have c1 := hv.cell hqn
          have c2 := hv.cell hrn
          have f1 := hv.frozen q
          have f2 := hv.frozen (rev k q)
          have hv2 := (row_set (F := cpv) (row_set (F := cpv) hv q (revC k q F (rev k q))) (rev k q) (revC k q F q)).congr (g := fun i => cpv (revC k (q + 1) F i)) (fun m hm => by rw [← revC_swap k q F (by rw [← hN.out]; exact hqn) hsw m (by rw [← hN.out]; exact hm)]; rfl)
          have hg2 : ∀ a b, w0.grownBy ((wr.setCell ⟨g, q, none⟩ a).setCell ⟨g, rev k q, none⟩ b) (some g) := fun a b => grown_set (grown_set hgr 0 _ _) 0 _ _
          have hsw' : (q : Int) < ((rev k q : Nat) : Int) := by omega
          have hne : ¬ q = rev k q := by omega
          have hne2 : ¬ rev k q = q := by omega
          have hall : Hid (w0.grownBy (((wr.setCell ⟨g, q, none⟩ (.complex .f64 (revC k q F (rev k q)).1 (revC k q F (rev k q)).2)).setCell ⟨g, rev k q, none⟩ (.complex .f64 (revC k q F q).1 (revC k q F q).2)).drew) (some g) ∧ (((wr.setCell ⟨g, q, none⟩ (.complex .f64 (revC k q F (rev k q)).1 (revC k q F (rev k q)).2)).setCell ⟨g, rev k q, none⟩ (.complex .f64 (revC k q F q).1 (revC k q F q).2)).drew).rowIs g 90 n (fun i => cpv (revC k (q + 1) F i))) := ⟨grown_drew (hg2 _ _), hv2⟩
          unfold cpv at c1 c2
          clear hv2 hg2 hv hgr hx
          generalize revC k q F (rev k q) = A at *
          generalize revC k q F q = B at *
          generalize rev k q = R at *
          go_wp2_with fail
          go_region
          go_wp2_with fail
          go_meet
          exact ⟨rfl, hall.out⟩
        · have hsw' : ((rev k q : Nat) : Int) ≤ (q : Int) := by omega
          have hv2 := hv.congr (g := fun i => cpv (revC k (q + 1) F i)) (fun m hm => by rw [revC_stay k q F (by rw [← hN.out]; exact hqn) hsw m (by rw [← hN.out]; exact hm)])
          clear hv hx
          go_wp2
          go_meet
          exact ⟨rfl, hgr, hv2⟩
      case rest =>
        obtain ⟨rfl, hgc, hvc⟩ := hcut
        clear hv hgr hx
        obtain ⟨H, hH⟩ : ∃ H : Nat, (n : Int) / 2 = (H : Int) := ⟨n / 2, by omega⟩
        have hH2 : Hid (H = n / 2 ^ (0 + 1)) := by show H = n / 2; omega
        have hq2 : Hid (q < 2 ^ k) := by show q < 2 ^ k; rw [← hN.out]; exact hqn
        go_wp2_with fail
        go_loopw [3, 5] (fun vj vb wr => ∃ t j b : Nat, t ≤ k ∧ vj = .int .i64 j ∧ vb = .int .i64 b ∧ b = n / 2 ^ (t + 1) ∧ j = rev (k - t) (q / 2 ^ t) ∧ q % 2 ^ t = 2 ^ t - 1 ∧ wc = wr) (fun _ vb _ => (intOf vb).toNat)
        case atStart => exact ⟨0, rev k q, H, by omega, rfl, rfl, hH2.out, by rw [Nat.pow_zero, Nat.div_one]; rfl, by rw [Nat.pow_zero]; omega, rfl⟩
        case round =>
          obtain ⟨t, j, b, ht, rfl, rfl, hb, hj, hm, rfl⟩ := hrel
          have hqk := hq2.out
          have hNn := hN.out
          by_cases htk : t = k
          · subst htk
            have hb0 : b = 0 := by
              rw [hb, hNn]
              exact Nat.div_eq_of_lt (Nat.pow_lt_pow_right (by decide) (by omega))
            have hj0 : j = 0 := by rw [hj, Nat.sub_self]; rfl
            have hra := rev_all t q hm
            subst hb0 hj0
            have ho : bits .or .i64 0 0 = 0 := by decide
            clear hb hj hm hqk hNn
            have hH : Hid (rev t (q + 1) = 0) := hra
            clear hra
            go_wp2
            go_roundw
            case rel => exact ⟨q + 1, by omega, by go_num, by rw [hH.out]; rfl, hgc, hvc⟩
            case measure => simp [intOf]; omega
          · have hbB : b = 2 ^ (k - 1 - t) := by
              rw [hb, hNn, show k = (k - 1 - t) + (t + 1) by omega, Nat.pow_add, Nat.mul_div_cancel _ (Nat.two_pow_pos _)]
              congr 1; omega
            have hbpos : 0 < b := by rw [hbB]; exact Nat.two_pow_pos _
            have hble : b ≤ 2048 := by rw [hb]; have := Nat.div_le_self n (2 ^ (t + 1)); omega
            obtain ⟨c, hc⟩ : ∃ c, c = rev (k - (t + 1)) (q / 2 ^ (t + 1)) := ⟨_, rfl⟩
            have hclt : c < b := by rw [hc, hbB, show k - 1 - t = k - (t + 1) by omega]; exact rev_lt _ _
            have hdiv : q / 2 ^ t / 2 = q / 2 ^ (t + 1) := by rw [Nat.pow_succ, Nat.div_div_eq_div_mul]
            have hjc : j = c + q / 2 ^ t % 2 * b := by
              rw [hj, hc, hbB, show k - t = (k - (t + 1)) + 1 by omega, ← hdiv, show k - 1 - t = k - (t + 1) by omega]
              rfl
            by_cases hbit : q / 2 ^ t % 2 = 1
            · rw [hbit, Nat.one_mul] at hjc
              have ha := i64_and_nat j b (by omega) (by omega)
              have hx := i64_xor_nat j b (by omega) (by omega)
              rw [hjc, hbB, bit_and_set (by rw [← hbB]; exact hclt), ← hbB, ← hjc] at ha
              rw [hjc, hbB, bit_xor_set (by rw [← hbB]; exact hclt), ← hbB, ← hjc] at hx
              obtain ⟨b2, hb2⟩ : ∃ b2 : Nat, (b : Int) / 2 = (b2 : Int) := ⟨b / 2, by omega⟩
              have hb3 : b2 = n / 2 ^ (t + 1 + 1) := by rw [Nat.pow_succ, ← Nat.div_div_eq_div_mul, ← hb]; omega
              have hm2 : q % 2 ^ (t + 1) = 2 ^ (t + 1) - 1 := by
                have h1 : q % (2 ^ t * 2) = q % 2 ^ t + 2 ^ t * (q / 2 ^ t % 2) := Nat.mod_mul
                rw [Nat.pow_succ, h1, hm, hbit]
                have := Nat.two_pow_pos t
                omega
              have hrel' : Hid (∃ t j b : Nat, t ≤ k ∧ Value.int .i64 (c : Int) = .int .i64 j ∧ Value.int .i64 (b2 : Int) = .int .i64 b ∧ b = n / 2 ^ (t + 1) ∧ j = rev (k - t) (q / 2 ^ t) ∧ q % 2 ^ t = 2 ^ t - 1 ∧ True) :=
                ⟨t + 1, c, b2, by omega, rfl, rfl, hb3, hc, hm2, trivial⟩
              have hbi : (0 : Int) < b := by omega
              have hlt2 : b2 < b := by omega
              clear hb hj hm hqk hNn hbB hc hclt hdiv hjc hbit hb3 hm2 hq2
              go_wp2
              exact ⟨hrel'.out, by simp [intOf]; omega⟩
            · have hbit0 : q / 2 ^ t % 2 = 0 := by omega
              rw [hbit0, Nat.zero_mul, Nat.add_zero] at hjc
              have ha := i64_and_nat j b (by omega) (by omega)
              have hx := i64_or_nat j b (by omega) (by omega)
              rw [hjc, hbB, bit_and_clear (by rw [← hbB]; exact hclt), ← hbB, ← hjc] at ha
              rw [hjc, hbB, bit_or (by rw [← hbB]; exact hclt), ← hbB, ← hjc] at hx
              have hinc := rev_incr k t q (by omega) hm hbit0
              rw [← hj, ← hbB] at hinc
              have ha0 : bits .and .i64 (j : Int) (b : Int) = 0 := ha
              obtain ⟨R, hR⟩ : ∃ R, R = j + b := ⟨_, rfl⟩
              rw [← hR] at hx hinc
              have hbi : (0 : Int) < b := by omega
              have hHinc : Hid (rev k (q + 1) = R) := hinc
              clear hb hj hm hqk hNn hbB hc hclt hdiv hjc hbit hbit0 hq2 ha hinc hR
              go_wp2
              go_roundw
              case rel => exact ⟨q + 1, by omega, by go_num, by rw [hHinc.out], hgc, hvc⟩
              case measure => simp [intOf]; omega
    · have e : q = n := by omega
      subst e
      have hv2 := hv.congr (g := fun m => cpv (F (rev k m))) (fun m hm => by rw [hN.out, revC_all k F m (by rw [← hN.out]; exact hm)])
      clear hv
      go_wp2
      go_end0
      exact ⟨rfl, hv2, hgr⟩
end Go.Proofs.Ygctag
