import Derived.Test.YgctagVec
import Derived.Deep.DeepCutAuto
import Derived.Deep.CutBlock
namespace Go.Proofs.Ygctag
open Go.RowKit

def revAt (k q : Nat) (F : Nat → Int) : Nat → Int := fun m => if m < q ∨ rev k m < q then F (rev k m) else F m

theorem revAt_swap (k q : Nat) (F : Nat → Int) (hq : q < 2 ^ k) (h : q < rev k q) (m : Nat) (hm : m < 2 ^ k) :
    upd (upd (revAt k q F) q (revAt k q F (rev k q))) (rev k q) (revAt k q F q) m = revAt k (q + 1) F m := by
  have hrr := rev_rev k q hq
  have hrm := rev_rev k m hm
  have e1 : revAt k q F q = F q := by unfold revAt; rw [if_neg (by omega)]
  have e2 : revAt k q F (rev k q) = F (rev k q) := by unfold revAt; rw [hrr, if_neg (by omega)]
  rw [e1, e2]
  unfold upd
  by_cases h1 : m = rev k q
  · subst h1
    rw [if_pos rfl]
    unfold revAt
    rw [hrr, if_pos (by omega)]
  · rw [if_neg h1]
    by_cases h2 : m = q
    · subst h2
      rw [if_pos rfl]
      unfold revAt
      rw [if_pos (by omega)]
    · rw [if_neg h2]
      unfold revAt
      have h3 : rev k m ≠ q := fun e => h1 (by rw [← e, hrm])
      by_cases h4 : m < q ∨ rev k m < q
      · rw [if_pos h4, if_pos (by omega)]
      · rw [if_neg h4, if_neg (by omega)]

theorem revAt_stay (k q : Nat) (F : Nat → Int) (hq : q < 2 ^ k) (h : ¬ q < rev k q) (m : Nat) (hm : m < 2 ^ k) : revAt k q F m = revAt k (q + 1) F m := by
  have hrr := rev_rev k q hq
  have hrm := rev_rev k m hm
  unfold revAt
  by_cases h4 : m < q ∨ rev k m < q
  · rw [if_pos h4, if_pos (by omega)]
  · rw [if_neg h4]
    by_cases h5 : m < q + 1 ∨ rev k m < q + 1
    · rw [if_pos h5]
      have : m = q ∨ rev k m = q := by omega
      rcases this with e | e
      · subst e
        have : rev k m = m := by omega
        rw [this]
      · have e2 : m = rev k q := by rw [← e, hrm]
        have : m = q := by omega
        subst this
        rw [e]
    · rw [if_neg h5]

theorem revAt_all (k : Nat) (F : Nat → Int) (m : Nat) (hm : m < 2 ^ k) : revAt k (2 ^ k) F m = F (rev k m) := by
  unfold revAt; rw [if_pos (.inl hm)]
theorem revAt_zero (k : Nat) (F : Nat → Int) (m : Nat) : revAt k 0 F m = F m := by
  unfold revAt; rw [if_neg (by omega)]

theorem rev_of_zero (k : Nat) : rev k 0 = 0 := by
  induction k with
  | zero => rfl
  | succ k ih => show rev k (0 / 2) + 0 % 2 * 2 ^ k = 0; rw [Nat.zero_div, ih, Nat.zero_mod, Nat.zero_mul]

set_option maxRecDepth 100000 in
set_option maxHeartbeats 2000000 in
theorem reverse_ok (k g N off n cap : Nat) (F f : Nat → Int) (w : World) (hk : k ≤ 11) (hn : n = 2 ^ k) (hx : Vec w g N off n F f) :
    Calls Tagg.prog 132 #[.slice (some ⟨g, off, none⟩) n cap] w fun e w' => e = .returned (.tuple #[]) ∧ Vec w' g N off n (fun m => F (rev k m)) f ∧ w.grownBy w' (some g) := by
  have hle : 2 ^ k ≤ 2 ^ 11 := Nat.pow_le_pow_right (by decide) hk
  have hn2 : n ≤ 2048 := by omega
  have hN : Hid (n = 2 ^ k) := hn
  clear hn hle
  go_enter Tagg.func132, Tagg.ntmps132
  go_wp2_with fail
  go_loopw [2, 3] (fun vj vi wr => ∃ q : Nat, q ≤ n ∧ vi = .int .i64 q ∧ vj = .int .i64 (rev k q) ∧ w.grownBy wr (some g) ∧ Vec wr g N off n (revAt k q F) f) (fun _ vi _ => n - (intOf vi).toNat)
  case atStart => exact ⟨0, by omega, rfl, by rw [rev_of_zero]; rfl, ⟨rfl, rfl, rfl, Nat.le_refl _, fun _ _ _ => rfl⟩, hx.congr fun i _ => (revAt_zero k F i).symm⟩
  case round =>
    obtain ⟨q, hq, rfl, rfl, hgr, hv⟩ := hrel
    by_cases hqn : q < n
    · have hrn : rev k q < n := by rw [hN.out]; exact rev_lt k q
      have hiq : (q : Int) < n := by omega
      have hir : ((rev k q : Nat) : Int) < n := by omega
      go_upto_if 13 with fail
      go_cut [2] (fun vj wx => vj = Value.int .i64 ((rev k q : Nat) : Int) ∧ w.grownBy wx (some g) ∧ Vec wx g N off n (revAt k (q + 1) F) f)
      case first =>
        by_cases hsw : q < rev k q
        · have c1 := hv.cell hqn
          have c2 := hv.cell hrn
          have f1 := hv.frozen (off + q)
          have f2 := hv.frozen (off + rev k q)
          have hv2 := ((hv.set hqn (revAt k q F (rev k q))).set hrn (revAt k q F q)).congr (fun m hm => revAt_swap k q F (by rw [← hN.out]; exact hqn) hsw m (by rw [← hN.out]; exact hm))
          have hg2 : ∀ a b, w.grownBy ((wr.setCell ⟨g, off + q, none⟩ a).setCell ⟨g, off + rev k q, none⟩ b) (some g) := fun a b => grown_set (grown_set hgr 0 _ _) 0 _ _
          have hsw' : (q : Int) < ((rev k q : Nat) : Int) := by omega
          have hne : ¬ off + q = off + rev k q := by omega
          have hne2 : ¬ rev k q = q := by omega
          have hall : Hid (w.grownBy (((wr.setCell ⟨g, off + q, none⟩ (.int .u32 (revAt k q F (rev k q)))).setCell ⟨g, off + rev k q, none⟩ (.int .u32 (revAt k q F q))).drew) (some g) ∧ Vec (((wr.setCell ⟨g, off + q, none⟩ (.int .u32 (revAt k q F (rev k q)))).setCell ⟨g, off + rev k q, none⟩ (.int .u32 (revAt k q F q))).drew) g N off n (revAt k (q + 1) F) f) := ⟨grown_drew (hg2 _ _), hv2⟩
          clear hv2 hg2 hv hgr hx
          generalize revAt k q F (rev k q) = A at *
          generalize revAt k q F q = B at *
          generalize rev k q = R at *
          go_wp2_with fail
          go_region
          go_wp2_with fail
          go_meet
          exact ⟨rfl, hall.out⟩
        · have hsw' : ((rev k q : Nat) : Int) ≤ (q : Int) := by omega
          have hv2 := hv.congr (fun m hm => revAt_stay k q F (by rw [← hN.out]; exact hqn) hsw m (by rw [← hN.out]; exact hm))
          clear hv hx
          go_wp2
          go_meet
          exact ⟨rfl, hgr, hv2⟩
      case rest =>
        obtain ⟨rfl, hgc, hvc⟩ := hcut
        clear hv hgr hx
        obtain ⟨H, hH⟩ : ∃ H : Nat, (n : Int) / 2 = (H : Int) := ⟨n / 2, by omega⟩
        have hH2 : Hid (H = n / 2 ^ (0 + 1)) := by show H = n / 2; omega
        have hq2 : Hid (q < 2 ^ k) := by show q < 2 ^ k; rw [← hN.out]; exact hqn
        go_wp2_with fail
        go_loopw [2, 4] (fun vj vb wr => ∃ t j b : Nat, t ≤ k ∧ vj = .int .i64 j ∧ vb = .int .i64 b ∧ b = n / 2 ^ (t + 1) ∧ j = rev (k - t) (q / 2 ^ t) ∧ q % 2 ^ t = 2 ^ t - 1 ∧ wc = wr) (fun _ vb _ => (intOf vb).toNat)
        case atStart => exact ⟨0, rev k q, H, by omega, rfl, rfl, hH2.out, by rw [Nat.pow_zero, Nat.div_one]; rfl, by rw [Nat.pow_zero]; omega, rfl⟩
        case round =>
          obtain ⟨t, j, b, ht, rfl, rfl, hb, hj, hm, rfl⟩ := hrel
          have hqk := hq2.out
          have hNn := hN.out
          by_cases htk : t = k
          · subst htk
            have hb0 : b = 0 := by
              rw [hb, hNn]
              exact Nat.div_eq_of_lt (Nat.pow_lt_pow_right (by decide) (by omega))
            have hj0 : j = 0 := by rw [hj, Nat.sub_self]; rfl
            have hra := rev_all t q hm
            subst hb0 hj0
            have ho : bits .or .i64 0 0 = 0 := by decide
            clear hb hj hm hqk hNn
            have hH : Hid (rev t (q + 1) = 0) := hra
            clear hra
            go_wp2
            go_roundw
            case rel => exact ⟨q + 1, by omega, by go_num, by rw [hH.out]; rfl, hgc, hvc⟩
            case measure => simp [intOf]; omega
          · have hbB : b = 2 ^ (k - 1 - t) := by
              rw [hb, hNn, show k = (k - 1 - t) + (t + 1) by omega, Nat.pow_add, Nat.mul_div_cancel _ (Nat.two_pow_pos _)]
              congr 1; omega
            have hbpos : 0 < b := by rw [hbB]; exact Nat.two_pow_pos _
            have hble : b ≤ 2048 := by rw [hb]; have := Nat.div_le_self n (2 ^ (t + 1)); omega
            obtain ⟨c, hc⟩ : ∃ c, c = rev (k - (t + 1)) (q / 2 ^ (t + 1)) := ⟨_, rfl⟩
            have hclt : c < b := by rw [hc, hbB, show k - 1 - t = k - (t + 1) by omega]; exact rev_lt _ _
            have hdiv : q / 2 ^ t / 2 = q / 2 ^ (t + 1) := by rw [Nat.pow_succ, Nat.div_div_eq_div_mul]
            have hjc : j = c + q / 2 ^ t % 2 * b := by
              rw [hj, hc, hbB, show k - t = (k - (t + 1)) + 1 by omega, ← hdiv, show k - 1 - t = k - (t + 1) by omega]
              rfl
            by_cases hbit : q / 2 ^ t % 2 = 1
            · rw [hbit, Nat.one_mul] at hjc
              have ha := i64_and_nat j b (by omega) (by omega)
              have hx := i64_xor_nat j b (by omega) (by omega)
              rw [hjc, hbB, bit_and_set (by rw [← hbB]; exact hclt), ← hbB, ← hjc] at ha
              rw [hjc, hbB, bit_xor_set (by rw [← hbB]; exact hclt), ← hbB, ← hjc] at hx
              obtain ⟨b2, hb2⟩ : ∃ b2 : Nat, (b : Int) / 2 = (b2 : Int) := ⟨b / 2, by omega⟩
              have hb3 : b2 = n / 2 ^ (t + 1 + 1) := by rw [Nat.pow_succ, ← Nat.div_div_eq_div_mul, ← hb]; omega
              have hm2 : q % 2 ^ (t + 1) = 2 ^ (t + 1) - 1 := by
                have h1 : q % (2 ^ t * 2) = q % 2 ^ t + 2 ^ t * (q / 2 ^ t % 2) := Nat.mod_mul
                rw [Nat.pow_succ, h1, hm, hbit]
                have := Nat.two_pow_pos t
                omega
              have hrel' : Hid (∃ t j b : Nat, t ≤ k ∧ Value.int .i64 (c : Int) = .int .i64 j ∧ Value.int .i64 (b2 : Int) = .int .i64 b ∧ b = n / 2 ^ (t + 1) ∧ j = rev (k - t) (q / 2 ^ t) ∧ q % 2 ^ t = 2 ^ t - 1 ∧ True) :=
                ⟨t + 1, c, b2, by omega, rfl, rfl, hb3, hc, hm2, trivial⟩
              have hbi : (0 : Int) < b := by omega
              have hlt2 : b2 < b := by omega
              clear hb hj hm hqk hNn hbB hc hclt hdiv hjc hbit hb3 hm2 hq2
              go_wp2
              exact ⟨hrel'.out, by simp [intOf]; omega⟩
            · have hbit0 : q / 2 ^ t % 2 = 0 := by omega
              rw [hbit0, Nat.zero_mul, Nat.add_zero] at hjc
              have ha := i64_and_nat j b (by omega) (by omega)
              have hx := i64_or_nat j b (by omega) (by omega)
              rw [hjc, hbB, bit_and_clear (by rw [← hbB]; exact hclt), ← hbB, ← hjc] at ha
              rw [hjc, hbB, bit_or (by rw [← hbB]; exact hclt), ← hbB, ← hjc] at hx
              have hinc := rev_incr k t q (by omega) hm hbit0
              rw [← hj, ← hbB] at hinc
              have ha0 : bits .and .i64 (j : Int) (b : Int) = 0 := ha
              obtain ⟨R, hR⟩ : ∃ R, R = j + b := ⟨_, rfl⟩
              rw [← hR] at hx hinc
              have hbi : (0 : Int) < b := by omega
              have hHinc : Hid (rev k (q + 1) = R) := hinc
              clear hb hj hm hqk hNn hbB hc hclt hdiv hjc hbit hbit0 hq2 ha hinc hR
              go_wp2
              go_roundw
              case rel => exact ⟨q + 1, by omega, by go_num, by rw [hHinc.out], hgc, hvc⟩
              case measure => simp [intOf]; omega
    · have e : q = n := by omega
      subst e
      have hv2 := hv.congr (G := fun m => F (rev k m)) (fun m hm => by rw [hN.out]; exact revAt_all k F m (by rw [← hN.out]; exact hm))
      clear hv
      go_wp2
      go_end0
      exact ⟨rfl, hv2, hgr⟩
end Go.Proofs.Ygctag
