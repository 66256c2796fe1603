import Derived.Test.YgctagNttP
import Derived.Deep.RegionWith
import Derived.Laws.BitsAllLaws
namespace Go.Proofs.Ygctag
open Go.RowKit

theorem below_ok (a : Int) (h0 : 0 ≤ a) (h : a < 998244353) (w : World) : Calls Tagg.prog 120 #[.int .u32 a] w fun e w' => e = .returned (.int .u32 a) ∧ w' = w := by
  go_enter Tagg.func120, Tagg.ntmps120
  go_wp2
  go_ret
  exact ⟨rfl, rfl⟩

theorem mod_mul_lt (a b : Int) (h0 : 0 ≤ a) (h : a < 998244353) (g0 : 0 ≤ b) (g : b < 998244353) : 0 ≤ a * b ∧ a * b < 18446744073709551616 := by
  refine ⟨Int.mul_nonneg h0 g0, ?_⟩
  have h1 : a * b ≤ 998244353 * b := Int.mul_le_mul_of_nonneg_right (by omega) g0
  omega

set_option maxHeartbeats 1000000 in
theorem mulMod_ok (a b : Int) (h0 : 0 ≤ a) (h : a < 998244353) (g0 : 0 ≤ b) (g : b < 998244353) (w : World) : Calls Tagg.prog 110 #[.int .u32 a, .int .u32 b] w fun e w' => e = .returned (.int .u32 (a * b % 998244353)) ∧ w' = w := by
  obtain ⟨m0, m1⟩ := mod_mul_lt a b h0 h g0 g
  have w1 : IntKind.u64.wrap (a * b) = a * b := IntWalk.u64_in _ ⟨m0, by omega⟩
  have w2 : IntKind.u32.wrap (a * b % 998244353) = a * b % 998244353 := IntWalk.u32_in _ ⟨by omega, by omega⟩
  go_enter Tagg.func110, Tagg.ntmps110
  go_wp2_with fail
  with_reducible refine (below_ok a h0 h _).mono ?_
  rintro e w' ⟨rfl, rfl⟩
  go_wp2_with fail
  with_reducible refine (below_ok b g0 g _).mono ?_
  rintro e w' ⟨rfl, rfl⟩
  go_wp2
  go_ret
  exact ⟨rfl, rfl⟩

/-- Fold. -/
theorem fold_ok (s : Int) (h0 : 0 ≤ s) (h : s < 1996488706) (w : World) : Calls Tagg.prog 129 #[.int .u32 s] w fun e w' => e = .returned (.int .u32 (s % 998244353)) ∧ w' = w := by
  by_cases hs : s < 998244353
  · have e : s % 998244353 = s := by omega
    rw [e]
    go_enter Tagg.func129, Tagg.ntmps129
    go_wp2
    go_ret
    exact ⟨rfl, rfl⟩
  · have e : s % 998244353 = s - 998244353 := by omega
    rw [e]
    have hs' : 998244353 ≤ s := by omega
    go_enter Tagg.func129, Tagg.ntmps129
    go_wp2
    go_ret
    exact ⟨rfl, rfl⟩

/-- The ratio of a factor. -/
def rat (w : Int) : Int := w * 4294967296 / 998244353
/-- times. -/
def tms (w x : Int) : Int := x * w - x * rat w / 4294967296 * 998244353

theorem rat_bound (w : Int) (h0 : 0 ≤ w) (h : w < 998244353) : 0 ≤ rat w ∧ rat w < 4294967296 ∧ rat w * 998244353 ≤ w * 4294967296 ∧ w * 4294967296 < rat w * 998244353 + 998244353 := by
  unfold rat; omega

theorem tms_bound (w x : Int) (h0 : 0 ≤ w) (h : w < 998244353) (hx0 : 0 ≤ x) (hx : x < 4294967296) : 0 ≤ tms w x ∧ tms w x < 1996488706 ∧ Eqm (tms w x) (x * w) := by
  obtain ⟨r0, r1, r2, r3⟩ := rat_bound w h0 h
  unfold tms
  generalize rat w = r at *
  have q1 : x * r / 4294967296 * 4294967296 ≤ x * r := by omega
  have q2 : x * r < x * r / 4294967296 * 4294967296 + 4294967296 := by omega
  have m1 : x * (r * 998244353) ≤ x * (w * 4294967296) := Int.mul_le_mul_of_nonneg_left r2 hx0
  have m2 : x * (w * 4294967296) ≤ x * (r * 998244353 + 998244353) := Int.mul_le_mul_of_nonneg_left (by omega) hx0
  rw [← Int.mul_assoc, ← Int.mul_assoc] at m1
  rw [Int.mul_add, ← Int.mul_assoc, ← Int.mul_assoc] at m2
  generalize x * r = A at *
  generalize x * w = B at *
  generalize A / 4294967296 = q at *
  refine ⟨by omega, by omega, ⟨-q, by omega⟩⟩

set_option maxHeartbeats 1000000 in
theorem times_ok (f x : Int) (h0 : 0 ≤ f) (h : f < 998244353) (hx0 : 0 ≤ x) (hx : x < 4294967296) (w : World) :
    Calls Tagg.prog 130 #[.agg #[.int .u32 f, .int .u32 (rat f)], .int .u32 x] w fun e w' => e = .returned (.int .u32 (tms f x)) ∧ Below w.heap.size w w' := by
  obtain ⟨r0, r1, r2, r3⟩ := rat_bound f h0 h
  obtain ⟨t0, t1, -⟩ := tms_bound f x h0 h hx0 hx
  have m0 : 0 ≤ x * rat f := Int.mul_nonneg hx0 r0
  have m1 : x * rat f < 18446744073709551616 := by
    have h1 : x * rat f ≤ x * 4294967295 := Int.mul_le_mul_of_nonneg_left (by omega) hx0
    omega
  have w1 : IntKind.u64.wrap (x * rat f) = x * rat f := IntWalk.u64_in _ ⟨m0, by omega⟩
  have q0 : 0 ≤ x * rat f / 4294967296 := by omega
  have q1 : x * rat f / 4294967296 < 4294967296 := by omega
  have w2 : IntKind.u32.wrap (x * rat f / 4294967296) = x * rat f / 4294967296 := IntWalk.u32_in _ ⟨q0, by omega⟩
  have w3 : (x * f % 4294967296 - x * rat f / 4294967296 * 998244353 % 4294967296) % 4294967296 = tms f x := by
    unfold tms at *
    generalize x * f = A at *
    generalize x * rat f / 4294967296 = B at *
    omega
  go_enter Tagg.func130, Tagg.ntmps130
  go_wp2
  go_ret
  refine ⟨?_, (Below.refl _ _).alloc (Nat.le_refl _) _⟩
  rw [← w3]
  rfl

set_option maxHeartbeats 1000000 in
theorem factorOf_ok (f : Int) (h0 : 0 ≤ f) (h : f < 998244353) (w : World) :
    Calls Tagg.prog 128 #[.int .u32 f] w fun e w' => e = .returned (.agg #[.int .u32 f, .int .u32 (rat f)]) ∧ Below w.heap.size w w' := by
  obtain ⟨r0, r1, r2, r3⟩ := rat_bound f h0 h
  have w1 : IntKind.u64.wrap (f * 4294967296) = f * 4294967296 := IntWalk.u64_in _ ⟨by omega, by omega⟩
  have w2 : f * 4294967296 / 998244353 = rat f := rfl
  have w3 : IntKind.u32.wrap (rat f) = rat f := IntWalk.u32_in _ ⟨by omega, by omega⟩
  go_enter Tagg.func128, Tagg.ntmps128
  go_wp2
  exact bodyPost_ret (v := .agg #[.int .u32 f, .int .u32 (rat f)]) (by simp [results, Tagg.results128, go_sem]) rfl ⟨rfl, (Below.refl _ _).alloc (Nat.le_refl _) _⟩

/-! ### Powers -/
def powN : Nat → Nat → Nat → Nat → Nat
  | 0, r, _, _ => r
  | f + 1, r, a, e => if e = 0 then r else powN f (if e % 2 = 1 then r * a % 998244353 else r) (a * a % 998244353) (e / 2)
theorem powN_zero (f r a : Nat) : powN f r a 0 = r := by cases f <;> rfl

set_option maxHeartbeats 1000000 in
theorem powMod_ok (a e : Nat) (ha : a < 998244353) (he : e < 4294967296) (w : World) :
    Calls Tagg.prog 126 #[.int .u32 a, .int .u32 e] w fun x w' => x = .returned (.int .u32 (powN 32 1 a e : Nat)) ∧ w' = w := by
  go_enter Tagg.func126, Tagg.ntmps126
  go_wp2_with fail
  with_reducible refine (below_ok a (by omega) (by omega) _).mono ?_
  rintro e' w' ⟨rfl, rfl⟩
  go_wp2_with fail
  go_loopw [0, 1, 5] (fun va ve vr wr => ∃ f r a' e' : Nat, va = .int .u32 a' ∧ ve = .int .u32 e' ∧ vr = .int .u32 r ∧ r < 998244353 ∧ a' < 998244353 ∧ e' < 2 ^ f ∧ f ≤ 32 ∧ powN f r a' e' = powN 32 1 a e ∧ wr = w') (fun _ ve _ _ => (intOf ve).toNat)
  case atStart => exact ⟨32, 1, a, e, rfl, rfl, rfl, by omega, ha, by omega, by omega, rfl, rfl⟩
  case round =>
    obtain ⟨f, r, a', e', rfl, rfl, rfl, hr, ha', he', hf, hp, rfl⟩ := hrel
    by_cases h0 : e' = 0
    · subst h0
      rw [powN_zero] at hp
      subst hp
      go_wp2
      go_ret
      exact ⟨rfl, rfl⟩
    · obtain ⟨f, rfl⟩ : ∃ g, f = g + 1 := ⟨f - 1, by
        by_cases hz : f = 0
        · subst hz; rw [Nat.pow_zero] at he'; omega
        · omega⟩
      have hle : 2 ^ (f + 1) ≤ 2 ^ 32 := Nat.pow_le_pow_right (by decide) hf
      rw [powN, if_neg h0] at hp
      have hM2 := mulMod_ok a' a' (by omega) (by omega) (by omega) (by omega)
      rw [← Int.natCast_mul, show ((a' * a' : Nat) : Int) % 998244353 = ((a' * a' % 998244353 : Nat) : Int) from rfl] at hM2
      have hb := u32_and_nat e' 1 (by omega) (by decide)
      rw [Nat.and_one_is_mod] at hb
      have hb1 : ((1 : Nat) : Int) = 1 := rfl
      rw [hb1] at hb
      have hlt : (0 : Int) < e' := by omega
      have ha2 : a' * a' % 998244353 < 998244353 := Nat.mod_lt _ (by decide)
      have he2 : e' / 2 < 2 ^ f := by rw [Nat.pow_succ] at he'; omega
      by_cases hodd : e' % 2 = 1
      · rw [hodd, hb1] at hb
        rw [if_pos hodd] at hp
        have hM1 := mulMod_ok r a' (by omega) (by omega) (by omega) (by omega)
        rw [← Int.natCast_mul, show ((r * a' : Nat) : Int) % 998244353 = ((r * a' % 998244353 : Nat) : Int) from rfl] at hM1
        have hr2 : r * a' % 998244353 < 998244353 := Nat.mod_lt _ (by decide)
        clear hodd
        generalize a' * a' % 998244353 = a2 at *
        generalize r * a' % 998244353 = r2 at *
        go_wp2_with fail
        with_reducible refine (hM1 _).mono ?_
        rintro x w1 ⟨rfl, rfl⟩
        go_wp2_with fail
        with_reducible refine (hM2 _).mono ?_
        rintro x w1 ⟨rfl, rfl⟩
        go_wp2
        go_roundw
        case rel => exact ⟨f, r2, a2, e' / 2, rfl, by go_num, rfl, hr2, ha2, he2, by omega, hp, by trivial⟩
        case measure => simp [intOf]; omega
      · have hev : e' % 2 = 0 := by omega
        rw [hev] at hb
        rw [if_neg hodd] at hp
        have hb0 : bits .and .u32 (e' : Int) 1 = 0 := hb
        clear hodd hev hb
        generalize a' * a' % 998244353 = a2 at *
        go_wp2_with fail
        with_reducible refine (hM2 _).mono ?_
        rintro x w1 ⟨rfl, rfl⟩
        go_wp2
        go_roundw
        case rel => exact ⟨f, r, a2, e' / 2, rfl, by go_num, rfl, hr, ha2, he2, by omega, hp, by trivial⟩
        case measure => simp [intOf]; omega

/-- Root(k). -/
def rootN (k : Nat) : Nat := powN 32 1 3 (998244352 / 2 ^ k)
/-- Its inverse. -/
def irootN (k : Nat) : Nat := powN 32 1 (rootN k) 998244351
/-- The inverse of 2^k. -/
def invN (k : Nat) : Nat := powN 32 1 (2 ^ k) 998244351

theorem powN_lt (f r a e : Nat) (hr : r < 998244353) : powN f r a e < 998244353 := by
  induction f generalizing r a e with
  | zero => exact hr
  | succ f ih =>
    rw [powN]
    split
    · exact hr
    · refine ih _ _ _ ?_
      split
      · exact Nat.mod_lt _ (by decide)
      · exact hr
theorem rootN_lt (k : Nat) : rootN k < 998244353 := powN_lt _ _ _ _ (by decide)
theorem irootN_lt (k : Nat) : irootN k < 998244353 := powN_lt _ _ _ _ (by decide)
theorem invN_lt (k : Nat) : invN k < 998244353 := powN_lt _ _ _ _ (by decide)
theorem root_facts : ∀ k, k < 23 → rootN (k + 1) * rootN (k + 1) % 998244353 = rootN k ∧ rootN (k + 1) * irootN (k + 1) % 998244353 = 1 ∧ 2 ^ (k + 1) * invN (k + 1) % 998244353 = 1 := by decide +kernel
theorem root_one : rootN 0 = 1 ∧ rootN 1 = 998244352 ∧ irootN 0 = 1 ∧ invN 0 = 1 := by decide +kernel

theorem eqm_of_mod {a b : Nat} (h : a % 998244353 = b) : Eqm (a : Int) (b : Int) := by
  rw [← h]
  exact (Eqm.emod (a : Int)).symm

theorem root_neg (k : Nat) (hk : k + 1 ≤ 23) : Eqm ((rootN (k + 1) : Int) ^ 2 ^ k) (-1) := by
  induction k with
  | zero =>
    rw [Nat.pow_zero, Int.pow_succ, Int.pow_zero, Int.one_mul, root_one.2.1]
    exact ⟨1, by decide⟩
  | succ k ih =>
    have h := (root_facts (k + 1) (by omega)).1
    have h1 := eqm_of_mod h
    rw [Int.natCast_mul] at h1
    rw [Nat.pow_succ', Int.pow_mul, show ((rootN (k + 1 + 1) : Nat) : Int) ^ 2 = (rootN (k + 1 + 1) : Int) * (rootN (k + 1 + 1) : Int) by rw [Int.pow_succ, Int.pow_succ, Int.pow_zero, Int.one_mul]]
    exact (h1.pow _).trans (ih (by omega))
theorem root_inv (k : Nat) (hk : k + 1 ≤ 23) : Eqm ((rootN (k + 1) : Int) * (irootN (k + 1) : Int)) 1 := by
  have h := eqm_of_mod (root_facts k (by omega)).2.1
  rw [Int.natCast_mul] at h
  exact h
theorem two_inv (k : Nat) (hk : k + 1 ≤ 23) : Eqm (((2 ^ (k + 1) : Nat) : Int) * (invN (k + 1) : Int)) 1 := by
  have h := eqm_of_mod (root_facts k (by omega)).2.2
  rw [Int.natCast_mul] at h
  exact h
theorem iroot_neg (k : Nat) (hk : k + 1 ≤ 23) : Eqm ((irootN (k + 1) : Int) ^ 2 ^ k) (-1) := by
  have h1 := root_neg k hk
  have h2 := (root_inv k hk).pow (2 ^ k)
  rw [Int.mul_pow, Int.one_pow] at h2
  have h3 := (h1.mul (Eqm.refl ((irootN (k + 1) : Int) ^ 2 ^ k))).symm.trans h2
  rw [Int.neg_one_mul] at h3
  obtain ⟨q, hq⟩ := h3
  exact ⟨-q, by omega⟩

theorem root_ok (k : Nat) (hk : k ≤ 23) (w : World) : Calls Tagg.prog 116 #[.int .u8 k] w fun e w' => e = .returned (.int .u32 (rootN k : Nat)) ∧ w' = w := by
  have hp := powMod_ok 3 (998244352 / 2 ^ k) (by decide) (by have := Nat.div_le_self 998244352 (2 ^ k); omega)
  rw [show ((998244352 / 2 ^ k : Nat) : Int) = 998244352 / 2 ^ k by rw [Int.natCast_ediv, Int.natCast_pow]; rfl, show ((3 : Nat) : Int) = 3 from rfl] at hp
  have hk2 : (k : Int) ≤ 23 := by omega
  go_enter Tagg.func116, Tagg.ntmps116
  go_wp2_with fail
  with_reducible refine (hp _).mono ?_
  rintro e w' ⟨rfl, rfl⟩
  go_wp2
  go_ret
  exact ⟨rfl, rfl⟩

theorem invMod_ok (a : Nat) (ha : a < 998244353) (w : World) : Calls Tagg.prog 122 #[.int .u32 a] w fun e w' => e = .returned (.int .u32 (powN 32 1 a 998244351 : Nat)) ∧ w' = w := by
  have hp := powMod_ok a 998244351 ha (by decide)
  rw [show ((998244351 : Nat) : Int) = 998244351 from rfl] at hp
  go_enter Tagg.func122, Tagg.ntmps122
  go_wp2_with fail
  with_reducible refine (hp _).mono ?_
  rintro e w' ⟨rfl, rfl⟩
  go_wp2
  go_ret
  exact ⟨rfl, rfl⟩

theorem level_ok (k N : Nat) (hk : k ≤ 11) (hN : N = 2 ^ k) (w : World) : Calls Tagg.prog 123 #[.int .i64 N] w fun e w' => e = .returned (.int .i64 k) ∧ w' = w := by
  go_enter Tagg.func123, Tagg.ntmps123
  go_wp2_with fail
  go_loopw [3] (fun i wr => ∃ q : Nat, q ≤ k ∧ i = .int .i64 q ∧ wr = w) (fun i _ => k + 1 - (intOf i).toNat)
  case atStart => exact ⟨0, by omega, rfl, rfl⟩
  case round =>
    obtain ⟨q, hq, rfl, rfl⟩ := hrel
    have hle : 2 ^ q ≤ 2 ^ 11 := Nat.pow_le_pow_right (by decide) (by omega)
    have h2q : ((2 ^ q : Nat) : Int) = (2 : Int) ^ q := Int.natCast_pow 2 q
    obtain ⟨Q, hQ⟩ : ∃ Q : Int, (2 : Int) ^ q = Q := ⟨_, rfl⟩
    rw [hQ] at h2q
    obtain ⟨Z, hZ⟩ : ∃ Z, Z = 2 ^ q := ⟨_, rfl⟩
    rw [← hZ] at h2q hle
    have hQ0 : 0 ≤ Q := by omega
    have hQ1 : Q ≤ 2048 := by omega
    have hq11 : (q : Int) ≤ 11 := by omega
    have hw : IntKind.i64.wrap Q = Q := IntWalk.i64_in _ ⟨by omega, by omega⟩
    by_cases e : q = k
    · subst e
      have hNQ : (N : Int) = Q := by rw [hN, ← hZ, h2q]
      clear h2q hN hle hZ
      go_wp2
      go_ret
      exact ⟨rfl, rfl⟩
    · have hlt : 2 ^ q < 2 ^ k := Nat.pow_lt_pow_right (by decide) (by omega)
      have hne : ¬ (N : Int) = Q := by rw [← hZ, ← hN] at hlt; omega
      clear h2q hN hle hlt hZ
      go_wp2
      go_roundw
      case rel => exact ⟨q + 1, by omega, by go_num, by trivial⟩
      case measure => simp [intOf]; omega

theorem isBelow_ok (a : Option Addr) (n cap : Nat) (x : Nat → Int) (w : World) (hx : Sl w a n fun i => .int .u32 (x i)) (hb : ∀ i, i < n → 0 ≤ x i ∧ x i < 998244353) (hn : n ≤ 140737488355328) :
    Calls Tagg.prog 124 #[.slice a n cap] w fun e w' => e = .returned (.bool true) ∧ w' = w := by
  go_enter Tagg.func124, Tagg.ntmps124
  go_wp2_with fail
  go_loopw [3] (fun i wr => ∃ q : Nat, q ≤ n ∧ i = .int .i64 q ∧ wr = w) (fun i _ => n - (intOf i).toNat)
  case atStart => exact ⟨0, by omega, rfl, rfl⟩
  case round =>
    obtain ⟨q, hq, rfl, rfl⟩ := hrel
    by_cases e : q < n
    · obtain ⟨b, off, rfl, cc⟩ := hx q e
      obtain ⟨h0, h1⟩ := hb q e
      have hi : (q : Int) < n := by omega
      clear hx hb
      go_wp2
      go_roundw
      case rel => exact ⟨q + 1, by omega, by go_num, by trivial⟩
      case measure => simp [intOf]; omega
    · have e' : q = n := by omega
      subst e'
      go_wp2
      go_ret
      exact ⟨rfl, rfl⟩
end Go.Proofs.Ygctag
