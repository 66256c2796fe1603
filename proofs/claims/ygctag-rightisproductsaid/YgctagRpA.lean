import Derived.Test.YgctagRpP
import Derived.Test.YgctagUbW
import Derived.Test.YgctagLawA
import Derived.Test.YgctagNatAdd
import Derived.Test.YgctagCwM
namespace Go.Proofs.Ygctag
open Go.RowKit

theorem ofInt16 (a : Nat) (h : a < 65536) : (BitVec.ofInt 16 (a : Int)).toNat = a := by
  simp; omega
theorem u16_or_nat (a b : Nat) (ha : a < 65536) (hb : b < 65536) : bits .or .u16 (a : Int) (b : Int) = ((a ||| b : Nat) : Int) := by
  have hx : a ||| b < 2 ^ 16 := Nat.or_lt_two_pow (by omega) (by omega)
  show IntKind.u16.wrap ((BitVec.ofInt 16 (a : Int) ||| BitVec.ofInt 16 (b : Int)).toNat : Int) = _
  rw [BitVec.toNat_or, ofInt16 a ha, ofInt16 b hb]
  exact IntWalk.u16_in _ ⟨by omega, by omega⟩
theorem u16_or0 (b : Int) (h0 : 0 ≤ b) (h1 : b < 65536) : bits .or .u16 0 b = b := by
  obtain ⟨n, rfl⟩ : ∃ n : Nat, b = n := ⟨b.toNat, by omega⟩
  have := u16_or_nat 0 n (by omega) (by omega)
  rw [Nat.zero_or] at this
  exact this
theorem u16_or8 (a b : Int) (h0 : 0 ≤ a) (h1 : a < 256) (g0 : 0 ≤ b) (g1 : b < 256) : bits .or .u16 a (b * 256) = a + 256 * b := by
  obtain ⟨n, rfl⟩ : ∃ n : Nat, a = n := ⟨a.toNat, by omega⟩
  obtain ⟨m, rfl⟩ : ∃ m : Nat, b = m := ⟨b.toNat, by omega⟩
  have h := u16_or_nat n (m * 256) (by omega) (by omega)
  rw [show ((m * 256 : Nat) : Int) = (m : Int) * 256 by simp] at h
  rw [h]
  have e : 2 ^ 8 * m + n = 2 ^ 8 * m ||| n := Nat.two_pow_add_eq_or_of_lt (by omega) m
  rw [Nat.or_comm, Nat.mul_comm m 256, show 256 = 2 ^ 8 by decide, ← e]
  omega

def wordAt (V : Int) (q i : Nat) : Int := if 2 * i + 1 < q then dg16 V i else if 2 * i < q then dg8 V (2 * i) else 0
theorem wordAt_even (V : Int) (r i : Nat) : wordAt V (2 * r + 1) i = if i = r then dg8 V (2 * r) else wordAt V (2 * r) i := by
  unfold wordAt
  by_cases e : i = r
  · subst e; rw [if_pos rfl, if_neg (by omega), if_pos (by omega)]
  · rw [if_neg e]
    by_cases h : i < r
    · rw [if_pos (by omega), if_pos (by omega)]
    · rw [if_neg (by omega), if_neg (by omega), if_neg (by omega), if_neg (by omega)]
theorem wordAt_odd (V : Int) (r i : Nat) : wordAt V (2 * r + 1 + 1) i = if i = r then dg8 V (2 * r) + 256 * dg8 V (2 * r + 1) else wordAt V (2 * r + 1) i := by
  unfold wordAt
  by_cases e : i = r
  · subst e; rw [if_pos rfl, if_pos (by omega), dg16_bytes]
  · rw [if_neg e]
    by_cases h : i < r
    · rw [if_pos (by omega), if_pos (by omega)]
    · rw [if_neg (by omega), if_neg (by omega), if_neg (by omega), if_neg (by omega)]
theorem wordAt_all (V : Int) (n i : Nat) (h0 : 0 ≤ V) (h : V < P8 n) (hi : i < (n + 1) / 2) : wordAt V n i = dg16 V i := by
  unfold wordAt
  by_cases h1 : 2 * i + 1 < n
  · rw [if_pos h1]
  · rw [if_neg h1, if_pos (by omega), dg16_bytes, dg8_high h0 h (show n ≤ 2 * i + 1 by omega)]; omega

set_option maxRecDepth 100000 in
set_option maxHeartbeats 2000000 in
theorem words21 (a : Option Addr) (n cap : Nat) (V : Int) (w : World) (hn : n ≤ 2048) (h0 : 0 ≤ V) (hV : V < P8 n) (ha : Sl w a n fun i => .int .u8 (dg8 V i)) :
    Calls Tagg.prog 21 #[.slice a n cap] w fun e w' => ∃ g L, L = (n + 1) / 2 ∧ e = .returned (.slice (some ⟨g, 0, none⟩) L L) ∧ w.heap.size ≤ g ∧ w'.rowIs g 49 L (fun i => .int .u16 (dg16 V i)) ∧ Below w.heap.size w w' := by
  obtain ⟨L, hL⟩ : ∃ L, L = (n + 1) / 2 := ⟨_, rfl⟩
  have hall : Hid (∀ i, i < L → wordAt V n i = dg16 V i) := fun i hi => wordAt_all V n i h0 hV (by omega)
  have hmk := run_make_row' (P := Tagg.prog) 34 49 (.int .u16 0) 2 Tagg.underlying34 Tagg.info49 rfl .i64 .i64 L (by omega) (by omega)
  have i1 : ((n : Int) + 1) / 2 = (L : Int) := by omega
  have i2 : Int.tdiv ((n : Int) + 1) 2 = (L : Int) := by rw [Int.tdiv_eq_ediv_of_nonneg (by omega)]; omega
  have v1 : IntKind.i64.wrap ((n : Int) + 1) = (n : Int) + 1 := IntWalk.i64_in _ ⟨by omega, by omega⟩
  have v2 : IntKind.i64.wrap (L : Int) = (L : Int) := IntWalk.i64_in _ ⟨by omega, by omega⟩
  have hL2 : 2 * L ≤ n + 1 ∧ n ≤ 2 * L := by omega
  have hLH : Hid (L = (n + 1) / 2) := hL
  clear hL hV
  go_enter Tagg.func21, Tagg.ntmps21
  go_wp2_with fail
  generalize eX : w.alloc _ = X
  have hbX : Below w.heap.size w X := by rw [← eX]; exact (Below.refl _ _).alloc (Nat.le_refl _) _
  have hrX : X.rowIs w.heap.size 49 L (fun _ => .int .u16 0) := by rw [← eX]; exact made_at rfl _ _ _
  clear eX hmk
  have hgX : X.grownBy X (some w.heap.size) := ⟨rfl, rfl, rfl, Nat.le_refl _, fun _ _ _ => rfl⟩
  obtain ⟨g, hg⟩ : ∃ g, g = w.heap.size := ⟨_, rfl⟩
  have haX := ha.below hbX
  have hlt : ∀ i, i < n → ∀ b o, a = some ⟨b, o, none⟩ → b < g ∧ b < X.heap.size := fun i hi b o e => by
    obtain ⟨b', o', e', hcc⟩ := ha i hi
    rw [e] at e'
    injection e' with e'
    injection e' with e1 e2
    subst e1
    have h1 : b < w.heap.size := cell_lt hcc
    have h2 := hbX.size
    exact ⟨by omega, by omega⟩
  rw [← hg] at hrX hgX ⊢
  have hgH : Hid (w.heap.size ≤ g) := by show w.heap.size ≤ g; omega
  clear hg ha
  go_loopw [4] (fun vi wr => ∃ q : Nat, q ≤ n ∧ vi = .int .i64 (q : Int) ∧ X.grownBy wr (some g) ∧ wr.rowIs g 49 L (fun i => .int .u16 (wordAt V q i))) (fun vi _ => n - (intOf vi).toNat)
  case atStart => exact ⟨0, by omega, rfl, hgX, hrX.congr fun i _ => by unfold wordAt; rw [if_neg (by omega), if_neg (by omega)]⟩
  case round =>
    clear hrX hgX
    obtain ⟨q, hq, rfl, hgr, hrw⟩ := hrel
    by_cases hqn : q < n
    · obtain ⟨b, o, rfl, hc⟩ := haX q hqn
      obtain ⟨l1, l2⟩ := hlt q hqn b o rfl
      have cA : wr.cell? ⟨b, o + q, none⟩ = some (.int .u8 (dg8 V q)) := (World.cell?_of_block (hgr.block b l2 (by simp; omega))).trans hc
      have hd := dg8_bound V q
      have j1 : (q : Int) < n := by omega
      obtain ⟨r, hr⟩ : ∃ r, r = q / 2 := ⟨_, rfl⟩
      have j2 : (q : Int) / 2 = (r : Int) := by omega
      have j3 : Int.tdiv (q : Int) 2 = (r : Int) := by rw [Int.tdiv_eq_ediv_of_nonneg (by omega)]; omega
      have j4 : (r : Int) < L := by omega
      have vr : IntKind.i64.wrap (r : Int) = (r : Int) := IntWalk.i64_in _ ⟨by omega, by omega⟩
      have cW := hrw.cell (i := r) (by omega)
      have fW := hrw.frozen r
      by_cases hpar : q % 2 = 0
      · have eq : q = 2 * r := by omega
        have j5 : (q : Int) % 2 = 0 := by omega
        have j6 : Int.tmod (q : Int) 2 = 0 := by rw [Int.tmod_eq_emod_of_nonneg (by omega)]; omega
        have ho := u16_or0 (dg8 V q) (by omega) (by omega)
        have hw0 : wordAt V q r = 0 := by unfold wordAt; rw [if_neg (by omega), if_neg (by omega)]
        rw [hw0] at cW
        have vd : IntKind.u16.wrap (dg8 V q) = dg8 V q := IntWalk.u16_in _ ⟨by omega, by omega⟩
        have hup : (wr.setCell ⟨g, r, none⟩ (.int .u16 (dg8 V q))).rowIs g 49 L (fun i => .int .u16 (wordAt V (q + 1) i)) := (hrw.set r _).congr fun i _ => by
          rw [eq, wordAt_even]
          by_cases h : i = r
          · rw [if_pos h, if_pos h]
          · rw [if_neg h, if_neg h]
        have hnext : Hid (∀ W', W' = (wr.setCell ⟨g, r, none⟩ (.int .u16 (dg8 V q))).drew → X.grownBy W' (some g) ∧ W'.rowIs g 49 L (fun i => .int .u16 (wordAt V (q + 1) i))) := by
          show ∀ W', _ → _
          rintro W' rfl
          exact ⟨grown_drew (grown_set hgr 0 _ _), hup⟩
        clear hrw hgr hup haX hlt hc hbX hr eq hpar hw0
        generalize dg8 V q = dq at *
        go_wp2_with fail
        go_region
        all_goals go_wp2
        all_goals exact ⟨⟨q + 1, by omega, by go_num, hnext.out _ rfl⟩, by simp [intOf]; omega⟩
      · have eq : q = 2 * r + 1 := by omega
        have j5 : (q : Int) % 2 = 1 := by omega
        have j6 : Int.tmod (q : Int) 2 = 1 := by rw [Int.tmod_eq_emod_of_nonneg (by omega)]; omega
        have hd2 := dg8_bound V (2 * r)
        have ho := u16_or8 (dg8 V (2 * r)) (dg8 V q) (by omega) (by omega) (by omega) (by omega)
        have hw0 : wordAt V q r = dg8 V (2 * r) := by unfold wordAt; rw [if_neg (by omega), if_pos (by omega)]
        rw [hw0] at cW
        have vd : IntKind.u16.wrap (dg8 V q) = dg8 V q := IntWalk.u16_in _ ⟨by omega, by omega⟩
        have vd2 : IntKind.u16.wrap (dg8 V q * 256) = dg8 V q * 256 := IntWalk.u16_in _ ⟨by omega, by omega⟩
        have hup : (wr.setCell ⟨g, r, none⟩ (.int .u16 (dg8 V (2 * r) + 256 * dg8 V q))).rowIs g 49 L (fun i => .int .u16 (wordAt V (q + 1) i)) := (hrw.set r _).congr fun i _ => by
          rw [eq, wordAt_odd]
          by_cases h : i = r
          · rw [if_pos h, if_pos h]
          · rw [if_neg h, if_neg h]
        have hnext : Hid (∀ W', W' = (wr.setCell ⟨g, r, none⟩ (.int .u16 (dg8 V (2 * r) + 256 * dg8 V q))).drew → X.grownBy W' (some g) ∧ W'.rowIs g 49 L (fun i => .int .u16 (wordAt V (q + 1) i))) := by
          show ∀ W', _ → _
          rintro W' rfl
          exact ⟨grown_drew (grown_set hgr 0 _ _), hup⟩
        clear hrw hgr hup haX hlt hc hbX hr eq hpar hw0
        generalize dg8 V q = dq at *
        generalize dg8 V (2 * r) = dr at *
        generalize dr + 256 * dq = sum at *
        go_wp2_with fail
        go_region
        all_goals go_wp2
        all_goals exact ⟨⟨q + 1, by omega, by go_num, hnext.out _ rfl⟩, by simp [intOf]; omega⟩
    · have e : q = n := by omega
      subst e
      have hrow : wr.rowIs g 49 L (fun i => .int .u16 (dg16 V i)) := hrw.congr fun i hi => by rw [hall.out i hi]
      have hbel := below_grown hbX hgr hgH.out
      clear hrw haX hlt
      go_wp2
      go_ret
      exact ⟨g, L, hLH.out, rfl, hgH.out, hrow, hbel⟩
end Go.Proofs.Ygctag
