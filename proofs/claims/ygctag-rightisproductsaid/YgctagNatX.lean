import Derived.Test.YgctagD8
import Derived.Test.YgctagBlkW
namespace Go.Proofs.Ygctag
open Go.RowKit
attribute [local go_sem] eql30 neq30

set_option maxHeartbeats 400000 in
theorem strip66 (a : Option Addr) (n c : Nat) (z : Nat → Int) (w : World) (hn : n ≤ c) (hc : c ≤ 9223372036854775807)
    (h : Sl w a n fun i => .int .u8 (z i)) :
    Calls Tagg.prog 66 #[.slice a n c] w fun e w' => e = .returned (cutV a (trimLen z n)) ∧ w' = w := by
  go_enter Tagg.func66, Tagg.ntmps66
  go_wp2
  go_loop [3] (fun t => ∃ k : Nat, k ≤ n ∧ t = .int .i64 k ∧ trimLen z k = trimLen z n) (fun t => (intOf t).toNat)
  case atStart => exact ⟨n, by omega, rfl, rfl⟩
  case round =>
    obtain ⟨k, hk, rfl, he⟩ := hrel
    have H : Hid (trimLen z k = trimLen z n) := he
    clear he
    by_cases hk0 : k = 0
    · subst hk0
      go_wp2
      go_ret
      exact ⟨ret_eq (by rw [← H.out]; rfl), rfl⟩
    · obtain ⟨b, off, rfl, hcell⟩ := h (k - 1) (by omega)
      obtain ⟨j, rfl⟩ : ∃ j, k = j + 1 := ⟨k - 1, by omega⟩
      simp only [Nat.add_sub_cancel] at hcell
      by_cases hz : z j = 0
      · have hzb : (z j == 0) = true := by simp [hz]
        have H2 : Hid (trimLen z j = trimLen z n) := (trimLen_zero hz).symm.trans H.out
        clear hz
        go_wp2
        go_round
        case rel => exact ⟨j, by omega, by go_num, H2.out⟩
        case measure => simp [intOf]
      · have hzb : (z j == 0) = false := by simp [hz]
        have H2 : Hid (trimLen z n = j + 1) := by rw [← H.out]; exact trimLen_hit hz
        have hj0 : ((j : Int) + 1 == 0) = false := by simp; omega
        clear hz
        go_wp2
        go_ret
        exact ⟨ret_eq (by rw [H2.out]; rfl), rfl⟩

set_option maxHeartbeats 400000 in
theorem strip89 (a : Option Addr) (n c : Nat) (z : Nat → Int) (w : World) (hn : n ≤ c) (hc : c ≤ 9223372036854775807)
    (h : Sl w a n fun i => .int .u8 (z i)) :
    Calls Tagg.prog 89 #[.slice a n c] w fun e w' => e = .returned (cutV a (trimLen z n)) ∧ w' = w := by
  go_enter Tagg.func89, Tagg.ntmps89
  go_wp2
  go_loop [3] (fun t => ∃ k : Nat, k ≤ n ∧ t = .int .i64 k ∧ trimLen z k = trimLen z n) (fun t => (intOf t).toNat)
  case atStart => exact ⟨n, by omega, rfl, rfl⟩
  case round =>
    obtain ⟨k, hk, rfl, he⟩ := hrel
    have H : Hid (trimLen z k = trimLen z n) := he
    clear he
    by_cases hk0 : k = 0
    · subst hk0
      go_wp2
      go_ret
      exact ⟨ret_eq (by rw [← H.out]; rfl), rfl⟩
    · obtain ⟨b, off, rfl, hcell⟩ := h (k - 1) (by omega)
      obtain ⟨j, rfl⟩ : ∃ j, k = j + 1 := ⟨k - 1, by omega⟩
      simp only [Nat.add_sub_cancel] at hcell
      by_cases hz : z j = 0
      · have hzb : (z j == 0) = true := by simp [hz]
        have H2 : Hid (trimLen z j = trimLen z n) := (trimLen_zero hz).symm.trans H.out
        clear hz
        go_wp2
        go_round
        case rel => exact ⟨j, by omega, by go_num, H2.out⟩
        case measure => simp [intOf]
      · have hzb : (z j == 0) = false := by simp [hz]
        have H2 : Hid (trimLen z n = j + 1) := by rw [← H.out]; exact trimLen_hit hz
        have hj0 : ((j : Int) + 1 == 0) = false := by simp; omega
        clear hz
        go_wp2
        go_ret
        exact ⟨ret_eq (by rw [H2.out]; rfl), rfl⟩


/-- A natural in memory of its own, from block B on. -/
def NatOwn (w : World) (B : Nat) (v : Value) (V : Int) : Prop := ∃ g n N : Nat, B ≤ g ∧ v = cutV (some ⟨g, 0, none⟩) n ∧ LenIs V n ∧ (0 < n → w.rowIs g 5 N (fun i => .int .u8 (dg8 V i))) ∧ n ≤ N
/-- A natural that can be read. -/
def NatAt (w : World) (v : Value) (V : Int) : Prop := ∃ (a : Option Addr) (n : Nat), v = .slice a n n ∧ LenIs V n ∧ (a = none ↔ n = 0) ∧ Sl w a n (fun i => .int .u8 (dg8 V i))

theorem row_up8 {w : World} {b n q : Nat} {t : TypeId} {F G : Nat → Int} (h : w.rowIs b t n (fun j => .int .u8 (if j < q then F j else G j))) :
    (w.setCell ⟨b, q, none⟩ (.int .u8 (F q))).rowIs b t n (fun j => .int .u8 (if j < q + 1 then F j else G j)) := by
  refine (h.set q _).congr fun i hi => ?_
  by_cases h1 : i = q
  · subst h1; rw [if_pos rfl, if_pos (by omega)]
  · rw [if_neg h1]
    by_cases h2 : i < q
    · rw [if_pos h2, if_pos (by omega)]
    · rw [if_neg h2, if_neg (by omega)]

/-- The number of the first i entries, the entries from len on taken for 0. -/
def cyN (c : Nat → Int) (len : Nat) : Nat → Int
  | 0 => 0
  | n + 1 => cyN c len n + (if n < len then c n else 0) * P8 n
theorem cyN_step (c : Nat → Int) (len i : Nat) : cyN c len (i + 1) / P8 i = cyN c len i / P8 i + (if i < len then c i else 0) := by
  show (cyN c len i + (if i < len then c i else 0) * P8 i) / P8 i = _
  rw [Int.add_mul_ediv_right _ _ (Int.ne_of_gt (P8_pos i))]
theorem cyN_val (c : Nat → Int) (len : Nat) {i : Nat} (h : i ≤ len) : cyN c len i = val c i := by
  induction i with
  | zero => rfl
  | succ i ih => rw [val_succ]; show cyN c len i + (if i < len then c i else 0) * P8 i = _; rw [if_pos (by omega), ih (by omega)]
theorem cyN_after (c : Nat → Int) (len : Nat) {i : Nat} (h : len ≤ i) : cyN c len i = val c len := by
  induction i with
  | zero => have : len = 0 := by omega
            subst this; rfl
  | succ i ih =>
    by_cases e : len = i + 1
    · rw [← e]; exact cyN_val c len (Nat.le_refl _)
    · show cyN c len i + (if i < len then c i else 0) * P8 i = _
      rw [if_neg (by omega), Int.zero_mul, Int.add_zero, ih (by omega)]
theorem cyN_bound (c : Nat → Int) (len : Nat) (hc : ∀ i, i < len → 0 ≤ c i ∧ c i < 36028797018963968) (i : Nat) : 0 ≤ cyN c len i / P8 i ∧ cyN c len i / P8 i < 36028797018963968 := by
  induction i with
  | zero => show 0 ≤ (0 : Int) / P8 0 ∧ (0 : Int) / P8 0 < _; rw [P8_zero]; decide
  | succ i ih =>
    rw [div8_succ, cyN_step]
    by_cases h : i < len
    · rw [if_pos h]; have := hc i h; omega
    · rw [if_neg h]; omega
theorem cyN_digit (c : Nat → Int) (len i m : Nat) (h : i + 1 ≤ m) : dg8 (cyN c len m) i = dg8 (cyN c len (i + 1)) i := by
  induction m with
  | zero => omega
  | succ m ih =>
    by_cases e : m = i
    · subst e; rfl
    · rw [← ih (by omega)]
      show (cyN c len m + (if m < len then c m else 0) * P8 m) / P8 i % 256 = _
      have ep : P8 m = 256 * P8 (m - i - 1) * P8 i := by
        unfold P8
        rw [show m = (m - i - 1) + 1 + i by omega, Nat.pow_add, Nat.pow_succ, Int.natCast_mul, Int.natCast_mul, show m - i - 1 + 1 + i - i - 1 = m - i - 1 by omega, Int.mul_comm ((256 ^ (m - i - 1) : Nat) : Int)]
        rfl
      rw [ep, ← Int.mul_assoc, Int.add_mul_ediv_right _ _ (Int.ne_of_gt (P8_pos i)), ← Int.mul_assoc, Int.mul_comm _ 256, Int.mul_assoc 256, Int.add_mul_emod_self_left]
      rfl
theorem cy_digit (c : Nat → Int) (len q : Nat) : (cyN c len q / P8 q + (if q < len then c q else 0)) % 256 = dg8 (val c len) q := by
  rw [← cyN_step]
  by_cases h : q + 1 ≤ len
  · rw [← cyN_val c len (Nat.le_refl len)]; exact (cyN_digit c len q len h).symm
  · rw [cyN_after c len (by omega : len ≤ q + 1)]; rfl
theorem cy_over (c : Nat → Int) (len q : Nat) : (cyN c len q / P8 q + (if q < len then c q else 0)) / 256 = cyN c len (q + 1) / P8 (q + 1) := by
  rw [← cyN_step, div8_succ]
theorem cy_room (c : Nat → Int) (len : Nat) (hc : ∀ i, i < len → 0 ≤ c i ∧ c i < 36028797018963968) : 0 ≤ val c len ∧ val c len < P8 (len + 8) := by
  have h := cyN_bound c len hc len
  rw [cyN_val c len (Nat.le_refl _)] at h
  have hp := P8_pos len
  have e := Int.emod_add_mul_ediv (val c len) (P8 len)
  have e1 := Int.emod_nonneg (val c len) (Int.ne_of_gt hp)
  have e2 := Int.emod_lt_of_pos (val c len) hp
  have l1 : P8 len * (val c len / P8 len) ≤ P8 len * 36028797018963967 := Int.mul_le_mul_of_nonneg_left (by omega) (Int.le_of_lt hp)
  have l0 : 0 ≤ P8 len * (val c len / P8 len) := Int.mul_nonneg (Int.le_of_lt hp) h.1
  have ep : P8 (len + 8) = P8 len * 18446744073709551616 := by
    unfold P8; rw [Nat.pow_add, Int.natCast_mul]; rfl
  rw [ep]
  omega
theorem dg8_val {V : Int} {n : Nat} (h0 : 0 ≤ V) (h : V < P8 n) : val (dg8 V) n = V := by
  have key : ∀ n, val (dg8 V) n = V % P8 n := by
    intro n
    induction n with
    | zero => show (0 : Int) = V % P8 0; rw [P8_zero]; omega
    | succ n ih =>
      rw [val_succ, ih, P8_succ]
      unfold dg8
      have h1 := Int.emod_add_mul_ediv V (P8 n)
      have h2 := Int.emod_add_mul_ediv (V / P8 n) 256
      have hp := P8_pos n
      generalize hq : V / P8 n = q at *
      generalize hr : V % P8 n = r at *
      have r0 : 0 ≤ r := by rw [← hr]; exact Int.emod_nonneg _ (Int.ne_of_gt hp)
      have r1 : r < P8 n := by rw [← hr]; exact Int.emod_lt_of_pos _ hp
      have e : V = (r + q % 256 * P8 n) + P8 n * 256 * (q / 256) := by
        rw [Int.mul_assoc, Int.mul_comm (q % 256), Int.add_assoc, ← Int.mul_add, h2]
        exact h1.symm
      have b : r + q % 256 * P8 n < P8 n * 256 := by
        have : q % 256 * P8 n ≤ 255 * P8 n := Int.mul_le_mul_of_nonneg_right (by omega) (Int.le_of_lt hp)
        omega
      have b0 : 0 ≤ r + q % 256 * P8 n := by
        have : 0 ≤ q % 256 * P8 n := Int.mul_nonneg (by omega) (Int.le_of_lt hp)
        omega
      conv => rhs; rw [e]
      rw [Int.add_mul_emod_self_left, Int.emod_eq_of_lt b0 b]
  rw [key, Int.emod_eq_of_lt h0 h]
/-- What is cut out of a row that holds the digits of V. -/
theorem natOwn_cut {w : World} {B g N : Nat} {V : Int} (hB : B ≤ g) (h0 : 0 ≤ V) (h : V < P8 N) (hr : w.rowIs g 5 N (fun i => .int .u8 (dg8 V i))) : NatOwn w B (cutV (some ⟨g, 0, none⟩) (trimLen (dg8 V) N)) V := by
  have hb : Bytes (dg8 V) N := fun i _ => by have := dg8_bound V i; omega
  have hl := lenIs_trim hb
  rw [dg8_val h0 h] at hl
  exact ⟨g, _, N, hB, rfl, hl, fun _ => hr, trimLen_le _ _⟩

theorem u8w (x : Int) : IntKind.u8.wrap x = x % 256 := rfl

set_option maxRecDepth 100000 in
set_option maxHeartbeats 2000000 in
theorem carry_ok (cb len cap : Nat) (c : Nat → Int) (w : World) (hl : len ≤ 2097152) (hr : w.rowIs cb 2 len (fun i => .int .i64 (c i))) (hc : ∀ i, i < len → 0 ≤ c i ∧ c i < 36028797018963968) :
    Calls Tagg.prog 95 #[.slice (some ⟨cb, 0, none⟩) len cap] w fun e w' => ∃ v, e = .returned (.tuple #[v, .bool true]) ∧ NatOwn w' w.heap.size v (val c len) ∧ Below w.heap.size w w' := by
  have hmk := run_make_row' (P := Tagg.prog) 30 5 (.int .u8 0) 1 Tagg.underlying30 Tagg.info5 rfl .i64 .i64 (len + 8) (by omega) (by omega)
  rw [show ((len + 8 : Nat) : Int) = (len : Int) + 8 by simp] at hmk
  go_enter Tagg.func95, Tagg.ntmps95
  go_wp2_with fail
  go_loopw [4] (fun vi wr => ∃ q : Nat, q ≤ len ∧ vi = .int .i64 (q : Int) ∧ wr = w) (fun vi _ => len - (intOf vi).toNat)
  case atStart => exact ⟨0, by omega, rfl, rfl⟩
  case round =>
    obtain ⟨q, hq, rfl, rfl⟩ := hrel
    by_cases hql : q < len
    · have cc := hr.cell hql
      obtain ⟨c0, c1⟩ := hc q hql
      have i1 : (q : Int) < len := by omega
      clear hr hc hmk
      go_wp2
      go_roundw
      case rel => exact ⟨q + 1, by omega, by go_num, by trivial⟩
      case measure => simp [intOf]; omega
    · have e : q = len := by omega
      subst e
      go_wp2_with fail
      generalize eX : wr.alloc _ = X
      have hbX : Below wr.heap.size wr X := by rw [← eX]; exact (Below.refl _ _).alloc (Nat.le_refl _) _
      have hrX : X.rowIs wr.heap.size 5 (q + 8) (fun _ => .int .u8 0) := by rw [← eX]; exact made_at rfl _ _ _
      clear eX hmk
      have hgX : wr.grownBy X (some wr.heap.size) := grown_of_below hbX
      obtain ⟨g, hg⟩ : ∃ g, g = wr.heap.size := ⟨_, rfl⟩
      have hcl := hr.lt
      rw [← hg] at hrX hgX hcl ⊢
      have hgH : Hid (g = wr.heap.size) := hg
      obtain ⟨w0, hw0⟩ : ∃ w0, w0 = wr := ⟨_, rfl⟩
      rw [← hw0] at hgX hr
      have hwH : Hid (w0 = wr) := hw0
      have hroom := cy_room c q hc
      clear hg hw0
      go_loopw [6, 7] (fun ov i w5 => ∃ t : Nat, t ≤ q + 8 ∧ i = .int .i64 (t : Int) ∧ ov = .int .i64 (cyN c q t / P8 t) ∧ w0.grownBy w5 (some g) ∧ w5.rowIs g 5 (q + 8) (fun j => .int .u8 (if j < t then dg8 (val c q) j else 0))) (fun _ i _ => q + 8 - (intOf i).toNat)
      case atStart => exact ⟨0, by omega, rfl, by show _ = Value.int .i64 ((0 : Int) / P8 0); rw [P8_zero]; rfl, hgX, hrX.congr fun j _ => by rw [if_neg (by omega)]⟩
      case round =>
        clear hrX hgX hbX
        obtain ⟨t, ht, rfl, rfl, hgr, hrw⟩ := hrel
        have dgt := cy_digit c q t
        have ovr := cy_over c q t
        have hbd := cyN_bound c q hc t
        by_cases htl : t < q + 8
        · have cR := hrw.cell (i := t) (by omega)
          have cF := hrw.frozen t
          have hup := row_up8 (F := dg8 (val c q)) (G := fun _ => 0) hrw
          have i2 : (t : Int) < (q : Int) + 8 := by omega
          have hnext : Hid (∀ W', W' = wr.setCell ⟨g, t, none⟩ (.int .u8 (dg8 (val c q) t)) → w0.grownBy W' (some g) ∧ W'.rowIs g 5 (q + 8) (fun j => .int .u8 (if j < t + 1 then dg8 (val c q) j else 0))) := by
            show ∀ W', _ → _
            rintro W' rfl
            exact ⟨grown_set hgr 0 _ _, hup⟩
          by_cases htq : t < q
          · rw [if_pos htq] at dgt ovr
            have cc : wr.cell? ⟨cb, t, none⟩ = some (.int .i64 (c t)) := grown_cell2 hgr (by omega) (hr.cell htq)
            obtain ⟨c0, c1⟩ := hc t htq
            have i1 : (t : Int) < q := by omega
            have dgt' : IntKind.u8.wrap (cyN c q t / P8 t + c t) = dg8 (val c q) t := dgt
            obtain ⟨OV, hOV⟩ : ∃ OV, OV = cyN c q (t + 1) / P8 (t + 1) := ⟨_, rfl⟩
            rw [← hOV] at ovr
            have hOVH : Hid (OV = cyN c q (t + 1) / P8 (t + 1)) := hOV
            clear hr hc hrw hgr hup hOV hroom dgt
            generalize cyN c q t / P8 t = OL at *
            go_wp2
            exact ⟨⟨t + 1, by omega, by go_num, by rw [hOVH.out], hnext.out _ rfl⟩, by simp [intOf]; omega⟩
          · rw [if_neg htq, Int.add_zero] at dgt ovr
            have i1 : (q : Int) ≤ t := by omega
            have dgt' : IntKind.u8.wrap (cyN c q t / P8 t) = dg8 (val c q) t := dgt
            obtain ⟨OV, hOV⟩ : ∃ OV, OV = cyN c q (t + 1) / P8 (t + 1) := ⟨_, rfl⟩
            rw [← hOV] at ovr
            have hOVH : Hid (OV = cyN c q (t + 1) / P8 (t + 1)) := hOV
            clear hr hc hrw hgr hup hOV hroom dgt
            generalize cyN c q t / P8 t = OL at *
            go_wp2
            exact ⟨⟨t + 1, by omega, by go_num, by rw [hOVH.out], hnext.out _ rfl⟩, by simp [intOf]; omega⟩
        · have e : t = q + 8 := by omega
          subst e
          have hrow := hrw.congr (g := fun j => .int .u8 (dg8 (val c q) j)) (fun j hj => by rw [if_pos hj])
          have hbel : Below w0.heap.size w0 wr := ⟨hgr.os, hgr.tape, hgr.output, hgr.size, fun j hj => hgr.block j hj (by have := hgH.out; have := hwH.out; subst this; simp; omega)⟩
          have hT := fun w hx => trim_any (some ⟨g, 0, none⟩) (q + 8) (q + 8) (dg8 (val c q)) w (Nat.le_refl _) (by omega) hx
          have hown := natOwn_cut (B := w0.heap.size) (by have := hgH.out; have := hwH.out; subst this; omega) hroom.1 hroom.2 hrow
          clear hrw dgt ovr hbd hr hc hroom hgr
          generalize cyN c q (q + 8) / P8 (q + 8) = OV at *
          go_wp2_with fail
          with_reducible refine (hT _ (Sl.of_row hrow)).mono ?_
          rintro e w6 ⟨rfl, rfl⟩
          clear hT hrow
          go_wp2
          have hwe := hwH.out
          rw [hwe] at hown hbel
          exact bodyPost_ret (v := .tuple #[cutV (some ⟨g, 0, none⟩) (trimLen (dg8 (val c q)) (q + 8)), .bool true]) (by simp [results, Tagg.results95, go_sem]) rfl ⟨_, rfl, hown, hbel⟩
end Go.Proofs.Ygctag
