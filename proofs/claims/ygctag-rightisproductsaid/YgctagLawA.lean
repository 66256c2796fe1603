import Derived.Test.YgctagMulL
namespace Go.Proofs.Ygctag
open Go.RowKit
theorem eql29 (w : World) (a : Option Addr) (n c : Nat) : (binOp .eql 29 (.slice a n c) (.slice none 0 0)).run Tagg.prog w = .ok (.bool a.isNone) w := Lib.run_eql_slice_nil w 29 5 a n c 0 0 Tagg.underlying29
attribute [local go_sem] eql30 neq30 eql29

theorem digits_ok (a : Option Addr) (n c m : Nat) (w : World) (hn : n ≤ c) :
    Calls Tagg.prog 19 #[.slice a n c, .int .i64 (m : Int)] w fun e w' => (∃ c', e = .returned (.slice a (min n m) c') ∧ min n m ≤ c' ∧ c' ≤ c) ∧ w' = w := by
  go_enter Tagg.func19, Tagg.ntmps19
  by_cases h : m < n
  · have h1 : (m : Int) < n := by omega
    have h2 : min n m = m := by omega
    have h3 : (m : Int) ≤ c := by omega
    go_wp2
    go_ret
    exact ⟨⟨m, by rw [h2]; rfl, by omega, by omega⟩, rfl⟩
  · have h1 : (n : Int) ≤ m := by omega
    have h2 : min n m = n := by omega
    go_wp2
    go_ret
    exact ⟨⟨c, by rw [h2]; rfl, by omega, by omega⟩, rfl⟩

/-- A slice of its own: nil, or a whole block of n digits A. -/
def OwnS (w : World) (B : Nat) (a : Option Addr) (n : Nat) (A : Nat → Int) : Prop := (a = none ∧ n = 0) ∨ ∃ g, a = some ⟨g, 0, none⟩ ∧ B ≤ g ∧ w.rowIs g 5 n (fun i => .int .u8 (A i))
theorem OwnS.sl {w : World} {B : Nat} {a : Option Addr} {n : Nat} {A : Nat → Int} (h : OwnS w B a n A) : Sl w a n (fun i => .int .u8 (A i)) := by
  rcases h with ⟨rfl, rfl⟩ | ⟨g, rfl, _, hr⟩
  · exact Sl.zero _ _ _
  · intro i hi; exact ⟨g, 0, rfl, by rw [Nat.zero_add]; exact hr.cell hi⟩
theorem OwnS.src {w : World} {B : Nat} {a : Option Addr} {n : Nat} {A : Nat → Int} (h : OwnS w B a n A) (hb : Bytes A n) : Src w a n A := by
  refine ⟨h.sl, hb, fun h0 => ?_⟩
  rcases h with ⟨rfl, rfl⟩ | ⟨g, rfl, _, hr⟩
  · omega
  · exact ⟨g, 0, n, _, rfl, hr⟩
theorem OwnS.below {w w' : World} {B : Nat} {a : Option Addr} {n : Nat} {A : Nat → Int} (h : OwnS w B a n A) (hb : Below w.heap.size w w') : OwnS w' B a n A := by
  rcases h with ⟨rfl, rfl⟩ | ⟨g, rfl, hB, hr⟩
  · exact .inl ⟨rfl, rfl⟩
  · exact .inr ⟨g, rfl, hB, hr.of_block (hb.block g hr.lt)⟩

set_option maxHeartbeats 800000 in
theorem ownNat_ok (a : Option Addr) (n c : Nat) (A : Nat → Int) (w : World) (hn : n ≤ c) (hn2 : n ≤ 1000000) (hnil : a = none → n = 0) (h : Sl w a n fun i => .int .u8 (A i)) :
    Calls Tagg.prog 50 #[.slice a n c] w fun e w' => ∃ a', e = .returned (.slice a' n n) ∧ (a' = none ↔ a = none) ∧ OwnS w' w.heap.size a' n A ∧ Below w.heap.size w w' := by
  have hmk := run_make_row' (P := Tagg.prog) 30 5 (.int .u8 0) 1 Tagg.underlying30 Tagg.info5 rfl .i64 .i64 n (by omega) (by omega)
  have h1 : ∀ i, i < n → (Value.int IntKind.u8 (A i)).oneCell' = true := fun _ _ => rfl
  go_enter Tagg.func50, Tagg.ntmps50
  cases a with
  | none =>
    obtain rfl := hnil rfl
    go_wp2
    go_ret
    exact ⟨none, rfl, rfl, .inl ⟨rfl, rfl⟩, Below.refl _ _⟩
  | some ad =>
    go_wp2_with (with_reducible refine wpList_copyL ?_; refine wpList_copy_all rfl _ _ 30 29 rfl 5 Tagg.underlying30 Tagg.size5 _ _ _ _ _ _ rfl rfl 5 _ _ _ (World.rowIs_made _ _ _ _) ?_ ?_ h1 ?_)
    · omega
    · exact h.below ((Below.refl _ _).alloc (Nat.le_refl _) _)
    · intro w2 hrow hb _ _
      go_wp2
      go_ret
      exact ⟨some ⟨w.heap.size, 0, none⟩, rfl, by simp, .inr ⟨_, rfl, Nat.le_refl _, hrow.congr fun i hi => by rw [if_pos hi]⟩, ((Below.refl _ _).alloc (Nat.le_refl _) _).trans hb⟩

set_option maxHeartbeats 800000 in
theorem sameNat_ok (a b : Option Addr) (n c c' : Nat) (A : Nat → Int) (w : World) (hn : n ≤ 9223372036854775807) (hnil : a = none ↔ b = none)
    (ha : Sl w a n fun i => .int .u8 (A i)) (hb : Sl w b n fun i => .int .u8 (A i)) :
    Calls Tagg.prog 23 #[.slice a n c, .slice b n c'] w fun e w' => e = .returned (.bool true) ∧ ∃ q, w' = w.drewN q := by
  go_enter Tagg.func23, Tagg.ntmps23
  cases a with
  | none =>
    obtain rfl : b = none := hnil.1 rfl
    clear hnil
    go_wp2_with fail
    go_loopw [5] (fun i wr => ∃ k : Nat, k ≤ n ∧ i = .int .i64 k ∧ wr = w) (fun i _ => n - (intOf i).toNat)
    case atStart => exact ⟨0, by omega, rfl, rfl⟩
    case round =>
      obtain ⟨k, hk, rfl, rfl⟩ := hrel
      by_cases hlt : k < n
      · obtain ⟨b1, o1, e, h1⟩ := ha k hlt
        cases e
      · have : k = n := by omega
        subst this
        go_wp2
        go_ret
        exact ⟨rfl, 0, rfl⟩
  | some ad =>
    obtain ⟨bd, rfl⟩ : ∃ bd, b = some bd := by cases b with | none => exact absurd (hnil.2 rfl) (by simp) | some x => exact ⟨x, rfl⟩
    clear hnil
    go_wp2_with fail
    go_loopw [5] (fun i wr => ∃ k : Nat, k ≤ n ∧ i = .int .i64 k ∧ ∃ q, wr = w.drewN q) (fun i _ => n - (intOf i).toNat)
    case atStart => exact ⟨0, by omega, rfl, 0, rfl⟩
    case round =>
      obtain ⟨k, hk, rfl, q, rfl⟩ := hrel
      by_cases hlt : k < n
      · obtain ⟨b1, o1, e1, h1⟩ := ha k hlt
        obtain rfl := Option.some.inj e1
        obtain ⟨b2, o2, e2, h2⟩ := hb k hlt
        obtain rfl := Option.some.inj e2
        clear e1 e2
        have hki : (k : Int) < (n : Int) := by omega
        clear ha hb
        go_wp2
        go_quiet (fail)
        go_wp2
        go_roundw
        case rel => exact ⟨k + 1, by omega, by go_num, _, rfl⟩
        case measure => simp [intOf]; omega
      · have : k = n := by omega
        subst this
        go_wp2
        go_ret
        exact ⟨rfl, _, rfl⟩

/-- nil, or a top digit that is not 0. -/
theorem normal96 (g n N : Nat) (V : Int) (w : World) (hn : n ≤ N) (hN : n ≤ 9223372036854775807) (hl : LenIs V n) (hr : 0 < n → w.rowIs g 5 N (fun i => .int .u8 (dg8 V i))) :
    Calls Tagg.prog 96 #[cutV (some ⟨g, 0, none⟩) n] w fun e w' => e = .returned (.bool true) ∧ w' = w := by
  by_cases h0 : n = 0
  · subst h0
    rw [cutV_zero]
    go_enter Tagg.func96, Tagg.ntmps96
    go_wp2
    go_ret
    exact ⟨rfl, rfl⟩
  · rw [cutV_pos h0]
    have hc := (hr (by omega)).cell (i := n - 1) (by omega)
    have hd : (dg8 V (n - 1) != 0) = true := by simp; exact hl.2.2 (by omega)
    have e1 : (n : Int) - 1 = ((n - 1 : Nat) : Int) := by omega
    have i1 : (0 : Int) < n := by omega
    have i2 : ((n - 1 : Nat) : Int) < n := by omega
    have v1 : IntKind.i64.wrap ((n : Int) - 1) = ((n - 1 : Nat) : Int) := by rw [e1]; exact IntWalk.i64_in _ ⟨by omega, by omega⟩
    generalize n - 1 = m at *
    clear hl hr e1
    go_enter Tagg.func96, Tagg.ntmps96
    go_wp2
    go_ret
    exact ⟨rfl, rfl⟩

theorem normal97 (g n N : Nat) (V : Int) (w : World) (hn : n ≤ N) (hN : n ≤ 9223372036854775807) (hl : LenIs V n) (hr : 0 < n → w.rowIs g 5 N (fun i => .int .u8 (dg8 V i))) :
    Calls Tagg.prog 97 #[cutV (some ⟨g, 0, none⟩) n] w fun e w' => e = .returned (.bool true) ∧ w' = w := by
  by_cases h0 : n = 0
  · subst h0
    rw [cutV_zero]
    go_enter Tagg.func97, Tagg.ntmps97
    go_wp2
    go_ret
    exact ⟨rfl, rfl⟩
  · rw [cutV_pos h0]
    have hc := (hr (by omega)).cell (i := n - 1) (by omega)
    have hd : (dg8 V (n - 1) != 0) = true := by simp; exact hl.2.2 (by omega)
    have e1 : (n : Int) - 1 = ((n - 1 : Nat) : Int) := by omega
    have i1 : ((n : Int) == 0) = false := by simp; omega
    have i2 : ((n - 1 : Nat) : Int) < n := by omega
    have v1 : IntKind.i64.wrap ((n : Int) - 1) = ((n - 1 : Nat) : Int) := by rw [e1]; exact IntWalk.i64_in _ ⟨by omega, by omega⟩
    generalize n - 1 = m at *
    clear hl hr e1
    go_enter Tagg.func97, Tagg.ntmps97
    go_wp2
    go_ret
    exact ⟨rfl, rfl⟩

theorem LenIs.le {V : Int} {n m : Nat} (h : LenIs V n) (hm : V < P8 m) : n ≤ m := by
  rcases Nat.lt_or_ge m n with hlt | hge
  · exfalso
    have h1 := h.2.2 (by omega)
    apply h1
    unfold dg8
    have h2 : V < P8 (n - 1) := Int.lt_of_lt_of_le hm (P8_mono (by omega))
    rw [Int.ediv_eq_zero_of_lt h.1 h2]
    rfl
  · exact hge
theorem cutV_nil (g n : Nat) : ∃ a, cutV (some ⟨g, 0, none⟩) n = .slice a n n ∧ (a = none ↔ n = 0) ∧ (0 < n → a = some ⟨g, 0, none⟩) := by
  by_cases h : n = 0
  · subst h; exact ⟨none, rfl, by simp, fun h => absurd h (by decide)⟩
  · exact ⟨_, cutV_pos h, by simp [h], fun _ => rfl⟩

set_option maxHeartbeats 800000 in
theorem answers_ok (B1 B2 : Nat) (v1 v2 : Value) (V : Int) (w : World) (hV : V < P8 10000000) (h1 : NatOwn w B1 v1 V) (h2 : NatOwn w B2 v2 V) :
    Calls Tagg.prog 52 #[v1, v2] w fun e w' => e = .returned (.bool true) ∧ ∃ q, w' = w.drewN q := by
  obtain ⟨g1, n, N1, -, rfl, hl, hr1, hn1⟩ := h1
  obtain ⟨g2, n2, N2, -, rfl, hl2, hr2, hn2⟩ := h2
  obtain rfl := hl.uniq hl2
  have hn : n ≤ 10000000 := hl.le hV
  have h96 := fun d => normal96 g1 n N1 V (w.drewN d) hn1 (by omega) hl (fun h => row_draws (hr1 h) d)
  have h97 := fun d => normal97 g1 n N1 V (w.drewN d) hn1 (by omega) hl (fun h => row_draws (hr1 h) d)
  obtain ⟨a1, e1, q1, r1⟩ := cutV_nil g1 n
  obtain ⟨a2, e2, q2, r2⟩ := cutV_nil g2 n
  have s1 : Sl w a1 n (fun i => .int .u8 (dg8 V i)) := fun i hi => by rw [r1 (by omega)]; exact ⟨g1, 0, rfl, by rw [Nat.zero_add]; exact (hr1 (by omega)).cell (by omega)⟩
  have s2 : Sl w a2 n (fun i => .int .u8 (dg8 V i)) := fun i hi => by rw [r2 (by omega)]; exact ⟨g2, 0, rfl, by rw [Nat.zero_add]; exact (hr2 (by omega)).cell (by omega)⟩
  have hS := sameNat_ok a1 a2 n n n (dg8 V) w (by omega) (q1.trans q2.symm) s1 s2
  rw [e1] at h96 h97
  rw [e1, e2]
  clear s1 s2 q1 q2 r1 r2 e1 e2 hr1 hr2
  go_enter Tagg.func52, Tagg.ntmps52
  go_wp2_with fail
  with_reducible refine hS.mono ?_
  rintro e w1 ⟨rfl, d, rfl⟩
  go_wp2_with fail
  with_reducible refine (h96 _).mono ?_
  rintro e w2 ⟨rfl, rfl⟩
  go_wp2_with fail
  with_reducible refine (h97 _).mono ?_
  rintro e w2 ⟨rfl, rfl⟩
  go_wp2
  go_ret
  exact ⟨rfl, _, rfl⟩

set_option maxHeartbeats 800000 in
theorem flip_ok (g n N c : Nat) (a : Option Addr) (A : Nat → Int) (w : World) (ha : 0 < n → a = some ⟨g, 0, none⟩) (hn : n ≤ N) (hN : n ≤ 9223372036854775807) (hr : 0 < n → w.rowIs g 5 N (fun i => .int .u8 (A i))) :
    Calls Tagg.prog 53 #[.slice a n c] w fun e w' => (∃ v, e = .returned v) ∧ w.grownBy w' (some g) := by
  go_enter Tagg.func53, Tagg.ntmps53
  go_wp2_with fail
  go_loopw [2] (fun vi wr => ∃ i : Nat, i ≤ n ∧ vi = .int .i64 (i : Int) ∧ w.grownBy wr (some g) ∧ (0 < n → ∃ F : Nat → Int, wr.rowIs g 5 N (fun j => .int .u8 (F j)))) (fun vi _ => n - (intOf vi).toNat)
  case atStart => exact ⟨0, by omega, rfl, ⟨rfl, rfl, rfl, Nat.le_refl _, fun _ _ _ => rfl⟩, fun h => ⟨_, hr h⟩⟩
  case round =>
    obtain ⟨i, hi, rfl, hgr, hrow⟩ := hrel
    by_cases hlt : i < n
    · obtain rfl := ha (by omega)
      obtain ⟨F, hF⟩ := hrow (by omega)
      have hc := hF.cell (i := i) (by omega)
      have hfr := hF.frozen i
      have hli : (i : Int) < n := by omega
      clear hr hrow ha
      go_wp2
      go_roundw
      case rel =>
        refine ⟨i + 1, by omega, by go_num, grown_set hgr 0 _ _, fun _ => ⟨fun j => if j = i then bits BinOp.xor IntKind.u8 (F i) 255 else F j, (hF.set i _).congr fun j hj => ?_⟩⟩
        by_cases h1 : j = i
        · simp [h1]
        · simp [h1]
      case measure => simp [intOf]; omega
    · have : i = n := by omega
      subst this
      clear hr hrow ha
      go_wp2
      go_end0
      exact ⟨⟨_, rfl⟩, hgr⟩
end Go.Proofs.Ygctag
