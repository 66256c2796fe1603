import Derived.Test.YgctagBase
namespace Go.Proofs.Ygctag
open Go.RowKit
attribute [local go_sem] eql30 neq30

/-- The length that is left when the zero digits at the top are dropped. -/
def trimLen (z : Nat → Int) : Nat → Nat
  | 0 => 0
  | n + 1 => if z n = 0 then trimLen z n else n + 1

theorem trimLen_le (z : Nat → Int) (n : Nat) : trimLen z n ≤ n := by
  induction n with
  | zero => simp [trimLen]
  | succ n ih => unfold trimLen; split <;> omega

theorem trimLen_zero {z : Nat → Int} {n : Nat} (h : z n = 0) : trimLen z (n + 1) = trimLen z n := by simp [trimLen, h]
theorem trimLen_hit {z : Nat → Int} {n : Nat} (h : ¬ z n = 0) : trimLen z (n + 1) = n + 1 := by simp [trimLen, h]

theorem trimLen_congr {z y : Nat → Int} {n : Nat} (h : ∀ i, i < n → z i = y i) : trimLen z n = trimLen y n := by
  induction n with
  | zero => rfl
  | succ n ih =>
    unfold trimLen
    rw [h n (by omega), ih (fun i hi => h i (by omega))]

/-- A slice value cut to n cells; nil for none. -/
def cutV (a : Option Addr) (n : Nat) : Value := if n = 0 then .slice none 0 0 else .slice a n n
theorem cutV_zero (a : Option Addr) : cutV a 0 = .slice none 0 0 := rfl
theorem cutV_pos {a : Option Addr} {n : Nat} (h : n ≠ 0) : cutV a n = .slice a n n := by simp [cutV, h]

theorem ret_eq {a b : Value} (h : a = b) : Ending.returned a = .returned b := by rw [h]

set_option maxHeartbeats 400000 in
theorem trim_any (a : Option Addr) (n c : Nat) (z : Nat → Int) (w : World) (hn : n ≤ c) (hc : c ≤ 9223372036854775807)
    (h : Sl w a n fun i => .int .u8 (z i)) :
    Calls Tagg.prog 65 #[.slice a n c] w fun e w' => e = .returned (cutV a (trimLen z n)) ∧ w' = w := by
  go_enter Tagg.func65, Tagg.ntmps65
  go_wp2
  go_loop [3] (fun t => ∃ k : Nat, k ≤ n ∧ t = .int .i64 k ∧ trimLen z k = trimLen z n) (fun t => (intOf t).toNat)
  case atStart => exact ⟨n, by omega, rfl, rfl⟩
  case round =>
    obtain ⟨k, hk, rfl, he⟩ := hrel
    have H : Hid (trimLen z k = trimLen z n) := he
    clear he
    by_cases hk0 : k = 0
    · subst hk0
      go_wp2
      go_ret
      exact ⟨ret_eq (by rw [← H.out]; rfl), rfl⟩
    · obtain ⟨b, off, rfl, hcell⟩ := h (k - 1) (by omega)
      obtain ⟨j, rfl⟩ : ∃ j, k = j + 1 := ⟨k - 1, by omega⟩
      simp only [Nat.add_sub_cancel] at hcell
      by_cases hz : z j = 0
      · have hzb : (z j == 0) = true := by simp [hz]
        have H2 : Hid (trimLen z j = trimLen z n) := (trimLen_zero hz).symm.trans H.out
        clear hz
        go_wp2
        go_round
        case rel => exact ⟨j, by omega, by go_num, H2.out⟩
        case measure => simp [intOf]
      · have hzb : (z j == 0) = false := by simp [hz]
        have H2 : Hid (trimLen z n = j + 1) := by rw [← H.out]; exact trimLen_hit hz
        have hj0 : ((j : Int) + 1 == 0) = false := by simp; omega
        clear hz
        go_wp2
        go_ret
        exact ⟨ret_eq (by rw [H2.out]; rfl), rfl⟩

theorem Tagg.size5 : (Tagg.prog.info? 5).map (·.size) = some 1 := by kernel_rfl

/-- The number of digits that Take keeps. -/
def takeLen (z : Nat → Int) (n : Nat) : Nat := trimLen z (min n 1024)
theorem takeLen_le (z : Nat → Int) (n : Nat) : takeLen z n ≤ n := by have := trimLen_le z (min n 1024); unfold takeLen; omega
theorem takeLen_le' (z : Nat → Int) (n : Nat) : takeLen z n ≤ 1024 := by have := trimLen_le z (min n 1024); unfold takeLen; omega

set_option maxHeartbeats 800000 in
theorem take_any (a : Option Addr) (n c : Nat) (z : Nat → Int) (w : World) (hn : n ≤ c) (hc : c ≤ 9223372036854775807)
    (h : Sl w a n fun i => .int .u8 (z i)) :
    Calls Tagg.prog 18 #[.slice a n c] w fun e w' => ∃ g, e = .returned (cutV (some ⟨g, 0, none⟩) (takeLen z n)) ∧ w.heap.size ≤ g ∧ (0 < takeLen z n → w'.rowIs g 5 (takeLen z n) fun i => .int .u8 (z i)) ∧ Below w.heap.size w w' := by
  have hn2 : (n : Int) ≤ 9223372036854775807 := by omega
  have key : ∀ m, m = min n 1024 → Hid (trimLen z m = takeLen z n) := by rintro m rfl; exact (rfl : trimLen z _ = trimLen z _)
  have htl := takeLen_le z n
  have htl2 := takeLen_le' z n
  have hmk := run_make_row' (P := Tagg.prog) 30 5 (.int .u8 0) 1 Tagg.underlying30 Tagg.info5 rfl .i64 .i64 (takeLen z n) (by omega) (by omega)
  obtain ⟨m, hm⟩ : ∃ m, m = min n 1024 := ⟨_, rfl⟩
  have hk := key m hm
  have hsm : Sl w a m fun i => .int .u8 (z i) := h.take (by omega)
  clear key
  go_enter Tagg.func18, Tagg.ntmps18
  by_cases hgt : 1024 < n
  · obtain rfl : m = 1024 := by omega
    clear hm
    go_wp2_with fail
    refine (trim_any a 1024 1024 z w (by omega) (by omega) hsm).mono ?_
    rintro e w' ⟨rfl, rfl⟩
    rw [hk.out]
    clear hk hsm
    by_cases h0 : takeLen z n = 0
    · rw [h0, cutV_zero]
      go_wp2
      go_ret
      exact ⟨w'.heap.size, by rw [h0]; rfl, Nat.le_refl _, fun h => by omega, Below.refl _ _⟩
    · obtain ⟨b, off, rfl, -⟩ := h 0 (by omega)
      rw [cutV_pos h0]
      have h1 : ∀ i, i < takeLen z n → (Value.int IntKind.u8 (z i)).oneCell' = true := fun _ _ => rfl
      go_wp2_with (with_reducible refine wpList_copyL ?_; refine wpList_copy_all rfl _ _ 30 30 rfl 5 Tagg.underlying30 Tagg.size5 _ _ _ _ _ _ rfl rfl 5 _ _ _ (World.rowIs_made _ _ _ _) ?_ ?_ h1 ?_)
      · omega
      · exact (h.take (by omega)).below ((Below.refl _ _).alloc (Nat.le_refl _) _)
      · intro w2 hrow hb _ _
        go_wp2
        go_ret
        refine ⟨w'.heap.size, by rw [cutV_pos h0]; rfl, Nat.le_refl _, fun _ => hrow.congr fun i hi => by rw [if_pos hi], ((Below.refl _ _).alloc (Nat.le_refl _) _).trans hb⟩
  · obtain rfl : m = n := by omega
    clear hm
    go_wp2_with fail
    refine (trim_any a m m z w (by omega) (by omega) hsm).mono ?_
    rintro e w' ⟨rfl, rfl⟩
    rw [hk.out]
    clear hk hsm
    by_cases h0 : takeLen z m = 0
    · rw [h0, cutV_zero]
      go_wp2
      go_ret
      exact ⟨w'.heap.size, by rw [h0]; rfl, Nat.le_refl _, fun h => by omega, Below.refl _ _⟩
    · obtain ⟨b, off, rfl, -⟩ := h 0 (by omega)
      rw [cutV_pos h0]
      have h1 : ∀ i, i < takeLen z m → (Value.int IntKind.u8 (z i)).oneCell' = true := fun _ _ => rfl
      go_wp2_with (with_reducible refine wpList_copyL ?_; refine wpList_copy_all rfl _ _ 30 30 rfl 5 Tagg.underlying30 Tagg.size5 _ _ _ _ _ _ rfl rfl 5 _ _ _ (World.rowIs_made _ _ _ _) ?_ ?_ h1 ?_)
      · omega
      · exact (h.take (by omega)).below ((Below.refl _ _).alloc (Nat.le_refl _) _)
      · intro w2 hrow hb _ _
        go_wp2
        go_ret
        refine ⟨w'.heap.size, by rw [cutV_pos h0]; rfl, Nat.le_refl _, fun _ => hrow.congr fun i hi => by rw [if_pos hi], ((Below.refl _ _).alloc (Nat.le_refl _) _).trans hb⟩

set_option maxHeartbeats 400000 in
theorem sameDigits_any (a b : Option Addr) (n c c' : Nat) (z : Nat → Int) (w : World) (hn : n ≤ 9223372036854775807)
    (ha : Sl w a n fun i => .int .u8 (z i)) (hb : Sl w b n fun i => .int .u8 (z i)) :
    Calls Tagg.prog 56 #[.slice a n c, .slice b n c'] w fun e w' => e = .returned (.bool true) ∧ ∃ q, w' = w.drewN q := by
  go_enter Tagg.func56, Tagg.ntmps56
  go_wp2
  go_loopw [5] (fun i wr => ∃ k : Nat, k ≤ n ∧ i = .int .i64 k ∧ ∃ q, wr = w.drewN q) (fun i _ => n - (intOf i).toNat)
  case atStart => exact ⟨0, by omega, rfl, 0, rfl⟩
  case round =>
    obtain ⟨k, hk, rfl, q, rfl⟩ := hrel
    by_cases hlt : k < n
    · obtain ⟨b1, o1, rfl, h1⟩ := ha k hlt
      obtain ⟨b2, o2, rfl, h2⟩ := hb k hlt
      have hki : (k : Int) < (n : Int) := by omega
      clear ha hb
      go_wp2
      go_quiet (fail)
      go_wp2
      go_roundw
      case rel => exact ⟨k + 1, by omega, by go_num, _, rfl⟩
      case measure => simp [intOf]; omega
    · go_wp2
      go_ret
      exact ⟨rfl, q, rfl⟩
end Go.Proofs.Ygctag
