import Derived.Test.YgctagExt
import Derived.Test.YgctagIntC
import Derived.Laws.Bits64b
namespace Go.Proofs.Ygctag
open Go.RowKit
attribute [local go_sem] frombits_call tobits_call

theorem bits64_any (b : Nat) (w : World) : Calls Tagg.prog 102 #[.float .f64 b] w fun e w' => e = .returned (.int .u64 b) ∧ w' = w := by
  go_enter Tagg.func102, Tagg.ntmps102
  go_wp2
  go_ret
  exact ⟨rfl, rfl⟩

theorem and_low (x k : Nat) (hx : x < 18446744073709551616) (hk : k ≤ 63) : bits .and .u64 (x : Int) ((2 ^ k - 1 : Nat) : Int) = ((x % 2 ^ k : Nat) : Int) := by
  have h1 : 2 ^ k ≤ 2 ^ 63 := Nat.pow_le_pow_right (by decide) hk
  rw [bits_and_u64_nat _ _ hx (by omega), Nat.and_two_pow_sub_one_eq_mod]

/-- What Split64 reads of a float of a whole number V ≠ 0. -/
theorem split_bits (s : Bool) (V : Nat) (hV : V ≠ 0) (h53 : V < 2 ^ 53) : ∃ F : Nat, F < 4503599627370496 ∧ F + 4503599627370496 = V * 2 ^ (52 - V.log2) ∧ fz s V < 18446744073709551616 ∧
    bits .and .u64 ((fz s V : Int) / 4503599627370496) 2047 = ((V.log2 + 1023 : Nat) : Int) ∧ bits .and .u64 (fz s V : Int) 4503599627370495 = (F : Int) ∧ ((fz s V : Int) / 9223372036854775808 != 0) = s ∧
    bits .or .u64 (F : Int) 4503599627370496 = ((F + 4503599627370496 : Nat) : Int) := by
  have hl := log2_le_52 hV h53
  have hb := sig_bounds hV h53
  obtain ⟨r1, r2, r3, r4⟩ := rung_lt (V.log2 + 1022) (V * 2 ^ (52 - V.log2)) (by omega) (Nat.le_trans (by decide) hb.1) (Nat.lt_of_lt_of_le hb.2 (by decide))
  have e : rungN V = (V.log2 + 1022) * 4503599627370496 + V * 2 ^ (52 - V.log2) := by unfold rungN; rw [show (2 : Nat) ^ 52 = 4503599627370496 by decide]
  have hb1 : 4503599627370496 ≤ V * 2 ^ (52 - V.log2) := Nat.le_trans (by decide) hb.1
  have hb2 : V * 2 ^ (52 - V.log2) < 9007199254740992 := Nat.lt_of_lt_of_le hb.2 (by decide)
  have ef : fz s V = (if s then 9223372036854775808 else 0) + rungN V := by
    unfold fz
    rw [if_neg hV]
    unfold Ieee.Format.word
    rw [dbl_sign]
    cases s <;> simp
  rw [← e] at r1 r2 r3 r4
  generalize V * 2 ^ (52 - V.log2) = S at *
  generalize rungN V = R at *
  have hf : fz s V < 18446744073709551616 := by rw [ef]; split <;> omega
  have d1 : fz s V / 4503599627370496 % 2048 = V.log2 + 1023 := by rw [ef]; split <;> omega
  have d2 : fz s V % 4503599627370496 = S - 4503599627370496 := by rw [ef]; split <;> omega
  have d3 : fz s V / 9223372036854775808 = if s then 1 else 0 := by rw [ef]; split <;> omega
  refine ⟨S - 4503599627370496, by omega, by omega, hf, ?_, ?_, ?_, ?_⟩
  · have := and_low (fz s V / 4503599627370496) 11 (by omega) (by decide)
    rw [show (2 : Nat) ^ 11 = 2048 by decide, d1] at this
    rw [← this]
    rfl
  · have := and_low (fz s V) 52 hf (by decide)
    rw [show (2 : Nat) ^ 52 = 4503599627370496 by decide, d2] at this
    exact this
  · have : (fz s V : Int) / 9223372036854775808 = ((fz s V / 9223372036854775808 : Nat) : Int) := rfl
    rw [this, d3]
    cases s <;> rfl
  · have h := Nat.shiftLeft_add_eq_or_of_lt (i := 52) (b := S - 4503599627370496) (by omega) 1
    rw [show (1 : Nat) <<< 52 = 4503599627370496 by decide] at h
    have := bits_or_u64_nat (S - 4503599627370496) 4503599627370496 (by omega) (by decide)
    rw [Nat.or_comm, ← h, Nat.add_comm] at this
    exact this

set_option maxHeartbeats 1000000 in
theorem split_fz (s : Bool) (V : Nat) (hV : V ≠ 0) (h53 : V < 2 ^ 53) (w : World) :
    Calls Tagg.prog 67 #[.float .f64 (fz s V)] w fun e w' => e = .returned (.tuple #[.bool s, .int .u64 ((V * 2 ^ (52 - V.log2) : Nat) : Int), .int .i16 ((V.log2 : Int) - 52), .int .u8 1]) ∧ w' = w := by
  have hl := log2_le_52 hV h53
  obtain ⟨F, f1, f2, hf, h1, h2, h3, h4⟩ := split_bits s V hV h53
  rw [← f2]
  generalize fz s V = b at *
  generalize V.log2 = L at *
  have hf0 : 0 ≤ (b : Int) := by omega
  have hf' : (b : Int) < 18446744073709551616 := by omega
  have hw : IntKind.i16.wrap ((L + 1023 : Nat) : Int) = (L : Int) + 1023 := IntWalk.i16_in _ ⟨by omega, by omega⟩
  have hL1 : ((L : Int) + 1023 == 2047) = false := by simp; omega
  have hL2 : ((L : Int) + 1023 != 0) = true := by simp; omega
  go_enter Tagg.func67, Tagg.ntmps67
  go_wp2_with fail
  with_reducible refine (bits64_any b _).mono ?_
  rintro e w' ⟨rfl, rfl⟩
  go_wp2
  refine bodyPost_ret (v := .tuple #[.bool s, .int .u64 ((V : Int) * 2 ^ (52 - L)), .int .i16 ((L : Int) + 1023 - 1075), .int .u8 1]) (by simp [results, Tagg.results67, go_sem]) rfl ⟨?_, rfl⟩
  have e1 : ((F + 4503599627370496 : Nat) : Int) = (V : Int) * 2 ^ (52 - L) := by rw [f2, Int.natCast_mul, Int.natCast_pow]; rfl
  rw [e1, show (L : Int) + 1023 - 1075 = (L : Int) - 52 by omega]

set_option maxHeartbeats 1000000 in
theorem split_zero (s : Bool) (w : World) :
    Calls Tagg.prog 67 #[.float .f64 (fz s 0)] w fun e w' => e = .returned (.tuple #[.bool s, .int .u64 0, .int .i16 0, .int .u8 0]) ∧ w' = w := by
  obtain ⟨b, hb⟩ : ∃ b, fz s 0 = b := ⟨_, rfl⟩
  have h1 : bits .and .u64 ((b : Int) / 4503599627370496) 2047 = 0 := by rw [← hb]; cases s <;> decide +kernel
  have h2 : bits .and .u64 (b : Int) 4503599627370495 = 0 := by rw [← hb]; cases s <;> decide +kernel
  have h3 : ((b : Int) / 9223372036854775808 != 0) = s := by rw [← hb]; cases s <;> decide +kernel
  rw [hb]
  have hw : IntKind.i16.wrap 0 = 0 := by decide
  clear hb
  go_enter Tagg.func67, Tagg.ntmps67
  go_wp2_with fail
  with_reducible refine (bits64_any b _).mono ?_
  rintro e w' ⟨rfl, rfl⟩
  go_wp2
  exact bodyPost_ret (v := .tuple #[.bool s, .int .u64 0, .int .i16 0, .int .u8 0]) (by simp [results, Tagg.results67, go_sem]) rfl ⟨rfl, rfl⟩
end Go.Proofs.Ygctag
