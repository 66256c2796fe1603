import Derived.Test.YgctagAcc
import Derived.Laws.Bits64b
namespace Go.Proofs.Ygctag
open Go.RowKit

theorem row_down {w : World} {b n q : Nat} {t : TypeId} {F G : Nat → Int} (h : w.rowIs b t n (fun j => .int .u64 (if j < q + 1 then G j else F j))) :
    (w.setCell ⟨b, q, none⟩ (.int .u64 (F q))).rowIs b t n (fun j => .int .u64 (if j < q then G j else F j)) := by
  refine (h.set q _).congr fun i hi => ?_
  by_cases h1 : i = q
  · subst h1; rw [if_pos rfl, if_neg (by omega)]
  · rw [if_neg h1]
    by_cases h2 : i < q
    · rw [if_pos h2, if_pos (by omega)]
    · rw [if_neg h2, if_neg (by omega)]

theorem pow_cast (n : Nat) : ((2 ^ n : Nat) : Int) = 2 ^ n := Int.natCast_pow 2 n

/-- D << lo | Y with Y below 2^lo. -/
theorem or_shl (D Y lo : Nat) (hl : lo < 64) (hY : Y < 2 ^ lo) : bits .or .u64 ((D : Int) * 2 ^ lo % 18446744073709551616) (Y : Int) = (D : Int) * 2 ^ lo % 18446744073709551616 + Y := by
  have e : (18446744073709551616 : Nat) = 2 ^ (64 - lo) * 2 ^ lo := by rw [← Nat.pow_add, show 64 - lo + lo = 64 by omega]
  have e2 : (D : Int) * 2 ^ lo % 18446744073709551616 = ((D * 2 ^ lo % 18446744073709551616 : Nat) : Int) := by
    rw [← pow_cast, ← Int.natCast_mul]; rfl
  have e3 : D * 2 ^ lo % 18446744073709551616 = (D % 2 ^ (64 - lo)) * 2 ^ lo := by rw [e, Nat.mul_mod_mul_right]
  have hle : 2 ^ lo ≤ 2 ^ 64 := Nat.pow_le_pow_right (by decide) (by omega)
  rw [e2, bits_or_u64_nat _ _ (Nat.mod_lt _ (by decide)) (by omega), e3, ← Nat.shiftLeft_eq, ← Nat.shiftLeft_add_eq_or_of_lt hY, Int.natCast_add]

theorem u64w (x : Int) : IntKind.u64.wrap x = x % 18446744073709551616 := rfl

set_option maxRecDepth 100000 in
set_option maxHeartbeats 1000000 in
theorem accShl (a k : Nat) (V : Int) (w : World) (hk : k ≤ 65535) (ha : AccAt w a V) :
    Calls Tagg.prog 27 #[.pointer (some ⟨a, 0, none⟩), .int .u16 k] w fun e w' => e = .returned (.tuple #[]) ∧ AccAt w' a (shlZ V (k / 64) (k % 64)) ∧ w.grownBy w' (some a) := by
  have hl : k % 64 < 64 := Nat.mod_lt _ (by decide)
  have hw : k / 64 ≤ 1023 := by omega
  obtain ⟨wd, hwd⟩ : ∃ wd, wd = k / 64 := ⟨_, rfl⟩
  obtain ⟨lo, hlo⟩ : ∃ lo, lo = k % 64 := ⟨_, rfl⟩
  rw [← hwd, ← hlo]
  rw [← hwd] at hw
  rw [← hlo] at hl
  have e1 : (k : Int) / 64 = (wd : Int) := by omega
  have e2 : (k : Int) % 64 = (lo : Int) := by omega
  clear hwd hlo
  go_enter Tagg.func27, Tagg.ntmps27
  go_wp2_with fail
  go_loopw [6] (fun i wr => ∃ c : Nat, c ≤ 68 ∧ i = .int .i64 ((c : Int) - 1) ∧ w.grownBy wr (some a) ∧ wr.rowIs a 44 68 (fun j => .int .u64 (if j < c then dgZ V j else dgZ (shlZ V wd lo) j))) (fun i _ => (intOf i + 1).toNat)
  case atStart => exact ⟨68, by omega, rfl, ⟨rfl, rfl, rfl, Nat.le_refl _, fun _ _ _ => rfl⟩, ha.row.congr (fun i hi => by rw [if_pos hi])⟩
  case round =>
    obtain ⟨c, hc, rfl, hgr, hrw⟩ := hrel
    by_cases hlt : 0 < c
    · obtain ⟨q, rfl⟩ : ∃ q, c = q + 1 := ⟨c - 1, by omega⟩
      have ei : ((q + 1 : Nat) : Int) - 1 = (q : Int) := by omega
      rw [ei]
      have hF := hrw.frozen q
      have cq := hrw.cell (i := q) (by omega)
      have hnext := row_down (F := dgZ (shlZ V wd lo)) (G := dgZ V) hrw
      by_cases h1 : q < wd
      · have hv := shl_below V wd lo q h1
        rw [hv] at hnext
        have h1' : (q : Int) < wd := by omega
        go_wp2
        go_roundw
        case rel => exact ⟨q, by omega, by go_num, grown_set hgr 0 _ _, hnext⟩
        case measure => simp [intOf]
      · by_cases h2 : q = wd
        · subst h2
          have hv := shl_at V q lo
          have c0 := hrw.cell (i := 0) (by omega)
          rw [if_pos (by omega)] at c0
          have ew : IntKind.u64.wrap (dgZ V 0 * 2 ^ lo) = dgZ (shlZ V q lo) q := by
            rw [hv, u64w, pow_cast]
          go_wp2
          go_roundw
          case rel => exact ⟨q, by omega, by go_num, grown_set hgr 0 _ _, by first | (rw [ew]; exact hnext) | (rw [← u64w, ew]; exact hnext)⟩
          case measure => simp [intOf]
        · obtain ⟨m, rfl⟩ : ∃ m, q = m + 1 + wd := ⟨q - 1 - wd, by omega⟩
          obtain ⟨hv, hb0, hb1⟩ := shl_above V wd lo m hl
          have c0 := hrw.cell (i := m) (by omega)
          have c1 := hrw.cell (i := m + 1) (by omega)
          rw [if_pos (by omega)] at c0 c1
          have hlo1 : (lo : Int) < 64 := by omega
          have n0 := dgZ_nonneg V m
          have n1 := dgZ_nonneg V (m + 1)
          have ew : bits .or .u64 (IntKind.u64.wrap (dgZ V (m + 1) * 2 ^ lo)) (dgZ V m / 2 ^ (64 - lo)) = dgZ (shlZ V wd lo) (m + 1 + wd) := by
            rw [hv, u64w, ← pow_cast (64 - lo), pow_cast lo]
            obtain ⟨D, hD⟩ := Int.eq_ofNat_of_zero_le n1
            obtain ⟨Y, hY⟩ := Int.eq_ofNat_of_zero_le hb0
            rw [hD, hY]
            exact or_shl D Y lo hl (by rw [hY] at hb1; omega)
          clear hv hb0 hb1
          go_wp2
          go_roundw
          case rel => exact ⟨m + 1 + wd, by omega, by go_num, grown_set hgr 0 _ _, by exact hnext⟩
          case measure => simp [intOf]; omega
    · have e : c = 0 := by omega
      subst e
      go_wp2
      go_end0
      exact ⟨rfl, AccAt.of_row (hrw.congr (fun i hi => by rw [if_neg (by omega)])), hgr⟩
end Go.Proofs.Ygctag
