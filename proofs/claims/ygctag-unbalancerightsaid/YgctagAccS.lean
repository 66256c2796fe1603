import Derived.Test.YgctagAccF
namespace Go.Proofs.Ygctag
open Go.RowKit

set_option maxRecDepth 100000 in
set_option maxHeartbeats 1000000 in
theorem accSign (a : Nat) (V : Int) (w : World) (h1 : -P64 67 * 9223372036854775808 ≤ V) (h2 : V < P64 67 * 9223372036854775808) (ha : AccAt w a V) :
    Calls Tagg.prog 30 #[.pointer (some ⟨a, 0, none⟩)] w fun e w' => ∃ x : Int, e = .returned (.int .i8 x) ∧ (x < 0 ↔ V < 0) ∧ w' = w := by
  have c67 := ha.row.cell (i := 67) (by decide)
  have n67 := dgZ_nonneg V 67
  have m67 := dgZ_lt V 67
  by_cases hV : V < 0
  · have ht := dgZ_top_neg V hV h1
    have e1 : (dgZ V 67 / 9223372036854775808 != 0) = true := by simp; omega
    go_enter Tagg.func30, Tagg.ntmps30
    go_wp2
    go_ret
    exact ⟨_, rfl, by simp [hV], rfl⟩
  · have ht := dgZ_top_nonneg V (by omega) h2
    have e1 : dgZ V 67 / 9223372036854775808 = 0 := by omega
    go_enter Tagg.func30, Tagg.ntmps30
    go_wp2_with fail
    go_loopw [3] (fun i wr => ∃ q : Nat, q ≤ 68 ∧ i = .int .i64 q ∧ wr = w) (fun i _ => 68 - (intOf i).toNat)
    case atStart => exact ⟨0, by omega, rfl, rfl⟩
    case round =>
      obtain ⟨q, hq, rfl, rfl⟩ := hrel
      by_cases hlt : q < 68
      · have cq := ha.row.cell hlt
        by_cases hz : dgZ V q = 0
        · go_wp2
          go_roundw
          case rel => exact ⟨q + 1, by omega, by go_num, trivial⟩
          case measure => simp [intOf]; omega
        · go_wp2
          go_ret
          exact ⟨_, rfl, by simp; omega, rfl⟩
      · have e : q = 68 := by omega
        subst e
        go_wp2
        go_ret
        exact ⟨_, rfl, by simp; omega, rfl⟩
end Go.Proofs.Ygctag
