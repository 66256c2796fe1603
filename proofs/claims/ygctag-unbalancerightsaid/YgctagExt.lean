import Derived.Test.YgctagBase
namespace Go.Proofs.Ygctag
open Go.RowKit

theorem frombits_call (n : Int) (w : World) : (callFunc 105 #[.int .u64 n]).run Tagg.prog w = .ok (.value (.float .f64 n.toNat)) w := by
  rw [run_callFunc_extern (e := Extern.MathFloatBits.float64frombits) Tagg.func105 (by kernel_rfl) (by kernel_rfl) (by kernel_rfl) (by kernel_rfl)]
  rfl
theorem tobits_call (b : Nat) (w : World) : (callFunc 106 #[.float .f64 b]).run Tagg.prog w = .ok (.value (.int .u64 b)) w := by
  rw [run_callFunc_extern (e := Extern.MathFloatBits.float64bits) Tagg.func106 (by kernel_rfl) (by kernel_rfl) (by kernel_rfl) (by kernel_rfl)]
  rfl
attribute [local go_sem] frombits_call tobits_call

theorem f64_any (p : Int) (w : World) : Calls Tagg.prog 70 #[.int .u64 p] w fun e w' => e = .returned (.float .f64 p.toNat) ∧ w' = w := by
  go_enter Tagg.func70, Tagg.ntmps70
  go_wp2
  go_ret
  exact ⟨rfl, rfl⟩
theorem b64_any (b : Nat) (w : World) : Calls Tagg.prog 85 #[.float .f64 b] w fun e w' => e = .returned (.int .u64 b) ∧ w' = w := by
  go_enter Tagg.func85, Tagg.ntmps85
  go_wp2
  go_ret
  exact ⟨rfl, rfl⟩
end Go.Proofs.Ygctag
