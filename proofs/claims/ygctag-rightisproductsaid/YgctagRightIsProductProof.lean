import Derived.Test.YgctagOpen
import Derived.Test.YgctagRpD
namespace Go.Proofs.Ygctag.rightIsProduct
open Go.ChangeShapes Go.WideShapes Go.ChangeAt Go.RowKit
open Go.ChangeMaps (open_string shut_string)
set_option linter.unusedVariables false


set_option maxRecDepth 100000 in
theorem lifted (os : Os) (started : os.Started) (H : Type) (enc : TypeId × Value → H) :
    ReturnsInHanded {} Tagg.checked os 4 .any (Rows.rightIsProductSpec.pre6 enc Tagg.prog Tagg.f4 Rows.rightIsProductRow.domain false) (Rows.rightIsProductSpec.post enc Tagg.prog Tagg.f4 false true false false) := by
  refine returnsInHanded_of_change_sized (C := Tagg.checked) own started (by kernel_rfl) Tagg.func4
    (ChangeSpec.witness6 (enc := enc) (C := Tagg.checked) false ⟨#[], #[.slice none 0 0, .slice none 0 0], []⟩ 8 (by kernel_rfl) (by kernel_rfl) (by kernel_rfl) (by kernel_rfl)) ?_
  intro W base args ds gs before hval0 hW hcnd hsz0 _
  have hsz : (DataW.weightsEach Tagg.prog (Tagg.f4.params.toList ++ Rows.rightIsProductSpec.plain.varTypes Tagg.prog) (ds ++ gs)).all (· ≤ reachBytes) = true := hsz0
  clear hsz0
  have hval : ∀ (j : Nat) t v, Tagg.f4.params[j]? = some t → args[j]? = some v → Value.okWide Tagg.prog W .any base t v := hval0
  have hW' := hW
  obtain ⟨p, q, hA0, hV, rfl, hfz, hnd⟩ := hW
  have hA : DataW.TrodAll enc Tagg.prog W 0 (fun _ => true) true Tagg.f4.params.toList args.toList ds p := hA0
  rw [Tagg.params4] at hA hval hsz
  obtain ⟨v0, vs0, d0, ds0, p0, q0, hargs, rfl, rfl, h0, r0⟩ := trodAll_cons hA
  obtain ⟨v1, vs1, d1, ds1, p1, q1, rfl, rfl, rfl, h1, r1⟩ := trodAll_cons r0
  obtain ⟨rfl, rfl, rfl⟩ := trodAll_nil r1
  obtain rfl : args = #[v0, v1] := by cases args; simp_all
  obtain ⟨rfl, rfl⟩ := trodVars_none hV
  obtain ⟨a0, len0, cap0, rfl⟩ := okWide_slice Tagg.underlying29 (hval 0 29 v0 rfl rfl)
  have k0 := h0
  have lt0 : ∀ x ∈ p0, x.block < W.heap.size := by obtain ⟨m, hm⟩ := k0; exact DataW.trod_lt m _ _ _ hm
  obtain ⟨z0, w0⟩ : ∃ z, IntArg .u8 1 W a0 len0 cap0 z :=
    open_arg (j := 0) Tagg.underlying29 Tagg.underlying5 (by kernel_rfl) (by kernel_rfl) hsz rfl rfl h0
  obtain ⟨a1, len1, cap1, rfl⟩ := okWide_slice Tagg.underlying29 (hval 1 29 v1 rfl rfl)
  have k1 := h1
  have lt1 : ∀ x ∈ p1, x.block < W.heap.size := by obtain ⟨m, hm⟩ := k1; exact DataW.trod_lt m _ _ _ hm
  obtain ⟨z1, w1⟩ : ∃ z, IntArg .u8 1 W a1 len1 cap1 z :=
    open_arg (j := 1) Tagg.underlying29 Tagg.underlying5 (by kernel_rfl) (by kernel_rfl) hsz rfl rfl h1
  clear hA0 hval0 hsz
  refine (rightIsProduct_walk a0 a1 len0 len1 cap0 cap1 z0 z1 W w0.le w1.le (by have := w0.reach; omega) (by have := w1.reach; omega) (fun i hi => wf_bounds (w0.wf i hi)) (fun i hi => wf_bounds (w1.wf i hi)) w0.sl w1.sl).mono fun e W' ⟨he, bel⟩ => ?_
  subst he
  exact ⟨_, rfl, _, _, _, [], _, [], hW', trodAll_mk1 (shut_bool Tagg.underlying4 _), (trodAll_cons_mk (Below.trod laidOut (by kernel_rfl) (of_decide_eq_true (by kernel_rfl)) k0 bel lt0) (trodAll_cons_mk (Below.trod laidOut (by kernel_rfl) (of_decide_eq_true (by kernel_rfl)) k1 bel lt1) trodAll_mk0)), rfl, bel.frame _, fun h => by cases h⟩

theorem over : Rows.rightIsProductRow.holds Tagg.pinned (OpenSpec.ofChange Rows.rightIsProductSpec) :=
  OpenClaim.holds_of_wide 4 Tagg.f4 rfl rfl rfl rfl rfl rfl rfl ⟨rfl, rfl, rfl, rfl, rfl⟩ rfl rfl rfl rfl rfl (by kernel_rfl) Tagg.func4 (by kernel_rfl)
    (of_decide_eq_true (by kernel_rfl)) (by unfold Func.isWrapper; first | (rw [if_pos (by decide +kernel)]; kernel_rfl) | (rw [if_neg (by decide +kernel)]; exact ⟨rfl, rfl⟩))
    (fun os started H enc _ => lifted os started H enc)

end Go.Proofs.Ygctag.rightIsProduct
namespace Go.Proofs.Ygctag
theorem rightIsProduct_proved : Rows.RightIsProductSaid := rightIsProduct.over
end Go.Proofs.Ygctag
