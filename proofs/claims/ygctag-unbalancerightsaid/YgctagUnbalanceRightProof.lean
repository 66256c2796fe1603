import Derived.Test.YgctagOpen
import Derived.Test.YgctagUbR
namespace Go.Proofs.Ygctag.unbalanceRight
open Go.ChangeShapes Go.WideShapes Go.ChangeAt Go.RowKit
open Go.ChangeMaps (open_string shut_string)
set_option linter.unusedVariables false


set_option maxRecDepth 100000 in
theorem lifted (os : Os) (started : os.Started) (H : Type) (enc : TypeId × Value → H) :
    ReturnsInHanded {} Tagg.checked os 5 .any (Rows.unbalanceRightSpec.pre6 enc Tagg.prog Tagg.f5 Rows.unbalanceRightRow.domain false) (Rows.unbalanceRightSpec.post enc Tagg.prog Tagg.f5 false true false false) := by
  refine returnsInHanded_of_change_sized (C := Tagg.checked) own started (by kernel_rfl) Tagg.func5
    (ChangeSpec.witness6 (enc := enc) (C := Tagg.checked) false ⟨#[], #[.slice none 0 0], []⟩ 8 (by kernel_rfl) (by kernel_rfl) (by kernel_rfl) (by kernel_rfl)) ?_
  intro W base args ds gs before hval0 hW hcnd hsz0 _
  have hsz : (DataW.weightsEach Tagg.prog (Tagg.f5.params.toList ++ Rows.unbalanceRightSpec.plain.varTypes Tagg.prog) (ds ++ gs)).all (· ≤ reachBytes) = true := hsz0
  clear hsz0
  have hval : ∀ (j : Nat) t v, Tagg.f5.params[j]? = some t → args[j]? = some v → Value.okWide Tagg.prog W .any base t v := hval0
  have hW' := hW
  obtain ⟨p, q, hA0, hV, rfl, hfz, hnd⟩ := hW
  have hA : DataW.TrodAll enc Tagg.prog W 0 (fun _ => true) true Tagg.f5.params.toList args.toList ds p := hA0
  rw [Tagg.params5] at hA hval hsz
  obtain ⟨v0, vs0, d0, ds0, p0, q0, hargs, rfl, rfl, h0, r0⟩ := trodAll_cons hA
  obtain ⟨rfl, rfl, rfl⟩ := trodAll_nil r0
  obtain rfl : args = #[v0] := by cases args; simp_all
  obtain ⟨rfl, rfl⟩ := trodVars_none hV
  obtain ⟨a0, len0, cap0, rfl⟩ := okWide_slice Tagg.underlying23 (hval 0 23 v0 rfl rfl)
  have k0 := h0
  have lt0 : ∀ x ∈ p0, x.block < W.heap.size := by obtain ⟨m, hm⟩ := k0; exact DataW.trod_lt m _ _ _ hm
  obtain ⟨z0, w0⟩ : ∃ z, IntArg .i64 8 W a0 len0 cap0 z :=
    open_arg (j := 0) Tagg.underlying23 Tagg.underlying2 (by kernel_rfl) (by kernel_rfl) hsz rfl rfl h0
  clear hA0 hval0 hsz
  refine (unbalanceRight_walk a0 len0 cap0 z0 W (by have := w0.reach; have := w0.le; omega) w0.le w0.sl (fun i hi => wf_i64 (w0.wf i hi))).mono fun e W' ⟨he, bel⟩ => ?_
  subst he
  exact ⟨_, rfl, _, _, _, [], _, [], hW', trodAll_mk1 (shut_bool Tagg.underlying4 _), (trodAll_cons_mk (Below.trod laidOut (by kernel_rfl) (of_decide_eq_true (by kernel_rfl)) k0 bel lt0) trodAll_mk0), rfl, bel.frame _, fun h => by cases h⟩

theorem over : Rows.unbalanceRightRow.holds Tagg.pinned (OpenSpec.ofChange Rows.unbalanceRightSpec) :=
  OpenClaim.holds_of_wide 5 Tagg.f5 rfl rfl rfl rfl rfl rfl rfl ⟨rfl, rfl, rfl, rfl, rfl⟩ rfl rfl rfl rfl rfl (by kernel_rfl) Tagg.func5 (by kernel_rfl)
    (of_decide_eq_true (by kernel_rfl)) (by unfold Func.isWrapper; first | (rw [if_pos (by decide +kernel)]; kernel_rfl) | (rw [if_neg (by decide +kernel)]; exact ⟨rfl, rfl⟩))
    (fun os started H enc _ => lifted os started H enc)

end Go.Proofs.Ygctag.unbalanceRight
namespace Go.Proofs.Ygctag
theorem unbalanceRight_proved : Rows.UnbalanceRightSaid := unbalanceRight.over
end Go.Proofs.Ygctag
