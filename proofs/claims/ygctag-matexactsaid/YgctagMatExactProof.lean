import Derived.Test.YgctagOpen
import Derived.Test.YgctagMatExactWalk
namespace Go.Proofs.Ygctag.matExact
open Go.ChangeShapes Go.WideShapes Go.ChangeAt Go.RowKit
open Go.ChangeMaps (open_string shut_string)
set_option linter.unusedVariables false


set_option maxRecDepth 100000 in
theorem lifted (os : Os) (started : os.Started) (H : Type) (enc : TypeId × Value → H) :
    ReturnsInHanded {} Tagg.checked os 9 .any (Rows.matExactSpec.pre6 enc Tagg.prog Tagg.f9 Rows.matExactRow.domain false) (Rows.matExactSpec.post enc Tagg.prog Tagg.f9 false true false false) := by
  refine returnsInHanded_of_change_sized (C := Tagg.checked) own started (by kernel_rfl) Tagg.func9
    (ChangeSpec.witness6 (enc := enc) (C := Tagg.checked) false ⟨#[], #[.int .u8 0, .int .u8 0, .int .u8 0, .int .u16 0, .slice none 0 0, .slice none 0 0], []⟩ 8 (by kernel_rfl) (by kernel_rfl) (by kernel_rfl) (by kernel_rfl)) ?_
  intro W base args ds gs before hval0 hW hcnd hsz0 _
  have hsz : (DataW.weightsEach Tagg.prog (Tagg.f9.params.toList ++ Rows.matExactSpec.plain.varTypes Tagg.prog) (ds ++ gs)).all (· ≤ reachBytes) = true := hsz0
  clear hsz0
  have hval : ∀ (j : Nat) t v, Tagg.f9.params[j]? = some t → args[j]? = some v → Value.okWide Tagg.prog W .any base t v := hval0
  have hW' := hW
  obtain ⟨p, q, hA0, hV, rfl, hfz, hnd⟩ := hW
  have hA : DataW.TrodAll enc Tagg.prog W 0 (fun _ => true) true Tagg.f9.params.toList args.toList ds p := hA0
  rw [Tagg.params9] at hA hval hsz
  obtain ⟨v0, vs0, d0, ds0, p0, q0, hargs, rfl, rfl, h0, r0⟩ := trodAll_cons hA
  obtain ⟨v1, vs1, d1, ds1, p1, q1, rfl, rfl, rfl, h1, r1⟩ := trodAll_cons r0
  obtain ⟨v2, vs2, d2, ds2, p2, q2, rfl, rfl, rfl, h2, r2⟩ := trodAll_cons r1
  obtain ⟨v3, vs3, d3, ds3, p3, q3, rfl, rfl, rfl, h3, r3⟩ := trodAll_cons r2
  obtain ⟨v4, vs4, d4, ds4, p4, q4, rfl, rfl, rfl, h4, r4⟩ := trodAll_cons r3
  obtain ⟨v5, vs5, d5, ds5, p5, q5, rfl, rfl, rfl, h5, r5⟩ := trodAll_cons r4
  obtain ⟨rfl, rfl, rfl⟩ := trodAll_nil r5
  obtain rfl : args = #[v0, v1, v2, v3, v4, v5] := by cases args; simp_all
  obtain ⟨rfl, rfl⟩ := trodVars_none hV
  obtain ⟨a0, rfl, rfl, rfl, w0⟩ := open_int Tagg.underlying5 (hval 0 5 v0 rfl rfl) h0
  obtain ⟨a1, rfl, rfl, rfl, w1⟩ := open_int Tagg.underlying5 (hval 1 5 v1 rfl rfl) h1
  obtain ⟨a2, rfl, rfl, rfl, w2⟩ := open_int Tagg.underlying5 (hval 2 5 v2 rfl rfl) h2
  obtain ⟨a3, rfl, rfl, rfl, w3⟩ := open_int Tagg.underlying49 (hval 3 49 v3 rfl rfl) h3
  obtain ⟨a4, len4, cap4, rfl⟩ := okWide_slice Tagg.underlying22 (hval 4 22 v4 rfl rfl)
  have k4 := h4
  have lt4 : ∀ x ∈ p4, x.block < W.heap.size := by obtain ⟨m, hm⟩ := k4; exact DataW.trod_lt m _ _ _ hm
  obtain ⟨z4, w4⟩ : ∃ z, IntArg .i32 4 W a4 len4 cap4 z :=
    open_arg (j := 4) Tagg.underlying22 Tagg.underlying21 (by kernel_rfl) (by kernel_rfl) hsz rfl rfl h4
  obtain ⟨a5, len5, cap5, rfl⟩ := okWide_slice Tagg.underlying22 (hval 5 22 v5 rfl rfl)
  have k5 := h5
  have lt5 : ∀ x ∈ p5, x.block < W.heap.size := by obtain ⟨m, hm⟩ := k5; exact DataW.trod_lt m _ _ _ hm
  obtain ⟨z5, w5⟩ : ∃ z, IntArg .i32 4 W a5 len5 cap5 z :=
    open_arg (j := 5) Tagg.underlying22 Tagg.underlying21 (by kernel_rfl) (by kernel_rfl) hsz rfl rfl h5
  clear hA0 hval0 hsz
  refine (matExact_walk a0 a1 a2 a3 (wf_u8 w0).1 (wf_u8 w1).1 (wf_u8 w1).2 (wf_u8 w2).1 (wf_u16 w3).1 (wf_u16 w3).2 a4 a5 len4 cap4 len5 cap5 z4 z5 W (by have := w4.reach; have := w4.le; omega) (by have := w5.reach; have := w5.le; omega) w4.sl w5.sl (fun i hi => wf_i32 (w4.wf i hi)) (fun i hi => wf_i32 (w5.wf i hi))).mono fun e W' ⟨he, bel⟩ => ?_
  subst he
  exact ⟨_, rfl, _, _, _, [], _, [], hW', trodAll_mk1 (shut_bool Tagg.underlying4 _), (trodAll_cons_mk (shut_int Tagg.underlying5 w0) (trodAll_cons_mk (shut_int Tagg.underlying5 w1) (trodAll_cons_mk (shut_int Tagg.underlying5 w2) (trodAll_cons_mk (shut_int Tagg.underlying49 w3) (trodAll_cons_mk (Below.trod laidOut (by kernel_rfl) (of_decide_eq_true (by kernel_rfl)) k4 bel lt4) (trodAll_cons_mk (Below.trod laidOut (by kernel_rfl) (of_decide_eq_true (by kernel_rfl)) k5 bel lt5) trodAll_mk0)))))), rfl, bel.frame _, fun h => by cases h⟩

theorem over : Rows.matExactRow.holds Tagg.pinned (OpenSpec.ofChange Rows.matExactSpec) :=
  OpenClaim.holds_of_wide 9 Tagg.f9 rfl rfl rfl rfl rfl rfl rfl ⟨rfl, rfl, rfl, rfl, rfl⟩ rfl rfl rfl rfl rfl (by kernel_rfl) Tagg.func9 (by kernel_rfl)
    (of_decide_eq_true (by kernel_rfl)) (by unfold Func.isWrapper; first | (rw [if_pos (by decide +kernel)]; kernel_rfl) | (rw [if_neg (by decide +kernel)]; exact ⟨rfl, rfl⟩))
    (fun os started H enc _ => lifted os started H enc)

end Go.Proofs.Ygctag.matExact
namespace Go.Proofs.Ygctag
theorem matExact_proved : Rows.MatExactSaid := matExact.over
end Go.Proofs.Ygctag
