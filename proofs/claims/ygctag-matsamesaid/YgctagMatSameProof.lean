import Derived.Test.YgctagOpen
import Derived.Test.YgctagMatSameWalk
namespace Go.Proofs.Ygctag.matSame
open Go.ChangeShapes Go.WideShapes Go.ChangeAt Go.RowKit
open Go.ChangeMaps (open_string shut_string)
set_option linter.unusedVariables false


set_option maxRecDepth 100000 in
theorem lifted (os : Os) (started : os.Started) (H : Type) (enc : TypeId × Value → H) :
    ReturnsInHanded {} Tagg.checked os 8 .any (Rows.matSameSpec.pre6 enc Tagg.prog Tagg.f8 Rows.matSameRow.domain false) (Rows.matSameSpec.post enc Tagg.prog Tagg.f8 false true false false) := by
  refine returnsInHanded_of_change_sized (C := Tagg.checked) own started (by kernel_rfl) Tagg.func8
    (ChangeSpec.witness6 (enc := enc) (C := Tagg.checked) false ⟨#[], #[.int .u8 0, .int .u8 0, .int .u8 0, .int .u8 0, .int .u16 0, .slice none 0 0, .slice none 0 0], []⟩ 8 (by kernel_rfl) (by kernel_rfl) (by kernel_rfl) (by kernel_rfl)) ?_
  intro W base args ds gs before hval0 hW hcnd hsz0 _
  have hsz : (DataW.weightsEach Tagg.prog (Tagg.f8.params.toList ++ Rows.matSameSpec.plain.varTypes Tagg.prog) (ds ++ gs)).all (· ≤ reachBytes) = true := hsz0
  clear hsz0
  have hval : ∀ (j : Nat) t v, Tagg.f8.params[j]? = some t → args[j]? = some v → Value.okWide Tagg.prog W .any base t v := hval0
  have hW' := hW
  obtain ⟨p, q, hA0, hV, rfl, hfz, hnd⟩ := hW
  have hA : DataW.TrodAll enc Tagg.prog W 0 (fun _ => true) true Tagg.f8.params.toList args.toList ds p := hA0
  rw [Tagg.params8] at hA hval hsz
  obtain ⟨v0, vs0, d0, ds0, p0, q0, hargs, rfl, rfl, h0, r0⟩ := trodAll_cons hA
  obtain ⟨v1, vs1, d1, ds1, p1, q1, rfl, rfl, rfl, h1, r1⟩ := trodAll_cons r0
  obtain ⟨v2, vs2, d2, ds2, p2, q2, rfl, rfl, rfl, h2, r2⟩ := trodAll_cons r1
  obtain ⟨v3, vs3, d3, ds3, p3, q3, rfl, rfl, rfl, h3, r3⟩ := trodAll_cons r2
  obtain ⟨v4, vs4, d4, ds4, p4, q4, rfl, rfl, rfl, h4, r4⟩ := trodAll_cons r3
  obtain ⟨v5, vs5, d5, ds5, p5, q5, rfl, rfl, rfl, h5, r5⟩ := trodAll_cons r4
  obtain ⟨v6, vs6, d6, ds6, p6, q6, rfl, rfl, rfl, h6, r6⟩ := trodAll_cons r5
  obtain ⟨rfl, rfl, rfl⟩ := trodAll_nil r6
  obtain rfl : args = #[v0, v1, v2, v3, v4, v5, v6] := by cases args; simp_all
  obtain ⟨rfl, rfl⟩ := trodVars_none hV
  obtain ⟨a0, rfl, rfl, rfl, w0⟩ := open_int Tagg.underlying5 (hval 0 5 v0 rfl rfl) h0
  obtain ⟨a1, rfl, rfl, rfl, w1⟩ := open_int Tagg.underlying5 (hval 1 5 v1 rfl rfl) h1
  obtain ⟨a2, rfl, rfl, rfl, w2⟩ := open_int Tagg.underlying5 (hval 2 5 v2 rfl rfl) h2
  obtain ⟨a3, rfl, rfl, rfl, w3⟩ := open_int Tagg.underlying5 (hval 3 5 v3 rfl rfl) h3
  obtain ⟨a4, rfl, rfl, rfl, w4⟩ := open_int Tagg.underlying49 (hval 4 49 v4 rfl rfl) h4
  obtain ⟨a5, len5, cap5, rfl⟩ := okWide_slice Tagg.underlying57 (hval 5 57 v5 rfl rfl)
  have k5 := h5
  have lt5 : ∀ x ∈ p5, x.block < W.heap.size := by obtain ⟨m, hm⟩ := k5; exact DataW.trod_lt m _ _ _ hm
  obtain ⟨z5, w5⟩ : ∃ z, IntArg .u64 8 W a5 len5 cap5 z :=
    open_arg (j := 5) Tagg.underlying57 Tagg.underlying42 (by kernel_rfl) (by kernel_rfl) hsz rfl rfl h5
  obtain ⟨a6, len6, cap6, rfl⟩ := okWide_slice Tagg.underlying57 (hval 6 57 v6 rfl rfl)
  have k6 := h6
  have lt6 : ∀ x ∈ p6, x.block < W.heap.size := by obtain ⟨m, hm⟩ := k6; exact DataW.trod_lt m _ _ _ hm
  obtain ⟨z6, w6⟩ : ∃ z, IntArg .u64 8 W a6 len6 cap6 z :=
    open_arg (j := 6) Tagg.underlying57 Tagg.underlying42 (by kernel_rfl) (by kernel_rfl) hsz rfl rfl h6
  clear hA0 hval0 hsz
  refine (matSame_walk a0 a1 a2 a3 a4 (wf_u8 w0).1 (wf_u8 w1).1 (wf_u8 w2).1 (wf_u8 w3).1 (wf_u16 w4).1 (wf_u16 w4).2 a5 a6 len5 cap5 len6 cap6 z5 z6 W (by have := w5.reach; have := w5.le; omega) (by have := w6.reach; have := w6.le; omega) w5.sl w6.sl).mono fun e W' ⟨he, bel⟩ => ?_
  subst he
  exact ⟨_, rfl, _, _, _, [], _, [], hW', trodAll_mk1 (shut_bool Tagg.underlying4 _), (trodAll_cons_mk (shut_int Tagg.underlying5 w0) (trodAll_cons_mk (shut_int Tagg.underlying5 w1) (trodAll_cons_mk (shut_int Tagg.underlying5 w2) (trodAll_cons_mk (shut_int Tagg.underlying5 w3) (trodAll_cons_mk (shut_int Tagg.underlying49 w4) (trodAll_cons_mk (Below.trod laidOut (by kernel_rfl) (of_decide_eq_true (by kernel_rfl)) k5 bel lt5) (trodAll_cons_mk (Below.trod laidOut (by kernel_rfl) (of_decide_eq_true (by kernel_rfl)) k6 bel lt6) trodAll_mk0))))))), rfl, bel.frame _, fun h => by cases h⟩

theorem over : Rows.matSameRow.holds Tagg.pinned (OpenSpec.ofChange Rows.matSameSpec) :=
  OpenClaim.holds_of_wide 8 Tagg.f8 rfl rfl rfl rfl rfl rfl rfl ⟨rfl, rfl, rfl, rfl, rfl⟩ rfl rfl rfl rfl rfl (by kernel_rfl) Tagg.func8 (by kernel_rfl)
    (of_decide_eq_true (by kernel_rfl)) (by unfold Func.isWrapper; first | (rw [if_pos (by decide +kernel)]; kernel_rfl) | (rw [if_neg (by decide +kernel)]; exact ⟨rfl, rfl⟩))
    (fun os started H enc _ => lifted os started H enc)

end Go.Proofs.Ygctag.matSame
namespace Go.Proofs.Ygctag
theorem matSame_proved : Rows.MatSameSaid := matSame.over
end Go.Proofs.Ygctag
