import Derived.Test.YgctagOpen
import Derived.Test.YgctagMatRefusesWalk
namespace Go.Proofs.Ygctag.matRefuses
open Go.ChangeShapes Go.WideShapes Go.ChangeAt Go.RowKit
open Go.ChangeMaps (open_string shut_string)
set_option linter.unusedVariables false


set_option maxRecDepth 100000 in
theorem lifted (os : Os) (started : os.Started) (H : Type) (enc : TypeId × Value → H) :
    ReturnsInHanded {} Tagg.checked os 10 .any (Rows.matRefusesSpec.pre6 enc Tagg.prog Tagg.f10 Rows.matRefusesRow.domain false) (Rows.matRefusesSpec.post enc Tagg.prog Tagg.f10 false true false false) := by
  refine returnsInHanded_of_change_sized (C := Tagg.checked) own started (by kernel_rfl) Tagg.func10
    (ChangeSpec.witness6 (enc := enc) (C := Tagg.checked) false ⟨#[], #[.int .i64 0, .int .i64 0, .int .i64 0, .int .i64 0, .int .i64 0], []⟩ 8 (by kernel_rfl) (by kernel_rfl) (by kernel_rfl) (by kernel_rfl)) ?_
  intro W base args ds gs before hval0 hW hcnd hsz0 _
  have hsz : (DataW.weightsEach Tagg.prog (Tagg.f10.params.toList ++ Rows.matRefusesSpec.plain.varTypes Tagg.prog) (ds ++ gs)).all (· ≤ reachBytes) = true := hsz0
  clear hsz0
  have hval : ∀ (j : Nat) t v, Tagg.f10.params[j]? = some t → args[j]? = some v → Value.okWide Tagg.prog W .any base t v := hval0
  have hW' := hW
  obtain ⟨p, q, hA0, hV, rfl, hfz, hnd⟩ := hW
  have hA : DataW.TrodAll enc Tagg.prog W 0 (fun _ => true) true Tagg.f10.params.toList args.toList ds p := hA0
  rw [Tagg.params10] at hA hval hsz
  obtain ⟨v0, vs0, d0, ds0, p0, q0, hargs, rfl, rfl, h0, r0⟩ := trodAll_cons hA
  obtain ⟨v1, vs1, d1, ds1, p1, q1, rfl, rfl, rfl, h1, r1⟩ := trodAll_cons r0
  obtain ⟨v2, vs2, d2, ds2, p2, q2, rfl, rfl, rfl, h2, r2⟩ := trodAll_cons r1
  obtain ⟨v3, vs3, d3, ds3, p3, q3, rfl, rfl, rfl, h3, r3⟩ := trodAll_cons r2
  obtain ⟨v4, vs4, d4, ds4, p4, q4, rfl, rfl, rfl, h4, r4⟩ := trodAll_cons r3
  obtain ⟨rfl, rfl, rfl⟩ := trodAll_nil r4
  obtain rfl : args = #[v0, v1, v2, v3, v4] := by cases args; simp_all
  obtain ⟨rfl, rfl⟩ := trodVars_none hV
  obtain ⟨a0, rfl, rfl, rfl, w0⟩ := open_int Tagg.underlying3 (hval 0 3 v0 rfl rfl) h0
  obtain ⟨a1, rfl, rfl, rfl, w1⟩ := open_int Tagg.underlying3 (hval 1 3 v1 rfl rfl) h1
  obtain ⟨a2, rfl, rfl, rfl, w2⟩ := open_int Tagg.underlying3 (hval 2 3 v2 rfl rfl) h2
  obtain ⟨a3, rfl, rfl, rfl, w3⟩ := open_int Tagg.underlying3 (hval 3 3 v3 rfl rfl) h3
  obtain ⟨a4, rfl, rfl, rfl, w4⟩ := open_int Tagg.underlying3 (hval 4 3 v4 rfl rfl) h4
  clear hA0 hval0 hsz
  obtain ⟨n, hn, hn2⟩ := and_1023 a3
  refine (matRefuses_walk a0 a1 a2 a3 a4 n hn hn2 W).mono fun e W' ⟨he, bel⟩ => ?_
  subst he
  exact ⟨_, rfl, _, _, _, [], _, [], hW', trodAll_mk1 (shut_bool Tagg.underlying4 _), (trodAll_cons_mk (shut_int Tagg.underlying3 w0) (trodAll_cons_mk (shut_int Tagg.underlying3 w1) (trodAll_cons_mk (shut_int Tagg.underlying3 w2) (trodAll_cons_mk (shut_int Tagg.underlying3 w3) (trodAll_cons_mk (shut_int Tagg.underlying3 w4) trodAll_mk0))))), rfl, bel.frame _, fun h => by cases h⟩

theorem over : Rows.matRefusesRow.holds Tagg.pinned (OpenSpec.ofChange Rows.matRefusesSpec) :=
  OpenClaim.holds_of_wide 10 Tagg.f10 rfl rfl rfl rfl rfl rfl rfl ⟨rfl, rfl, rfl, rfl, rfl⟩ rfl rfl rfl rfl rfl (by kernel_rfl) Tagg.func10 (by kernel_rfl)
    (of_decide_eq_true (by kernel_rfl)) (by unfold Func.isWrapper; first | (rw [if_pos (by decide +kernel)]; kernel_rfl) | (rw [if_neg (by decide +kernel)]; exact ⟨rfl, rfl⟩))
    (fun os started H enc _ => lifted os started H enc)

end Go.Proofs.Ygctag.matRefuses
namespace Go.Proofs.Ygctag
theorem matRefuses_proved : Rows.MatRefusesSaid := matRefuses.over
end Go.Proofs.Ygctag
