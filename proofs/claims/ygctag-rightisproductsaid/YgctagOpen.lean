import Derived.Test.YgctagBase
import Derived.Test.YgctagRows
import Derived.ProofKit
import Derived.OpenShut
import Derived.ShutString
import Derived.ChangeOld
import Derived.SizedLaws
namespace Go.Proofs.Ygctag
open Go.ChangeShapes Go.WideShapes Go.ChangeAt Go.RowKit

theorem own : ownKnob Tagg.prog.godebug = none := by kernel_rfl
theorem laidOut : laidOutB Tagg.prog = true := by kernel_rfl

theorem wf_bounds {k : IntKind} {n : Int} (h : (Lit.int k n).wf = true) : k.min ≤ n ∧ n ≤ k.max := by
  simpa [Lit.wf] using h
theorem wf_u8 {n : Int} (h : (Lit.int .u8 n).wf = true) : 0 ≤ n ∧ n ≤ 255 := wf_bounds h
theorem wf_u16 {n : Int} (h : (Lit.int .u16 n).wf = true) : 0 ≤ n ∧ n ≤ 65535 := wf_bounds h
theorem wf_u32 {n : Int} (h : (Lit.int .u32 n).wf = true) : 0 ≤ n ∧ n ≤ 4294967295 := wf_bounds h
theorem wf_u64 {n : Int} (h : (Lit.int .u64 n).wf = true) : 0 ≤ n ∧ n ≤ 18446744073709551615 := wf_bounds h
theorem wf_i32 {n : Int} (h : (Lit.int .i32 n).wf = true) : -2147483648 ≤ n ∧ n ≤ 2147483647 := wf_bounds h
theorem wf_i64 {n : Int} (h : (Lit.int .i64 n).wf = true) : -9223372036854775808 ≤ n ∧ n ≤ 9223372036854775807 := wf_bounds h

/-- What a walk is told of a slice of integers that came in. -/
structure IntArg (k : IntKind) (bytes : Nat) (w : World) (a : Option Addr) (len cap : Nat) (z : Nat → Int) : Prop where
  le : len ≤ cap
  reach : cap * bytes ≤ 140737488351232
  nil : a = none → len = 0 ∧ cap = 0
  sl : Sl w a len fun i => .int k (z i)
  wf : ∀ i, i < len → (Lit.int k (z i)).wf = true

theorem open_arg {H : Type} {enc : TypeId × Value → H} {W : World} {t e : TypeId} {k : IntKind} {bytes : Nat} {a : Option Addr} {len cap : Nat} {d : DataW H} {p : List MemPlace}
    (ht : Tagg.prog.underlying t = some (.slice e)) (he : Tagg.prog.underlying e = some (.int k)) (hc : Tagg.prog.cellsOf e = 1) (hby : Tagg.prog.bytesOf e = bytes)
    {ts : List TypeId} {ds : List (DataW H)} {j : Nat} (hsz : (DataW.weightsEach Tagg.prog ts ds).all (· ≤ reachBytes) = true) (hj : ts[j]? = some t) (hd : ds[j]? = some d)
    (h : DataW.Trod enc Tagg.prog W 0 (fun _ => true) true t (.slice a len cap) d p) : ∃ z, IntArg k bytes W a len cap z := by
  obtain ⟨fuel, hf⟩ := h
  rcases open_ints ht he hc hf with ⟨hcs, hx⟩ | ⟨x, l, c, zs, hcs, _, hl, hm, hz, hx, hcell, hwz⟩
  · simp [Value.cells] at hcs
    obtain ⟨rfl, rfl, rfl⟩ := hcs
    exact ⟨fun _ => 0, ⟨Nat.le_refl _, by simp, fun _ => ⟨rfl, rfl⟩, Sl.zero _ _ _, fun i hi => absurd hi (Nat.not_lt_zero i)⟩⟩
  · simp [Value.cells] at hcs
    obtain ⟨rfl, rfl, rfl⟩ := hcs
    simp only [Prod.mk.injEq] at hx
    obtain ⟨rfl, rfl⟩ := hx
    simp only [if_true] at hz
    have := sized_slice hsz hj hd ht
    rw [hby] at this
    simp only [lits, List.length_map, List.length_take, List.length_drop, reachBytes] at this
    refine ⟨fun i => zs.getD i 0, ⟨hl, ?_, (fun h => by cases h), (fun i hi => ?_), (fun i hi => ?_)⟩⟩
    · rw [hz] at this
      rwa [show min len cap + (cap - len) = cap by omega] at this
    · have hci := hcell i (by omega)
      obtain ⟨b, off, spot⟩ := x
      have hs : spot = none := by
        simpa [Addr.add] using World.cell?_spot (hcell 0 (by omega))
      subst hs
      exact ⟨b, off, rfl, by rw [← addr_add]; exact hci⟩
    · have hi2 : i < zs.length := by omega
      show (Lit.int k (zs.getD i 0)).wf = true
      rw [List.getD_eq_getElem?_getD, List.getElem?_eq_getElem hi2]
      exact hwz _ (List.getElem_mem hi2)

end Go.Proofs.Ygctag
