import Derived.Test.YgctagWideP
import Derived.Deep.DeepCutAuto
import Derived.Deep.CutBlock
namespace Go.Proofs.Ygctag
open Go.RowKit

/-- A grid in its block: n points in block xb, R rows, C columns, the root. -/
def GBox (w : World) (hb xb n R C rt : Nat) : Prop := w.heap[hb]? = some (.cells #[.slice (some ⟨xb, 0, none⟩) n n, .int .i64 (R : Int), .int .i64 (C : Int), .int .u32 (rt : Int)] 128 (0, 0))
namespace GBox
variable {w w' : World} {hb xb n R C rt : Nat}
theorem cells (h : GBox w hb xb n R C rt) :
    w.cell? ⟨hb, 0, none⟩ = some (.slice (some ⟨xb, 0, none⟩) n n) ∧ w.cell? ⟨hb, 1, none⟩ = some (.int .i64 (R : Int)) ∧ w.cell? ⟨hb, 2, none⟩ = some (.int .i64 (C : Int)) ∧ w.cell? ⟨hb, 3, none⟩ = some (.int .u32 (rt : Int)) := by
  unfold GBox at h; simp [World.cell?, h]
theorem lt (h : GBox w hb xb n R C rt) : hb < w.heap.size := by
  obtain ⟨h, _⟩ := Array.getElem?_eq_some_iff.1 h; exact h
theorem below (h : GBox w hb xb n R C rt) (hw : Below w.heap.size w w') : GBox w' hb xb n R C rt := (hw.block _ h.lt).trans h
theorem grown {g : Nat} (h : GBox w hb xb n R C rt) (hw : w.grownBy w' (some g)) (hne : hb ≠ g) : GBox w' hb xb n R C rt := (hw.block _ h.lt (by simpa using hne)).trans h
theorem draws (h : GBox w hb xb n R C rt) (q : Nat) : GBox (w.drewN q) hb xb n R C rt := h
end GBox

theorem row119 (hb xb n R C rt r : Nat) (w : World) (hg : GBox w hb xb n R C rt) (hr : (r + 1) * C ≤ n) (hn : n ≤ 4194304) (hC0 : 0 < C) (hC : C ≤ 4194304) (hR : r ≤ 4194304) :
    Calls Tagg.prog 119 #[.pointer (some ⟨hb, 0, none⟩), .int .i64 (r : Int)] w fun e w' => e = .returned (.slice (some ⟨xb, r * C, none⟩) C C) ∧ ∃ q, w' = w.drewN q := by
  obtain ⟨c0, c1, c2, c3⟩ := hg.cells
  obtain ⟨lo, hlo⟩ : ∃ lo, lo = r * C := ⟨_, rfl⟩
  have d1 : (r : Int) * (C : Int) = (lo : Int) := by rw [hlo, Int.natCast_mul]
  rw [Nat.add_mul, Nat.one_mul, ← hlo] at hr
  rw [← hlo]
  have d2 : ((r : Int) + 1) * (C : Int) = (lo : Int) + C := by rw [Int.add_mul, Int.one_mul, d1]
  have v1 : IntKind.i64.wrap (lo : Int) = (lo : Int) := IntWalk.i64_in _ ⟨by omega, by omega⟩
  have v2 : IntKind.i64.wrap ((lo : Int) + C) = (lo : Int) + C := IntWalk.i64_in _ ⟨by omega, by omega⟩
  have i1 : (lo : Int) + C ≤ n := by omega
  have i2 : ((lo : Int) + C).toNat = lo + C := by omega
  have i4 : ¬ C = 0 := by omega
  clear hlo
  go_enter Tagg.func119, Tagg.ntmps119
  go_wp2
  go_quiet (fail)
  go_wp2
  go_ret
  exact ⟨rfl, _, rfl⟩

theorem change_ok (k g N off n cap : Nat) (back : Bool) (F f : Nat → Int) (w : World) (hk : k ≤ 11) (hn : n = 2 ^ k) (hcap : n ≤ cap) (hx : Vec w g N off n F f) (hF : ∀ i, i < n → 0 ≤ F i ∧ F i < 998244353) :
    Calls Tagg.prog 127 #[.slice (some ⟨g, off, none⟩) n cap, .bool back] w fun e w' => (∃ v, e = .returned v) ∧ Vec w' g N off n (chg back k n F) f ∧ w.grownBy w' (some g) := by
  have h1 := forward_ok k g N off n cap F f w hk hn hcap hx hF
  have h2 := inverse_ok k g N off n cap F f w hk hn hcap hx hF
  clear hn hx hF
  go_enter Tagg.func127, Tagg.ntmps127
  cases back with
  | true =>
    clear h1
    go_wp2_with fail
    with_reducible refine h2.mono ?_
    rintro e w1 ⟨rfl, hv, hg⟩
    have hfin : Hid (Vec w1 g N off n (chg true k n F) f ∧ w.grownBy w1 (some g)) := ⟨hv, hg⟩
    clear hv hg h2
    go_wp2
    go_end0
    exact ⟨⟨_, rfl⟩, hfin.out.1, hfin.out.2⟩
  | false =>
    clear h2
    go_wp2_with fail
    with_reducible refine h1.mono ?_
    rintro e w1 ⟨rfl, hv, hg⟩
    have hfin : Hid (Vec w1 g N off n (chg false k n F) f ∧ w.grownBy w1 (some g)) := ⟨hv, hg⟩
    clear hv hg h1
    go_wp2
    go_end0
    exact ⟨⟨_, rfl⟩, hfin.out.1, hfin.out.2⟩
end Go.Proofs.Ygctag
