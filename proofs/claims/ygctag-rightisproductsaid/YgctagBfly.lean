import Derived.Test.YgctagVec
import Derived.Deep.DeepCutAuto
import Derived.Deep.CutBlock
import Derived.Deep.RegionHeld3
namespace Go.Proofs.Ygctag
open Go.RowKit

/-- An entry below 4P brought below 2P. -/
def ured (x : Int) : Int := if x < 1996488706 then x else x - 1996488706
/-- The butterflies of a block. -/
def bfly (t : Nat → Int) (h : Nat) (F : Nat → Int) (j : Nat) : Int :=
  if j < h then ured (F j) + tms (t j) (F (h + j)) else ured (F (j - h)) + 1996488706 - tms (t (j - h)) (F j)
/-- The first q of them done. -/
def bflyAt (t : Nat → Int) (h q : Nat) (F : Nat → Int) (j : Nat) : Int := if j < q ∨ (h ≤ j ∧ j < h + q) then bfly t h F j else F j

/-- Cells from ro of block rb hold the factors t 0 .. t (n - 1). -/
def Facs (w : World) (rb ro n : Nat) (t : Nat → Int) : Prop := ∀ j, j < n → w.cell? ⟨rb, ro + j * 2, none⟩ = some (.int .u32 (t j)) ∧ w.cell? ⟨rb, ro + j * 2 + 1, none⟩ = some (.int .u32 (rat (t j)))
theorem Facs.below {w w' : World} {rb ro n : Nat} {t : Nat → Int} (h : Facs w rb ro n t) (hb : Below w.heap.size w w') : Facs w' rb ro n t := by
  intro j hj
  obtain ⟨h1, h2⟩ := h j hj
  have l1 := cell_lt h1
  exact ⟨by rw [(bcell hb).1 _ _ l1]; exact h1, by rw [(bcell hb).1 _ _ l1]; exact h2⟩
theorem Facs.grown {w w' : World} {rb ro n g : Nat} {t : Nat → Int} (h : Facs w rb ro n t) (hb : w.grownBy w' (some g)) (hne : rb ≠ g) : Facs w' rb ro n t := by
  intro j hj
  obtain ⟨h1, h2⟩ := h j hj
  have l1 := cell_lt h1
  have hblk := hb.block rb l1 (by simpa using hne)
  exact ⟨by rw [World.cell?_of_block hblk]; exact h1, by rw [World.cell?_of_block hblk]; exact h2⟩

theorem ured_bound {x : Int} (h0 : 0 ≤ x) (h : x < 3992977412) : 0 ≤ ured x ∧ ured x < 1996488706 ∧ Eqm (ured x) x := by
  unfold ured
  split
  · exact ⟨h0, by omega, Eqm.refl _⟩
  · exact ⟨by omega, by omega, ⟨-2, by omega⟩⟩

theorem cell_below {W W' : World} {b o : Nat} {v : Value} (hb : Below W.heap.size W W') (h : W.cell? ⟨b, o, none⟩ = some v) : W'.cell? ⟨b, o, none⟩ = some v := by
  rw [(bcell hb).1 _ _ (cell_lt h)]; exact h
theorem held_three {X W W' : World} {b1 o1 b2 o2 b3 o3 : Nat} {v1 v2 v3 : Value} (hb : Below W.heap.size W W')
    (hS : W.cell? ⟨b1, o1, none⟩ = some v1 ∧ W.cell? ⟨b2, o2, none⟩ = some v2 ∧ W.cell? ⟨b3, o3, none⟩ = some v3 ∧ Below X.heap.size X W) :
    W'.cell? ⟨b1, o1, none⟩ = some v1 ∧ W'.cell? ⟨b2, o2, none⟩ = some v2 ∧ W'.cell? ⟨b3, o3, none⟩ = some v3 ∧ Below X.heap.size X W' :=
  ⟨cell_below hb hS.1, cell_below hb hS.2.1, cell_below hb hS.2.2.1, hS.2.2.2.trans (hb.mono hS.2.2.2.size)⟩

theorem bfly_next (t : Nat → Int) (h q : Nat) (F : Nat → Int) (hq : q < h) (m : Nat) (hm : m < 2 * h) :
    upd (upd (bflyAt t h q F) q (ured (F q) + tms (t q) (F (h + q)))) (h + q) (ured (F q) + 1996488706 - tms (t q) (F (h + q))) m = bflyAt t h (q + 1) F m := by
  unfold upd
  by_cases h1 : m = h + q
  · subst h1
    rw [if_pos rfl]
    unfold bflyAt bfly
    rw [if_pos (by omega), if_neg (by omega), Nat.add_sub_cancel_left]
  · rw [if_neg h1]
    by_cases h2 : m = q
    · subst h2
      rw [if_pos rfl]
      unfold bflyAt bfly
      rw [if_pos (by omega), if_pos hq]
    · rw [if_neg h2]
      unfold bflyAt
      by_cases h3 : m < q ∨ (h ≤ m ∧ m < h + q)
      · rw [if_pos h3, if_pos (by omega)]
      · rw [if_neg h3, if_neg (by omega)]

set_option maxRecDepth 100000 in
set_option maxHeartbeats 2000000 in
theorem block_ok (g N off h rb ro : Nat) (F f t : Nat → Int) (w : World) (hh : h ≤ 1024) (hx : Vec w g N off (2 * h) F f) (hne : rb ≠ g) (hr : Facs w rb ro h t)
    (hF : ∀ j, j < 2 * h → 0 ≤ F j ∧ F j < 3992977412) (ht : ∀ j, j < h → 0 ≤ t j ∧ t j < 998244353) :
    Calls Tagg.prog 134 #[.slice (some ⟨g, off, none⟩) h h, .slice (some ⟨g, off + h, none⟩) h h, .slice (some ⟨rb, ro, none⟩) h h] w fun e w' => e = .returned (.tuple #[]) ∧ Vec w' g N off (2 * h) (bfly t h F) f ∧ w.grownBy w' (some g) := by
  go_enter Tagg.func134, Tagg.ntmps134
  go_wp2_with fail
  go_loopw [6] (fun vi wr => ∃ q : Nat, q ≤ h ∧ vi = .int .i64 q ∧ w.grownBy wr (some g) ∧ Vec wr g N off (2 * h) (bflyAt t h q F) f) (fun vi _ => h - (intOf vi).toNat)
  case atStart => exact ⟨0, by omega, rfl, ⟨rfl, rfl, rfl, Nat.le_refl _, fun _ _ _ => rfl⟩, hx.congr fun i _ => by unfold bflyAt; rw [if_neg (by omega)]⟩
  case round =>
    obtain ⟨q, hq, rfl, hgr, hv⟩ := hrel
    by_cases hqh : q < h
    · have c1 := hv.cell (j := q) (by omega)
      have c2 := hv.cell (j := h + q) (by omega)
      have e1 : bflyAt t h q F q = F q := by unfold bflyAt; rw [if_neg (by omega)]
      have e2 : bflyAt t h q F (h + q) = F (h + q) := by unfold bflyAt; rw [if_neg (by omega)]
      rw [e1] at c1
      rw [e2, ← Nat.add_assoc] at c2
      obtain ⟨r1, r2⟩ := (hr.grown hgr hne) q hqh
      obtain ⟨t0, t1⟩ := ht q hqh
      obtain ⟨a0, a1⟩ := hF q (by omega)
      obtain ⟨b0, b1⟩ := hF (h + q) (by omega)
      have hT := fun w => times_ok (t q) (F (h + q)) t0 t1 b0 (by omega) w
      obtain ⟨u0, u1, -⟩ := ured_bound a0 a1
      obtain ⟨v0, v1, -⟩ := tms_bound (t q) (F (h + q)) t0 t1 b0 (by omega)
      have hiq : (q : Int) < h := by omega
      go_upto_if 32 with fail
      go_cut [7] (fun u wx => u = .int .u32 (ured (F q)) ∧ wr = wx)
      case first =>
        clear hv hgr hx hr hF ht hT e1 e2 r1 r2 c2
        by_cases hu : F q < 1996488706
        · have eu : ured (F q) = F q := by unfold ured; rw [if_pos hu]
          clear u0 u1
          go_wp2
          go_meet
          exact ⟨by rw [eu], rfl⟩
        · have eu : ured (F q) = F q - 1996488706 := by unfold ured; rw [if_neg hu]
          have hu' : 1996488706 ≤ F q := by omega
          clear u0 u1
          go_wp2
          go_meet
          exact ⟨by rw [eu], rfl⟩
      case rest =>
        obtain ⟨rfl, rfl⟩ := hcut
        clear hr hF ht hx
        clear e1 e2
        go_upto_region 6 with fail
        go_cut [8] (fun v wx => v = .int .u32 (tms (t q) (F (h + q))) ∧ Below wr.heap.size wr wx)
        case first =>
          go_region_held3 (fun W => W.cell? ⟨rb, ro + q * 2, none⟩ = some (.int .u32 (t q)) ∧ W.cell? ⟨rb, ro + q * 2 + 1, none⟩ = some (.int .u32 (rat (t q))) ∧ W.cell? ⟨g, off + h + q, none⟩ = some (.int .u32 (F (h + q))) ∧ Below wr.heap.size wr W)
            (first | exact ⟨r1, r2, c2, ⟨rfl, rfl, rfl, Nat.le_refl _, fun _ _ => rfl⟩⟩ | exact held_three (by assumption) (by assumption))
            (first | (go_at_call 130; with_reducible refine (hT _).mono ?_; rintro e w1 ⟨rfl, hb1⟩))
          go_wp2_with fail
          go_meet
          exact ⟨rfl, (by assumption : _ ∧ _ ∧ _ ∧ Below wr.heap.size wr w1).2.2.2⟩
        case rest =>
          obtain ⟨rfl, hbc⟩ := hcut
          have d1 := cell_below hbc c1
          have d2 := cell_below hbc c2
          have hvc := hv.below hbc
          have f1 := hvc.frozen (off + q)
          have f2 := hvc.frozen (off + h + q)
          have hgc := grown_below hgr hbc
          have hnext := ((hvc.set (j := q) (by omega) (ured (F q) + tms (t q) (F (h + q)))).set (j := h + q) (by omega) (ured (F q) + 1996488706 - tms (t q) (F (h + q)))).congr (G := bflyAt t h (q + 1) F) (fun m hm => bfly_next t h q F hqh m hm)
          rw [← Nat.add_assoc] at hnext
          have hg2 : ∀ a b, w.grownBy ((wc.setCell ⟨g, off + q, none⟩ a).setCell ⟨g, off + h + q, none⟩ b) (some g) := fun a b => grown_set (grown_set hgc 0 _ _) 0 _ _
          have hall : Hid (w.grownBy ((wc.setCell ⟨g, off + q, none⟩ (.int .u32 (ured (F q) + tms (t q) (F (h + q))))).setCell ⟨g, off + h + q, none⟩ (.int .u32 (ured (F q) + 1996488706 - tms (t q) (F (h + q))))) (some g) ∧
              Vec ((wc.setCell ⟨g, off + q, none⟩ (.int .u32 (ured (F q) + tms (t q) (F (h + q))))).setCell ⟨g, off + h + q, none⟩ (.int .u32 (ured (F q) + 1996488706 - tms (t q) (F (h + q))))) g N off (2 * h) (bflyAt t h (q + 1) F) f) := ⟨hg2 _ _, hnext⟩
          clear c1 c2 r1 r2 hv hvc hgc hgr hnext hg2 hT hbc
          have hne1 : ¬ off + h + q = off + q := by omega
          have hne2 : ¬ off + q = off + h + q := by omega
          generalize ured (F q) = U at *
          generalize tms (t q) (F (h + q)) = V at *
          go_wp2
          exact ⟨⟨q + 1, by omega, by go_num, hall.out⟩, by simp [intOf]; omega⟩
    · have e : q = h := by omega
      subst e
      have hv2 := hv.congr (G := bfly t q F) (fun m hm => by unfold bflyAt; rw [if_pos (by omega)])
      clear hv hr hF ht hx
      go_wp2
      go_end0
      exact ⟨rfl, hv2, hgr⟩
end Go.Proofs.Ygctag
