import Derived.Test.YgctagMatBlk
namespace Go.Proofs.Ygctag
open Go.RowKit

set_option maxRecDepth 100000 in
set_option maxHeartbeats 2000000 in
theorem mul_bad (r1 c1 t1 : Int) (a1 : Option Addr) (n1 cap1 : Nat) (r2 c2 t2 : Int) (a2 : Option Addr) (n2 cap2 : Nat) (w : World) (hn1 : n1 ≤ 140737488355328) (hn2 : n2 ≤ 140737488355328) (hbad : fitsB r1 c1 t1 n1 r2 c2 t2 n2 = false) :
    Calls Tagg.prog 41 #[matV r1 c1 t1 a1 n1 cap1, matV r2 c2 t2 a2 n2 cap2] w fun e w' => e = .returned (.tuple #[matV 0 0 0 none 0 0, .bool false]) ∧ Below w.heap.size w w' := by
  have hF := fun w => fits_any r1 c1 t1 a1 n1 cap1 r2 c2 t2 a2 n2 cap2 w hn1 hn2
  rw [hbad] at hF
  unfold matV at hF ⊢
  go_enter Tagg.func41, Tagg.ntmps41
  go_wp2_with fail
  with_reducible refine (hF _).mono ?_
  rintro e w1 ⟨rfl, hb1⟩
  have sz1 := hb1.size
  simp only [Deep.nblk_alloc] at sz1
  have bZ : Box w1 (w.heap.size + 1 + 1) (.int .i64 0) (.int .i64 0) (.int .i64 0) (.slice none 0 0) := (Box.new_at ((w.alloc _).alloc _) (by simp) _ _ _ _).below hb1
  have hbel : Below w.heap.size w w1 := ((((Below.refl _ _).alloc (Nat.le_refl _) _).alloc (by simp) _).alloc (by simp; omega) _).trans (hb1.mono (by simp; omega))
  obtain ⟨z0, z1, z2, z3⟩ := bZ.cells
  obtain ⟨f0, f1, f2, f3⟩ := bZ.frozen
  clear hb1
  go_wp2
  exact bodyPost_ret (v := .tuple #[matV 0 0 0 none 0 0, .bool false]) (by simp [results, Tagg.results41, go_sem, matV, z0, z1, z2, z3]) rfl ⟨rfl, (((hbel.setCell (by simp; omega) _).setCell (by simp; omega) _).setCell (by simp; omega) _).setCell (by simp; omega) _⟩

set_option maxRecDepth 100000 in
set_option maxHeartbeats 2000000 in
theorem mulT_bad (r1 c1 t1 : Int) (a1 : Option Addr) (n1 cap1 : Nat) (r2 c2 t2 : Int) (a2 : Option Addr) (n2 cap2 : Nat) (w : World) (hn1 : n1 ≤ 140737488355328) (hn2 : n2 ≤ 140737488355328) (hbad : fitsB r1 c1 t1 n1 r2 c2 t2 n2 = false) :
    Calls Tagg.prog 45 #[matV r1 c1 t1 a1 n1 cap1, matV r2 c2 t2 a2 n2 cap2] w fun e w' => e = .returned (.tuple #[matV 0 0 0 none 0 0, .bool false]) ∧ Below w.heap.size w w' := by
  have hF := fun w => fits_any r1 c1 t1 a1 n1 cap1 r2 c2 t2 a2 n2 cap2 w hn1 hn2
  rw [hbad] at hF
  unfold matV at hF ⊢
  go_enter Tagg.func45, Tagg.ntmps45
  go_wp2_with fail
  with_reducible refine (hF _).mono ?_
  rintro e w1 ⟨rfl, hb1⟩
  have sz1 := hb1.size
  simp only [Deep.nblk_alloc] at sz1
  have bZ : Box w1 (w.heap.size + 1 + 1) (.int .i64 0) (.int .i64 0) (.int .i64 0) (.slice none 0 0) := (Box.new_at ((w.alloc _).alloc _) (by simp) _ _ _ _).below hb1
  have hbel : Below w.heap.size w w1 := ((((Below.refl _ _).alloc (Nat.le_refl _) _).alloc (by simp) _).alloc (by simp; omega) _).trans (hb1.mono (by simp; omega))
  obtain ⟨z0, z1, z2, z3⟩ := bZ.cells
  obtain ⟨f0, f1, f2, f3⟩ := bZ.frozen
  clear hb1
  go_wp2
  exact bodyPost_ret (v := .tuple #[matV 0 0 0 none 0 0, .bool false]) (by simp [results, Tagg.results45, go_sem, matV, z0, z1, z2, z3]) rfl ⟨rfl, (((hbel.setCell (by simp; omega) _).setCell (by simp; omega) _).setCell (by simp; omega) _).setCell (by simp; omega) _⟩

set_option maxRecDepth 100000 in
set_option maxHeartbeats 2000000 in
theorem mulB_bad (r1 c1 t1 : Int) (a1 : Option Addr) (n1 cap1 : Nat) (r2 c2 t2 : Int) (a2 : Option Addr) (n2 cap2 : Nat) (B : Int) (w : World) (hn1 : n1 ≤ 140737488355328) (hn2 : n2 ≤ 140737488355328) (hbad : fitsB r1 c1 t1 n1 r2 c2 t2 n2 = false) :
    Calls Tagg.prog 46 #[matV r1 c1 t1 a1 n1 cap1, matV r2 c2 t2 a2 n2 cap2, .int .i64 B] w fun e w' => e = .returned (.tuple #[matV 0 0 0 none 0 0, .bool false]) ∧ Below w.heap.size w w' := by
  have hF := fun w => fits_any r1 c1 t1 a1 n1 cap1 r2 c2 t2 a2 n2 cap2 w hn1 hn2
  rw [hbad] at hF
  unfold matV at hF ⊢
  go_enter Tagg.func46, Tagg.ntmps46
  go_wp2_with fail
  with_reducible refine (hF _).mono ?_
  rintro e w1 ⟨rfl, hb1⟩
  have sz1 := hb1.size
  simp only [Deep.nblk_alloc] at sz1
  have bZ : Box w1 (w.heap.size + 1 + 1) (.int .i64 0) (.int .i64 0) (.int .i64 0) (.slice none 0 0) := (Box.new_at ((w.alloc _).alloc _) (by simp) _ _ _ _).below hb1
  have hbel : Below w.heap.size w w1 := ((((Below.refl _ _).alloc (Nat.le_refl _) _).alloc (by simp) _).alloc (by simp; omega) _).trans (hb1.mono (by simp; omega))
  obtain ⟨z0, z1, z2, z3⟩ := bZ.cells
  obtain ⟨f0, f1, f2, f3⟩ := bZ.frozen
  clear hb1
  go_wp2
  exact bodyPost_ret (v := .tuple #[matV 0 0 0 none 0 0, .bool false]) (by simp [results, Tagg.results46, go_sem, matV, z0, z1, z2, z3]) rfl ⟨rfl, (((hbel.setCell (by simp; omega) _).setCell (by simp; omega) _).setCell (by simp; omega) _).setCell (by simp; omega) _⟩

set_option maxRecDepth 100000 in
set_option maxHeartbeats 2000000 in
theorem mulB_zero (r1 c1 t1 : Int) (a1 : Option Addr) (n1 cap1 : Nat) (r2 c2 t2 : Int) (a2 : Option Addr) (n2 cap2 : Nat) (w : World) (hn1 : n1 ≤ 140737488355328) (hn2 : n2 ≤ 140737488355328) (hok : fitsB r1 c1 t1 n1 r2 c2 t2 n2 = true) :
    Calls Tagg.prog 46 #[matV r1 c1 t1 a1 n1 cap1, matV r2 c2 t2 a2 n2 cap2, .int .i64 0] w fun e w' => e = .returned (.tuple #[matV 0 0 0 none 0 0, .bool false]) ∧ Below w.heap.size w w' := by
  have hF := fun w => fits_any r1 c1 t1 a1 n1 cap1 r2 c2 t2 a2 n2 cap2 w hn1 hn2
  rw [hok] at hF
  unfold matV at hF ⊢
  go_enter Tagg.func46, Tagg.ntmps46
  go_wp2_with fail
  with_reducible refine (hF _).mono ?_
  rintro e w1 ⟨rfl, hb1⟩
  have sz1 := hb1.size
  simp only [Deep.nblk_alloc] at sz1
  have bZ : Box w1 (w.heap.size + 1 + 1) (.int .i64 0) (.int .i64 0) (.int .i64 0) (.slice none 0 0) := (Box.new_at ((w.alloc _).alloc _) (by simp) _ _ _ _).below hb1
  have hbel : Below w.heap.size w w1 := ((((Below.refl _ _).alloc (Nat.le_refl _) _).alloc (by simp) _).alloc (by simp; omega) _).trans (hb1.mono (by simp; omega))
  obtain ⟨z0, z1, z2, z3⟩ := bZ.cells
  obtain ⟨f0, f1, f2, f3⟩ := bZ.frozen
  clear hb1
  go_wp2
  exact bodyPost_ret (v := .tuple #[matV 0 0 0 none 0 0, .bool false]) (by simp [results, Tagg.results46, go_sem, matV, z0, z1, z2, z3]) rfl ⟨rfl, (((hbel.setCell (by simp; omega) _).setCell (by simp; omega) _).setCell (by simp; omega) _).setCell (by simp; omega) _⟩

/-- Either it fits, and some matrix and true come back; or the zero matrix and false. -/
def MulRes (F : Bool) (w : World) (e : Ending) (w' : World) : Prop :=
  ∃ r c s a n cap, e = .returned (.tuple #[matV r c s a n cap, .bool F]) ∧ (F = false → r = 0 ∧ c = 0 ∧ s = 0 ∧ a = none ∧ n = 0 ∧ cap = 0) ∧ Below w.heap.size w w'

theorem nat_of_sound {r c s : Int} {n : Nat} (h : soundB r c s n = true) : ∃ r' c' s' : Nat, r = r' ∧ c = c' ∧ s = s' := by
  have := of_decide_eq_true h
  exact ⟨r.toNat, c.toNat, s.toNat, by omega, by omega, by omega⟩

theorem fits_split {r1 c1 t1 : Int} {n1 : Nat} {r2 c2 t2 : Int} {n2 : Nat} (h : fitsB r1 c1 t1 n1 r2 c2 t2 n2 = true) : soundB r1 c1 t1 n1 = true ∧ soundB r2 c2 t2 n2 = true ∧ c1 = r2 := by
  unfold fitsB at h
  simp only [Bool.and_eq_true, beq_iff_eq] at h
  exact ⟨h.1.1, h.1.2, h.2⟩

theorem mul_gen (r1 c1 t1 : Int) (a1 : Option Addr) (n1 cap1 : Nat) (r2 c2 t2 : Int) (a2 : Option Addr) (n2 cap2 : Nat) (x y : Nat → Nat) (w : World) (hn1 : n1 ≤ 140737488355328) (hn2 : n2 ≤ 140737488355328) (hc1 : n1 ≤ cap1)
    (hx : Sl w a1 n1 fun t => .float .f64 (x t)) (hy : Sl w a2 n2 fun t => .float .f64 (y t)) :
    Calls Tagg.prog 41 #[matV r1 c1 t1 a1 n1 cap1, matV r2 c2 t2 a2 n2 cap2] w (MulRes (fitsB r1 c1 t1 n1 r2 c2 t2 n2) w) := by
  cases hF : fitsB r1 c1 t1 n1 r2 c2 t2 n2
  · refine (mul_bad r1 c1 t1 a1 n1 cap1 r2 c2 t2 a2 n2 cap2 w hn1 hn2 hF).mono ?_
    rintro e w' ⟨rfl, hb⟩
    exact ⟨0, 0, 0, none, 0, 0, rfl, fun _ => ⟨rfl, rfl, rfl, rfl, rfl, rfl⟩, hb⟩
  · obtain ⟨h1, h2, rfl⟩ := fits_split hF
    obtain ⟨r, k, s1, rfl, rfl, rfl⟩ := nat_of_sound h1
    obtain ⟨k', m, s2, e1, rfl, rfl⟩ := nat_of_sound h2
    obtain rfl : k = k' := by omega
    refine (mul_ok r k m s1 s2 a1 a2 n1 cap1 n2 cap2 x y w hn1 hn2 hc1 h1 h2 hx hy).mono ?_
    rintro e w' ⟨g, rfl, _, _, hb⟩
    exact ⟨_, _, _, _, _, _, rfl, (fun h => by cases h), hb⟩

theorem mulT_gen (r1 c1 t1 : Int) (a1 : Option Addr) (n1 cap1 : Nat) (r2 c2 t2 : Int) (a2 : Option Addr) (n2 cap2 : Nat) (x y : Nat → Nat) (w : World) (hn1 : n1 ≤ 140737488355328) (hn2 : n2 ≤ 140737488355328) (hc1 : n1 ≤ cap1) (hc2 : n2 ≤ cap2)
    (hx : Sl w a1 n1 fun t => .float .f64 (x t)) (hy : Sl w a2 n2 fun t => .float .f64 (y t)) :
    Calls Tagg.prog 45 #[matV r1 c1 t1 a1 n1 cap1, matV r2 c2 t2 a2 n2 cap2] w (MulRes (fitsB r1 c1 t1 n1 r2 c2 t2 n2) w) := by
  cases hF : fitsB r1 c1 t1 n1 r2 c2 t2 n2
  · refine (mulT_bad r1 c1 t1 a1 n1 cap1 r2 c2 t2 a2 n2 cap2 w hn1 hn2 hF).mono ?_
    rintro e w' ⟨rfl, hb⟩
    exact ⟨0, 0, 0, none, 0, 0, rfl, fun _ => ⟨rfl, rfl, rfl, rfl, rfl, rfl⟩, hb⟩
  · obtain ⟨h1, h2, rfl⟩ := fits_split hF
    obtain ⟨r, k, s1, rfl, rfl, rfl⟩ := nat_of_sound h1
    obtain ⟨k', m, s2, e1, rfl, rfl⟩ := nat_of_sound h2
    obtain rfl : k = k' := by omega
    refine (mulT_ok r k m s1 s2 a1 a2 n1 cap1 n2 cap2 x y w hn1 hn2 hc1 hc2 h1 h2 hx hy).mono ?_
    rintro e w' ⟨g, rfl, _, _, hb⟩
    exact ⟨_, _, _, _, _, _, rfl, (fun h => by cases h), hb⟩

theorem mulB_gen (r1 c1 t1 : Int) (a1 : Option Addr) (n1 cap1 : Nat) (r2 c2 t2 : Int) (a2 : Option Addr) (n2 cap2 : Nat) (x y : Nat → Nat) (w : World) (hn1 : n1 ≤ 140737488355328) (hn2 : n2 ≤ 140737488355328) (hc1 : n1 ≤ cap1) (hc2 : n2 ≤ cap2)
    (hx : Sl w a1 n1 fun t => .float .f64 (x t)) (hy : Sl w a2 n2 fun t => .float .f64 (y t)) :
    Calls Tagg.prog 46 #[matV r1 c1 t1 a1 n1 cap1, matV r2 c2 t2 a2 n2 cap2, .int .i64 8] w (MulRes (fitsB r1 c1 t1 n1 r2 c2 t2 n2) w) := by
  cases hF : fitsB r1 c1 t1 n1 r2 c2 t2 n2
  · refine (mulB_bad r1 c1 t1 a1 n1 cap1 r2 c2 t2 a2 n2 cap2 8 w hn1 hn2 hF).mono ?_
    rintro e w' ⟨rfl, hb⟩
    exact ⟨0, 0, 0, none, 0, 0, rfl, fun _ => ⟨rfl, rfl, rfl, rfl, rfl, rfl⟩, hb⟩
  · obtain ⟨h1, h2, rfl⟩ := fits_split hF
    obtain ⟨r, k, s1, rfl, rfl, rfl⟩ := nat_of_sound h1
    obtain ⟨k', m, s2, e1, rfl, rfl⟩ := nat_of_sound h2
    obtain rfl : k = k' := by omega
    refine (mulB_ok r k m s1 s2 8 a1 a2 n1 cap1 n2 cap2 x y w hn1 hn2 (by omega) (by omega) hc1 hc2 h1 h2 hx hy).mono ?_
    rintro e w' ⟨g, rfl, _, _, hb⟩
    exact ⟨_, _, _, _, _, _, rfl, (fun h => by cases h), hb⟩

theorem mulB_none (r1 c1 t1 : Int) (a1 : Option Addr) (n1 cap1 : Nat) (r2 c2 t2 : Int) (a2 : Option Addr) (n2 cap2 : Nat) (w : World) (hn1 : n1 ≤ 140737488355328) (hn2 : n2 ≤ 140737488355328) :
    Calls Tagg.prog 46 #[matV r1 c1 t1 a1 n1 cap1, matV r2 c2 t2 a2 n2 cap2, .int .i64 0] w fun e w' => e = .returned (.tuple #[matV 0 0 0 none 0 0, .bool false]) ∧ Below w.heap.size w w' := by
  cases hF : fitsB r1 c1 t1 n1 r2 c2 t2 n2
  · exact mulB_bad r1 c1 t1 a1 n1 cap1 r2 c2 t2 a2 n2 cap2 0 w hn1 hn2 hF
  · exact mulB_zero r1 c1 t1 a1 n1 cap1 r2 c2 t2 a2 n2 cap2 w hn1 hn2 hF
end Go.Proofs.Ygctag
