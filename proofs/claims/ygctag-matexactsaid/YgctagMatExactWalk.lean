import Derived.Test.YgctagMatBlk
import Derived.Test.YgctagMatEntriesWalk
import Derived.Test.YgctagIntC
import Derived.Test.YgctagMatX
namespace Go.Proofs.Ygctag
open Go.RowKit

theorem row_zero (z : Nat → Int) {w : World} {g N : Nat} (h : w.rowIs g 46 N (fun i => .float .f64 (pat z 0 i))) : w.rowIs g 46 N (fun _ => .float .f64 0) := h.congr (fun i _ => by simp [pat])
theorem Sl.grown {w w' : World} {a : Option Addr} {n g : Nat} {f : Nat → Value} (h : Sl w a n f) (hg : w.grownBy w' (some g)) (hne : 0 < n → ∀ b off, a = some ⟨b, off, none⟩ → b ≠ g) : Sl w' a n f := by
  intro i hi
  obtain ⟨b, off, e, c⟩ := h i hi
  exact ⟨b, off, e, grown_cell hg (hne (by omega) b off e) c⟩
theorem Sl.low {w : World} {a : Option Addr} {n g : Nat} {f : Nat → Value} (h : Sl w a n f) (hg : w.heap.size ≤ g) : 0 < n → ∀ b off, a = some ⟨b, off, none⟩ → b ≠ g := by
  intro h0 b off e
  obtain ⟨b', off', e', c⟩ := h 0 h0
  have := cell_lt c
  rw [e] at e'
  cases e'
  dsimp only at this
  omega
theorem row_grown {w w' : World} {b g : Nat} {t : TypeId} {n : Nat} {f : Nat → Value} (h : w.rowIs b t n f) (hg : w.grownBy w' (some g)) (hne : b ≠ g) : w'.rowIs b t n f := h.of_block (hg.block b h.lt (by simpa using hne))

theorem absF_eq {v x : Nat} (h : absF v = some x) : v = x := by
  unfold absF at h
  split at h
  · cases h
  · exact Option.some.inj h

set_option maxRecDepth 100000 in
set_option maxHeartbeats 4000000 in
theorem matExact_walk (n k m block : Int) (hn : 0 ≤ n) (hk : 0 ≤ k) (hk2 : k ≤ 255) (hm : 0 ≤ m) (hbl : 0 ≤ block) (hbl2 : block ≤ 65535) (a1 a2 : Option Addr) (len1 cap1 len2 cap2 : Nat) (z1 z2 : Nat → Int) (w : World)
    (hl1 : len1 ≤ 140737488355328) (hl2 : len2 ≤ 140737488355328) (hx : Sl w a1 len1 fun i => .int .i32 (z1 i)) (hy : Sl w a2 len2 fun i => .int .i32 (z2 i))
    (hz1 : ∀ i, i < len1 → -2147483648 ≤ z1 i ∧ z1 i ≤ 2147483647) (hz2 : ∀ i, i < len2 → -2147483648 ≤ z2 i ∧ z2 i ≤ 2147483647) :
    Calls Tagg.prog 9 #[.int .u8 n, .int .u8 k, .int .u8 m, .int .u16 block, .slice a1 len1 cap1, .slice a2 len2 cap2] w fun e w' => e = .returned (.bool true) ∧ Below w.heap.size w w' := by
  have br : (n % 71).toNat ≤ 70 := by omega
  have bm : (m % 71).toNat ≤ 70 := by omega
  have bK : (k % 65 % 71).toNat ≤ 64 := by omega
  have M1 := fun w => matrixOf' n (k % 65) 0 hn (by omega) (by omega) none 0 0 (fun _ => 0) w (by omega) (Sl.zero _ _ _)
  have M2 := fun w => matrixOf' (k % 65) m 1 (by omega) hm (by omega) none 0 0 (fun _ => 0) w (by omega) (Sl.zero _ _ _)
  rw [show ((0 : Int) % 4).toNat = 0 by decide] at M1
  rw [show ((1 : Int) % 4).toNat = 1 by decide] at M2
  generalize (n % 71).toNat = r at *
  generalize (k % 65 % 71).toNat = K at *
  generalize (m % 71).toNat = M at *
  have sA := sound_gap r K 0 (by omega) (by omega)
  have sB := sound_gap K M 1 (by omega) (by omega)
  have nA : r * (K + 0) ≤ 10000 := by have : r * (K + 0) ≤ 70 * 64 := Nat.mul_le_mul br (by omega); omega
  have nB : K * (M + 1) ≤ 10000 := by have : K * (M + 1) ≤ 64 * 71 := Nat.mul_le_mul bK (by omega); omega
  obtain ⟨s1, hs1⟩ : ∃ s1, s1 = K + 0 := ⟨_, rfl⟩
  obtain ⟨s2, hs2⟩ : ∃ s2, s2 = M + 1 := ⟨_, rfl⟩
  have bs1 : s1 ≤ 64 := by omega
  have bs2 : s2 ≤ 71 := by omega
  rw [← hs1] at M1 sA nA
  rw [← hs2] at M2 sB nB
  obtain ⟨dA, hdA⟩ : ∃ d, d = r * s1 := ⟨_, rfl⟩
  obtain ⟨dB, hdB⟩ : ∃ d, d = K * s2 := ⟨_, rfl⟩
  rw [← hdA] at M1 sA nA
  rw [← hdB] at M2 sB nB
  clear hs1 hs2 hdA hdB
  obtain ⟨bl, rfl⟩ := Int.eq_ofNat_of_zero_le hbl
  have sC := sound_new r M (by omega) (by omega)
  have hrM : r * M ≤ 10000 := by have : r * M ≤ 70 * 70 := Nat.mul_le_mul br bm; omega
  go_enter Tagg.func9, Tagg.ntmps9
  go_wp2_with fail
  with_reducible refine (M1 _).mono ?_
  rintro e w1 ⟨bA, rfl, hbA, rA, hb1⟩
  unfold matV
  go_wp2_with fail
  with_reducible refine (M2 _).mono ?_
  rintro e w2 ⟨bB, rfl, hbB, rB, hb2⟩
  have rA2 := row_zero _ (row_below rA hb2)
  have rB2 := row_zero _ rB
  have bel2 := hb1.trans (hb2.mono hb1.size)
  have nAB : bA ≠ bB := by have := rA.lt; omega
  have lowA := hx.low hbA
  have lowB : w.heap.size ≤ bB := Nat.le_trans hb1.size hbB
  have lowB' := hy.low lowB
  have lowA2 := hy.low hbA
  have hx2 := hx.below bel2
  have hy2 := hy.below bel2
  clear hx hy rA rB hb1 hb2 M1 M2 hbB
  unfold matV
  go_wp2_with fail
  generalize eX : (w2.alloc _).alloc _ = X
  have hbX : Below w2.heap.size w2 X := by rw [← eX]; exact ((Below.refl _ _).alloc (Nat.le_refl _) _).alloc (by simp) _
  have bxA : Box X w2.heap.size (.int .i64 r) (.int .i64 K) (.int .i64 s1) (.slice (some ⟨bA, 0, none⟩) dA dA) := by rw [← eX]; exact (Box.new w2 _ _ _ _).alloc _
  have bxB : Box X (w2.heap.size + 1) (.int .i64 K) (.int .i64 M) (.int .i64 s2) (.slice (some ⟨bB, 0, none⟩) dB dB) := by rw [← eX]; exact Box.new_at _ (by simp) _ _ _ _
  clear eX
  have bel := bel2.trans (hbX.mono bel2.size)
  have rA := row_below rA2 hbX
  have rB := row_below rB2 hbX
  have hxX := hx2.below hbX
  have hyX := hy2.below hbX
  have pA : w2.heap.size ≠ bA := by have := rA2.lt; omega
  have pA' : w2.heap.size + 1 ≠ bA := by have := rA2.lt; omega
  have pB : w2.heap.size ≠ bB := by have := rB2.lt; omega
  have pB' : w2.heap.size + 1 ≠ bB := by have := rB2.lt; omega
  clear rA2 rB2 bel2 hbX hx2 hy2
  generalize w2.heap.size = p13 at *
  have G1 := fun (w : World) hr hx => fillInts_any r K s1 bA dA a1 len1 cap1 z1 w nA hl1 hz1 hr hx lowA
  have G2 := fun (w : World) hr hx => fillInts_any K M s2 bB dB a2 len2 cap2 z2 w nB hl2 hz2 hr hx lowB'
  unfold matV at G1 G2
  with_reducible refine (G1 _ rA hxX).mono ?_
  rintro e w3 ⟨rfl, rA3, hg3⟩
  have bel3 := bel.grown hg3 bel.size (by intro k hk; cases hk; exact hbA)
  have rB3 := row_grown rB hg3 (Ne.symm nAB)
  have bxA3 := bxA.grown hg3 pA
  have bxB3 := bxB.grown hg3 pA'
  have hy3 : Sl w3 a2 len2 fun i => .int .i32 (z2 i) := hyX.grown hg3 lowA2
  obtain ⟨q1, q2, q3, q4⟩ := bxA3.cells
  obtain ⟨q5, q6, q7, q8⟩ := bxB3.cells
  clear hxX hyX rA rB bxA bxB bel hg3 G1 lowA lowA2 hz1
  go_wp2_with fail
  with_reducible refine (G2 _ rB3 hy3).mono ?_
  rintro e w4 ⟨rfl, rB4, hg4⟩
  have bel4 := bel3.grown hg4 bel3.size (by intro k hk; cases hk; exact lowB)
  have rA4 := row_grown rA3 hg4 nAB
  have bxA4 := bxA3.grown hg4 pB
  have bxB4 := bxB3.grown hg4 pB'
  clear q1 q2 q3 q4 q5 q6 q7 q8 bxA3 bxB3 rA3 rB3 hy3 bel3 hg4 G2 lowB' hz2
  have bzA := fun i => fillZ_lt z1 len1 i
  have bzB := fun i => fillZ_lt z2 len2 i
  generalize fillZ z1 len1 = A at *
  generalize fillZ z2 len2 = B at *
  have F1 := fun w hx hy => mul_ok r K M s1 s2 (some ⟨bA, 0, none⟩) (some ⟨bB, 0, none⟩) dA dA dB dB (fun i => fi (A i)) (fun i => fi (B i)) w (by omega) (by omega) (Nat.le_refl _) sA sB hx hy
  have F2 := fun w hx hy => mulT_ok r K M s1 s2 (some ⟨bA, 0, none⟩) (some ⟨bB, 0, none⟩) dA dA dB dB (fun i => fi (A i)) (fun i => fi (B i)) w (by omega) (by omega) (Nat.le_refl _) (Nat.le_refl _) sA sB hx hy
  have F3 := fun w hx hy => mulB_ok r K M s1 s2 (bl + 1) (some ⟨bA, 0, none⟩) (some ⟨bB, 0, none⟩) dA dA dB dB (fun i => fi (A i)) (fun i => fi (B i)) w (by omega) (by omega) (by omega) (by omega) (Nat.le_refl _) (Nat.le_refl _) sA sB hx hy
  rw [show ((bl + 1 : Nat) : Int) = (bl : Int) + 1 by simp] at F3
  unfold matV at F1 F2 F3
  obtain ⟨q1, q2, q3, q4⟩ := bxA4.cells
  obtain ⟨q5, q6, q7, q8⟩ := bxB4.cells
  go_wp2_with fail
  clear q1 q2 q3 q4 q5 q6 q7 q8
  with_reducible refine (F1 _ (Sl.of_row rA4) (Sl.of_row rB4)).mono ?_
  rintro e w5 ⟨bC, rfl, hbC, ⟨vC, rC, hC⟩, hb5⟩
  have bel5 := bel4.trans (hb5.mono bel4.size)
  have rA5 := row_below rA4 hb5
  have rB5 := row_below rB4 hb5
  have bxA5 := bxA4.below hb5
  have bxB5 := bxB4.below hb5
  clear bxA4 bxB4 rA4 rB4 bel4 F1 hb5 hbC
  obtain ⟨q1, q2, q3, q4⟩ := bxA5.cells
  obtain ⟨q5, q6, q7, q8⟩ := bxB5.cells
  have l1 := bxA5.lt
  have l2 := bxB5.lt
  go_wp2_with fail
  generalize eX : w5.alloc _ = X5
  have hbX : Below w5.heap.size w5 X5 := by rw [← eX]; exact (Below.refl _ _).alloc (Nat.le_refl _) _
  have bxC : Box X5 w5.heap.size (.int .i64 r) (.int .i64 M) (.int .i64 M) (.slice (some ⟨bC, 0, none⟩) (r * M) (r * M)) := by rw [← eX]; exact Box.new _ _ _ _ _
  clear eX q1 q2 q3 q4 q5 q6 q7 q8 l1 l2
  have bel6 := bel5.trans (hbX.mono bel5.size)
  have rA6 := row_below rA5 hbX
  have rB6 := row_below rB5 hbX
  have rC6 := row_below rC hbX
  have bxA6 := bxA5.below hbX
  have bxB6 := bxB5.below hbX
  clear bxA5 bxB5 rA5 rB5 rC bel5 hbX
  generalize w5.heap.size = p15 at *
  with_reducible refine (F2 _ (Sl.of_row rA6) (Sl.of_row rB6)).mono ?_
  rintro e w7 ⟨bD, rfl, hbD, ⟨vD, rD, hD⟩, hb7⟩
  have bel7 := bel6.trans (hb7.mono bel6.size)
  have rA7 := row_below rA6 hb7
  have rB7 := row_below rB6 hb7
  have rC7 := row_below rC6 hb7
  have bxA7 := bxA6.below hb7
  have bxB7 := bxB6.below hb7
  have bxC7 := bxC.below hb7
  clear bxA6 bxB6 bxC rA6 rB6 rC6 bel6 F2 hb7 hbD
  obtain ⟨q1, q2, q3, q4⟩ := bxA7.cells
  obtain ⟨q5, q6, q7, q8⟩ := bxB7.cells
  have l1 := bxA7.lt
  have l2 := bxB7.lt
  go_wp2_with fail
  generalize eX : w7.alloc _ = X7
  have hbX : Below w7.heap.size w7 X7 := by rw [← eX]; exact (Below.refl _ _).alloc (Nat.le_refl _) _
  have bxD : Box X7 w7.heap.size (.int .i64 r) (.int .i64 M) (.int .i64 M) (.slice (some ⟨bD, 0, none⟩) (r * M) (r * M)) := by rw [← eX]; exact Box.new _ _ _ _ _
  clear eX q1 q2 q3 q4 q5 q6 q7 q8 l1 l2
  have bel8 := bel7.trans (hbX.mono bel7.size)
  have rA8 := row_below rA7 hbX
  have rB8 := row_below rB7 hbX
  have rC8 := row_below rC7 hbX
  have rD8 := row_below rD hbX
  have bxA8 := bxA7.below hbX
  have bxB8 := bxB7.below hbX
  have bxC8 := bxC7.below hbX
  clear bxA7 bxB7 bxC7 rA7 rB7 rC7 rD bel7 hbX
  generalize w7.heap.size = p17 at *
  with_reducible refine (F3 _ (Sl.of_row rA8) (Sl.of_row rB8)).mono ?_
  rintro e w9 ⟨bE, rfl, hbE, ⟨vE, rE, hE⟩, hb9⟩
  have bel9 := bel8.trans (hb9.mono bel8.size)
  have rA9 := row_below rA8 hb9
  have rB9 := row_below rB8 hb9
  have rC9 := row_below rC8 hb9
  have rD9 := row_below rD8 hb9
  have bxA9 := bxA8.below hb9
  have bxB9 := bxB8.below hb9
  have bxC9 := bxC8.below hb9
  have bxD9 := bxD.below hb9
  clear bxA8 bxB8 bxC8 bxD rA8 rB8 rC8 rD8 bel8 F3 hb9 hbE
  obtain ⟨q1, q2, q3, q4⟩ := bxC9.cells
  obtain ⟨q5, q6, q7, q8⟩ := bxD9.cells
  have l1 := bxC9.lt
  have l2 := bxD9.lt
  go_wp2_with fail
  generalize eX : w9.alloc _ = X
  have hbX : Below w9.heap.size w9 X := by rw [← eX]; exact (Below.refl _ _).alloc (Nat.le_refl _) _
  have bxE : Box X w9.heap.size (.int .i64 r) (.int .i64 M) (.int .i64 M) (.slice (some ⟨bE, 0, none⟩) (r * M) (r * M)) := by rw [← eX]; exact Box.new _ _ _ _ _
  clear eX q1 q2 q3 q4 q5 q6 q7 q8 l1 l2
  have bel := bel9.trans (hbX.mono bel9.size)
  have rA := row_below rA9 hbX
  have rB := row_below rB9 hbX
  have rC := row_below rC9 hbX
  have rD := row_below rD9 hbX
  have rE := row_below rE hbX
  have bxA := bxA9.below hbX
  have bxB := bxB9.below hbX
  have bxC := bxC9.below hbX
  have bxD := bxD9.below hbX
  clear bxA9 bxB9 bxC9 bxD9 rA9 rB9 rC9 rD9 bel9 hbX
  generalize w9.heap.size = p19 at *
  have rowC := fun i w (hi : i < r) => row_any r M M i (some ⟨bC, 0, none⟩) (r * M) (r * M) w (by omega) (Nat.le_refl _) sC hi (fun _ => ⟨bC, 0, rfl⟩)
  have rowD := fun i w (hi : i < r) => row_any r M M i (some ⟨bD, 0, none⟩) (r * M) (r * M) w (by omega) (Nat.le_refl _) sC hi (fun _ => ⟨bD, 0, rfl⟩)
  have rowE := fun i w (hi : i < r) => row_any r M M i (some ⟨bE, 0, none⟩) (r * M) (r * M) w (by omega) (Nat.le_refl _) sC hi (fun _ => ⟨bE, 0, rfl⟩)
  unfold matV at rowC rowD rowE
  have HC : Hid (∀ (i j : Nat), i < r → j < M → absF (vC (i * M + j)) = dotF (fun t => absF (fi (A (i * s1 + t)))) (fun t => absF (fi (B (t * s2 + j)))) K) := hC
  have HD : Hid (∀ (i j : Nat), i < r → j < M → absF (vD (i * M + j)) = dotF (fun t => absF (fi (A (i * s1 + t)))) (fun t => absF (fi (B (t * s2 + j)))) K) := hD
  have HE : Hid (∀ (i j : Nat), i < r → j < M → absF (vE (i * M + j)) = dotF (fun t => absF (fi (A (i * s1 + t)))) (fun t => absF (fi (B (t * s2 + j)))) K) := hE
  clear hC hD hE
  go_loopw [21] (fun i wr => ∃ q : Nat, q ≤ r ∧ i = .int .i64 q ∧ Below X.heap.size X wr) (fun i _ => r - (intOf i).toNat)
  case atStart => exact ⟨0, by omega, rfl, Below.refl _ _⟩
  case round =>
    obtain ⟨q, hq, rfl, hbr⟩ := hrel
    obtain ⟨q1, q2, q3, q4⟩ := (bxA.below hbr).cells
    by_cases hqr : q < r
    · go_wp2_with fail
      go_loopw [22] (fun j wr => ∃ p : Nat, p ≤ M ∧ j = .int .i64 p ∧ Below X.heap.size X wr) (fun j _ => M - (intOf j).toNat)
      case atStart => exact ⟨0, by omega, rfl, hbr⟩
      case round =>
        clear q1 q2 q3 q4 hbr
        obtain ⟨p, hp, rfl, hbr⟩ := hrel
        obtain ⟨q1, q2, q3, q4⟩ := (bxB.below hbr).cells
        by_cases hpM : p < M
        · go_wp2_with fail
          go_loopw [23, 24] (fun s t wr => ∃ u : Nat, u ≤ K ∧ t = .int .i64 u ∧ s = .int .i64 (isum (fun t => A (q * s1 + t)) (fun t => B (t * s2 + p)) u) ∧ Below X.heap.size X wr) (fun _ t _ => K - (intOf t).toNat)
          case atStart => exact ⟨0, by omega, rfl, rfl, hbr⟩
          case round =>
            clear q1 q2 q3 q4 hbr
            obtain ⟨u, hu, rfl, rfl, hbr⟩ := hrel
            obtain ⟨q1, q2, q3, q4⟩ := (bxA.below hbr).cells
            obtain ⟨q5, q6, q7, q8⟩ := (bxB.below hbr).cells
            by_cases huK : u < K
            · have rchA := sound_reach sA hqr huK
              have rchB := sound_reach sB huK hpM
              have cA := (row_below rA hbr).cell rchA
              have cB := (row_below rB hbr).cell rchB
              have bA1 := bzA (q * s1 + u)
              have bB1 := bzB (u * s2 + p)
              have hd := (dot_int (fun t => A (q * s1 + t)) (fun t => B (t * s2 + p)) u (by omega) (fun t _ => bzA _) (fun t _ => bzB _)).2
              have cvA : ∀ w, (convert 46 2 (.float .f64 (fi (A (q * s1 + u))))).run Tagg.prog w = .ok (.int .i64 (A (q * s1 + u))) w := fun w => run_convert_float_int w 46 2 .f64 .i64 _ _ (by rw [Tagg.underlying46]; rfl) Tagg.underlying2 (int_fi _ (by omega))
              have cvB : ∀ w, (convert 46 2 (.float .f64 (fi (B (u * s2 + p))))).run Tagg.prog w = .ok (.int .i64 (B (u * s2 + p))) w := fun w => run_convert_float_int w 46 2 .f64 .i64 _ _ (by rw [Tagg.underlying46]; rfl) Tagg.underlying2 (int_fi _ (by omega))
              have i1 := icast_lt rchA
              have i2 := icast_lt rchB
              have i3 := icast_nonneg q s1
              have i4 := icast_nonneg u s2
              have i5 : (q : Int) * (s1 : Int) ≤ 10000 := by omega
              have i6 : (u : Int) * (s2 : Int) ≤ 10000 := by omega
              have e1 : ((q : Int) * (s1 : Int) + (u : Int)).toNat = q * s1 + u := by rw [← Int.natCast_mul]; omega
              have e2 : ((u : Int) * (s2 : Int) + (p : Int)).toNat = u * s2 + p := by rw [← Int.natCast_mul]; omega
              have hp1 : (A (q * s1 + u) * B (u * s2 + p)).natAbs ≤ 2 ^ 20 * 2 ^ 20 := by rw [Int.natAbs_mul]; exact Nat.mul_le_mul (by omega) (by omega)
              have hsum : isum (fun t => A (q * s1 + t)) (fun t => B (t * s2 + p)) u + A (q * s1 + u) * B (u * s2 + p) = isum (fun t => A (q * s1 + t)) (fun t => B (t * s2 + p)) (u + 1) := rfl
              obtain ⟨S', hS'⟩ : ∃ S', isum (fun t => A (q * s1 + t)) (fun t => B (t * s2 + p)) (u + 1) = S' := ⟨_, rfl⟩
              rw [hS'] at hsum
              generalize isum (fun t => A (q * s1 + t)) (fun t => B (t * s2 + p)) u = S at *
              have j1 : u * 2 ^ 40 ≤ 64 * 2 ^ 40 := Nat.mul_le_mul_right _ (by omega)
              have v1 : IntKind.i64.wrap (A (q * s1 + u) * B (u * s2 + p)) = A (q * s1 + u) * B (u * s2 + p) := IntWalk.i64_in _ ⟨by omega, by omega⟩
              have v2 : IntKind.i64.wrap (S + A (q * s1 + u) * B (u * s2 + p)) = S' := by rw [← hsum]; exact IntWalk.i64_in _ ⟨by omega, by omega⟩
              have hbd : S'.natAbs ≤ 70 * 2 ^ 40 := by omega
              clear HC HD HE rowC rowD rowE hd bA1 bB1 hp1
              go_wp2_with fail
              go_quiet (fail)
              go_wp2
              go_roundw
              case rel => exact ⟨u + 1, by omega, by go_num, by rw [hS'], below_draws hbr _⟩
              case measure => simp [intOf]; omega
            · have e : u = K := by omega
              subst e
              obtain ⟨S, FS, eS, hfl, hord, cC, cD, cE⟩ : ∃ (S : Int) (FS : Nat), isum (fun t => A (q * s1 + t)) (fun t => B (t * s2 + p)) u = S ∧ floatOfInt .f64 S = FS ∧ FloatKind.f64.format.order FS FS = some .eq ∧
                  X.cell? ⟨bC, q * M + p, none⟩ = some (.float .f64 FS) ∧ X.cell? ⟨bD, q * M + p, none⟩ = some (.float .f64 FS) ∧ X.cell? ⟨bE, q * M + p, none⟩ = some (.float .f64 FS) := by
                obtain ⟨hdot, hdb⟩ := dot_int (fun t => A (q * s1 + t)) (fun t => B (t * s2 + p)) u (by omega) (fun t _ => bzA _) (fun t _ => bzB _)
                have j1 : u * 2 ^ 40 ≤ 64 * 2 ^ 40 := Nat.mul_le_mul_right _ (by omega)
                have rch := row_lt hqr hpM
                refine ⟨_, fi (isum (fun t => A (q * s1 + t)) (fun t => B (t * s2 + p)) u), rfl, floatOfInt_fi _ (by omega), order_fz _ _ (by omega), ?_, ?_, ?_⟩
                · rw [rC.cell rch, absF_eq ((HC.out q p hqr hpM).trans hdot)]
                · rw [rD.cell rch, absF_eq ((HD.out q p hqr hpM).trans hdot)]
                · rw [rE.cell rch, absF_eq ((HE.out q p hqr hpM).trans hdot)]
              rw [eS]
              clear HC HD HE eS q5 q6 q7 q8
              have ip : (p : Int) < (M : Int) := by omega
              have M0 : 0 < M := by omega
              obtain ⟨q5, q6, q7, q8⟩ := (bxC.below hbr).cells
              go_wp2_with fail
              with_reducible refine (rowC q _ hqr).mono ?_
              rintro e w1 ⟨ra, rfl, hra, hb1⟩
              obtain ⟨b, off, h1, rfl⟩ := hra M0
              cases h1
              have hbr1 := hbr.trans (hb1.mono hbr.size)
              have c1 : w1.cell? ⟨bC, q * M + p, none⟩ = some (.float .f64 FS) := by rw [(bcell hbr1).1 _ _ rC.lt, cC]
              clear q1 q2 q3 q4 q5 q6 q7 q8 hra
              obtain ⟨q1, q2, q3, q4⟩ := (bxD.below hbr1).cells
              go_wp2_with fail
              with_reducible refine (rowD q _ hqr).mono ?_
              rintro e w2 ⟨ra, rfl, hra, hb2⟩
              obtain ⟨b, off, h1, rfl⟩ := hra M0
              cases h1
              have hbr2 := hbr1.trans (hb2.mono hbr1.size)
              have c2 : w2.cell? ⟨bD, q * M + p, none⟩ = some (.float .f64 FS) := by rw [(bcell hbr2).1 _ _ rD.lt, cD]
              clear q1 q2 q3 q4 hra c1
              obtain ⟨q1, q2, q3, q4⟩ := (bxE.below hbr2).cells
              go_wp2_with fail
              with_reducible refine (rowE q _ hqr).mono ?_
              rintro e w3 ⟨ra, rfl, hra, hb3⟩
              obtain ⟨b, off, h1, rfl⟩ := hra M0
              cases h1
              have hbr3 := hbr2.trans (hb3.mono hbr2.size)
              have c3 : w3.cell? ⟨bE, q * M + p, none⟩ = some (.float .f64 FS) := by rw [(bcell hbr3).1 _ _ rE.lt, cE]
              clear q1 q2 q3 q4 hra c2
              go_wp2
              go_roundw
              case rel => exact ⟨p + 1, by omega, by go_num, hbr3⟩
              case measure => simp [intOf]; omega
        · have e : p = M := by omega
          subst e
          clear HC HD HE
          go_wp2
          go_roundw
          case rel => exact ⟨q + 1, by omega, by go_num, hbr⟩
          case measure => simp [intOf]; omega
    · have e : q = r := by omega
      subst e
      go_wp2
      go_ret
      exact ⟨rfl, bel.trans (hbr.mono bel.size)⟩
end Go.Proofs.Ygctag
