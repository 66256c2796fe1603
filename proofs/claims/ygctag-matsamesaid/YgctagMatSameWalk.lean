import Derived.Test.YgctagMatBlk
import Derived.Test.YgctagMatEntriesWalk
namespace Go.Proofs.Ygctag
open Go.RowKit

set_option maxRecDepth 100000 in
set_option maxHeartbeats 4000000 in
theorem matSame_walk (n k m gap block : Int) (hn : 0 ≤ n) (hk : 0 ≤ k) (hm : 0 ≤ m) (hg : 0 ≤ gap) (hbl : 0 ≤ block) (hbl2 : block ≤ 65535) (a1 a2 : Option Addr) (len1 cap1 len2 cap2 : Nat) (z1 z2 : Nat → Int) (w : World)
    (hl1 : len1 ≤ 140737488355328) (hl2 : len2 ≤ 140737488355328) (hx : Sl w a1 len1 fun i => .int .u64 (z1 i)) (hy : Sl w a2 len2 fun i => .int .u64 (z2 i)) :
    Calls Tagg.prog 8 #[.int .u8 n, .int .u8 k, .int .u8 m, .int .u8 gap, .int .u16 block, .slice a1 len1 cap1, .slice a2 len2 cap2] w fun e w' => e = .returned (.bool true) ∧ Below w.heap.size w w' := by
  have br : (n % 71).toNat ≤ 70 := by omega
  have bk : (k % 71).toNat ≤ 70 := by omega
  have bm : (m % 71).toNat ≤ 70 := by omega
  have bg1 : (gap % 4).toNat ≤ 3 := by omega
  have bg2 : ((gap + 1) % 256 % 4).toNat ≤ 3 := by omega
  have M1 := fun w hx => matrixOf' n k gap hn hk hg a1 len1 cap1 z1 w hl1 hx
  have M2 := fun w hy => matrixOf' k m ((gap + 1) % 256) hk hm (by omega) a2 len2 cap2 z2 w hl2 hy
  generalize (n % 71).toNat = r at *
  generalize (k % 71).toNat = K at *
  generalize (m % 71).toNat = M at *
  generalize (gap % 4).toNat = g1 at *
  generalize ((gap + 1) % 256 % 4).toNat = g2 at *
  have sA := sound_gap r K g1 (by omega) (by omega)
  have sB := sound_gap K M g2 (by omega) (by omega)
  have nA : r * (K + g1) ≤ 140737488355328 := by have : r * (K + g1) ≤ 70 * 73 := Nat.mul_le_mul br (by omega); omega
  have nB : K * (M + g2) ≤ 140737488355328 := by have : K * (M + g2) ≤ 70 * 73 := Nat.mul_le_mul bk (by omega); omega
  obtain ⟨s1, hs1⟩ : ∃ s1, s1 = K + g1 := ⟨_, rfl⟩
  obtain ⟨s2, hs2⟩ : ∃ s2, s2 = M + g2 := ⟨_, rfl⟩
  rw [← hs1] at M1 sA nA
  rw [← hs2] at M2 sB nB
  obtain ⟨dA, hdA⟩ : ∃ d, d = r * s1 := ⟨_, rfl⟩
  obtain ⟨dB, hdB⟩ : ∃ d, d = K * s2 := ⟨_, rfl⟩
  rw [← hdA] at M1 sA nA
  rw [← hdB] at M2 sB nB
  clear hs1 hs2 hdA hdB
  obtain ⟨bl, rfl⟩ := Int.eq_ofNat_of_zero_le hbl
  have sC := sound_new r M (by omega) (by omega)
  have hrM : r * M ≤ 140737488355328 := by have : r * M ≤ 70 * 70 := Nat.mul_le_mul br bm; omega
  go_enter Tagg.func8, Tagg.ntmps8
  go_wp2_with fail
  with_reducible refine (M1 _ hx).mono ?_
  rintro e w1 ⟨bA, rfl, hbA, rA, hb1⟩
  have hy1 := hy.below hb1
  unfold matV
  go_wp2_with fail
  with_reducible refine (M2 _ hy1).mono ?_
  rintro e w2 ⟨bB, rfl, hbB, rB, hb2⟩
  have rA2 := row_below rA hb2
  have bel2 := hb1.trans (hb2.mono hb1.size)
  clear hx hy hy1 rA hb1 hb2 M1 M2
  unfold matV
  go_wp2_with fail
  generalize eX : (w2.alloc _).alloc _ = X
  have hbX : Below w2.heap.size w2 X := by rw [← eX]; exact ((Below.refl _ _).alloc (Nat.le_refl _) _).alloc (by simp) _
  have bxA : Box X w2.heap.size (.int .i64 r) (.int .i64 K) (.int .i64 s1) (.slice (some ⟨bA, 0, none⟩) dA dA) := by rw [← eX]; exact (Box.new w2 _ _ _ _).alloc _
  have bxB : Box X (w2.heap.size + 1) (.int .i64 K) (.int .i64 M) (.int .i64 s2) (.slice (some ⟨bB, 0, none⟩) dB dB) := by rw [← eX]; exact Box.new_at _ (by simp) _ _ _ _
  clear eX
  have bel := bel2.trans (hbX.mono bel2.size)
  have rA := row_below rA2 hbX
  have rB1 := row_below rB hbX
  clear rA2 rB bel2 hbX
  generalize w2.heap.size = p15 at *
  have F1 := fun w hx hy => mul_ok r K M s1 s2 (some ⟨bA, 0, none⟩) (some ⟨bB, 0, none⟩) dA dA dB dB (pat z1 len1) (pat z2 len2) w nA nB (Nat.le_refl _) sA sB hx hy
  have F2 := fun w hx hy => mulT_ok r K M s1 s2 (some ⟨bA, 0, none⟩) (some ⟨bB, 0, none⟩) dA dA dB dB (pat z1 len1) (pat z2 len2) w nA nB (Nat.le_refl _) (Nat.le_refl _) sA sB hx hy
  have F3 := fun w hx hy => mulB_ok r K M s1 s2 (bl + 1) (some ⟨bA, 0, none⟩) (some ⟨bB, 0, none⟩) dA dA dB dB (pat z1 len1) (pat z2 len2) w nA nB (by omega) (by omega) (Nat.le_refl _) (Nat.le_refl _) sA sB hx hy
  rw [show ((bl + 1 : Nat) : Int) = (bl : Int) + 1 by simp] at F3
  unfold matV at F1 F2 F3
  with_reducible refine (F1 _ (Sl.of_row rA) (Sl.of_row rB1)).mono ?_
  rintro e w3 ⟨bC, rfl, hbC, ⟨vC, rC, hC⟩, hb3⟩
  have bel3 := bel.trans (hb3.mono bel.size)
  have rA3 := row_below rA hb3
  have rB3 := row_below rB1 hb3
  have bxA3 := bxA.below hb3
  have bxB3 := bxB.below hb3
  clear bxA bxB rA rB1 bel F1 hb3
  obtain ⟨q1, q2, q3, q4⟩ := bxA3.cells
  obtain ⟨q5, q6, q7, q8⟩ := bxB3.cells
  have l1 := bxA3.lt
  have l2 := bxB3.lt
  go_wp2_with fail
  generalize eX : w3.alloc _ = X3
  have hbX : Below w3.heap.size w3 X3 := by rw [← eX]; exact (Below.refl _ _).alloc (Nat.le_refl _) _
  have bxC : Box X3 w3.heap.size (.int .i64 r) (.int .i64 M) (.int .i64 M) (.slice (some ⟨bC, 0, none⟩) (r * M) (r * M)) := by rw [← eX]; exact Box.new _ _ _ _ _
  clear eX q1 q2 q3 q4 q5 q6 q7 q8 l1 l2
  have bel4 := bel3.trans (hbX.mono bel3.size)
  have rA4 := row_below rA3 hbX
  have rB4 := row_below rB3 hbX
  have rC4 := row_below rC hbX
  have bxA4 := bxA3.below hbX
  have bxB4 := bxB3.below hbX
  clear bxA3 bxB3 rA3 rB3 rC bel3 hbX
  generalize w3.heap.size = p17 at *
  with_reducible refine (F2 _ (Sl.of_row rA4) (Sl.of_row rB4)).mono ?_
  rintro e w5 ⟨bD, rfl, hbD, ⟨vD, rD, hD⟩, hb5⟩
  have bel5 := bel4.trans (hb5.mono bel4.size)
  have rA5 := row_below rA4 hb5
  have rB5 := row_below rB4 hb5
  have rC5 := row_below rC4 hb5
  have bxA5 := bxA4.below hb5
  have bxB5 := bxB4.below hb5
  have bxC5 := bxC.below hb5
  clear bxA4 bxB4 bxC rA4 rB4 rC4 bel4 F2 hb5
  obtain ⟨q1, q2, q3, q4⟩ := bxA5.cells
  obtain ⟨q5, q6, q7, q8⟩ := bxB5.cells
  have l1 := bxA5.lt
  have l2 := bxB5.lt
  go_wp2_with fail
  generalize eX : w5.alloc _ = X5
  have hbX : Below w5.heap.size w5 X5 := by rw [← eX]; exact (Below.refl _ _).alloc (Nat.le_refl _) _
  have bxD : Box X5 w5.heap.size (.int .i64 r) (.int .i64 M) (.int .i64 M) (.slice (some ⟨bD, 0, none⟩) (r * M) (r * M)) := by rw [← eX]; exact Box.new _ _ _ _ _
  clear eX q1 q2 q3 q4 q5 q6 q7 q8 l1 l2
  have bel6 := bel5.trans (hbX.mono bel5.size)
  have rA6 := row_below rA5 hbX
  have rB6 := row_below rB5 hbX
  have rC6 := row_below rC5 hbX
  have rD6 := row_below rD hbX
  have bxC6 := bxC5.below hbX
  clear bxA5 bxB5 bxC5 rA5 rB5 rC5 rD bel5 hbX
  generalize w5.heap.size = p19 at *
  with_reducible refine (F3 _ (Sl.of_row rA6) (Sl.of_row rB6)).mono ?_
  rintro e w7 ⟨bE, rfl, hbE, ⟨vE, rE, hE⟩, hb7⟩
  have bel7 := bel6.trans (hb7.mono bel6.size)
  have rC7 := row_below rC6 hb7
  have rD7 := row_below rD6 hb7
  have bxC7 := bxC6.below hb7
  have bxD7 := bxD.below hb7
  clear bxC6 bxD rA6 rB6 rC6 rD6 bel6 F3 hb7
  obtain ⟨q1, q2, q3, q4⟩ := bxC7.cells
  obtain ⟨q5, q6, q7, q8⟩ := bxD7.cells
  have l1 := bxC7.lt
  have l2 := bxD7.lt
  have E1 := fun w hx hy => sameMat_any r M M M (some ⟨bC, 0, none⟩) (some ⟨bD, 0, none⟩) (r * M) (r * M) (r * M) (r * M) vC vD w hrM hrM (Nat.le_refl _) (Nat.le_refl _) sC sC hx hy (fun i j hi hj => (hC i j hi hj).trans (hD i j hi hj).symm)
  have E2 := fun w hx hy => sameMat_any r M M M (some ⟨bC, 0, none⟩) (some ⟨bE, 0, none⟩) (r * M) (r * M) (r * M) (r * M) vC vE w hrM hrM (Nat.le_refl _) (Nat.le_refl _) sC sC hx hy (fun i j hi hj => (hC i j hi hj).trans (hE i j hi hj).symm)
  unfold matV at E1 E2
  clear hC hD hE
  go_wp2_with fail
  generalize eX : w7.alloc _ = X7
  have hbX : Below w7.heap.size w7 X7 := by rw [← eX]; exact (Below.refl _ _).alloc (Nat.le_refl _) _
  have bxE : Box X7 w7.heap.size (.int .i64 r) (.int .i64 M) (.int .i64 M) (.slice (some ⟨bE, 0, none⟩) (r * M) (r * M)) := by rw [← eX]; exact Box.new _ _ _ _ _
  clear eX q1 q2 q3 q4 q5 q6 q7 q8 l1 l2
  have bel8 := bel7.trans (hbX.mono bel7.size)
  have rC8 := row_below rC7 hbX
  have rD8 := row_below rD7 hbX
  have rE8 := row_below rE hbX
  have bxC8 := bxC7.below hbX
  clear bxC7 bxD7 rC7 rD7 rE bel7 hbX
  generalize w7.heap.size = p21 at *
  with_reducible refine (E1 _ (Sl.of_row rC8) (Sl.of_row rD8)).mono ?_
  rintro e w9 ⟨rfl, hb9⟩
  have bel9 := bel8.trans (hb9.mono bel8.size)
  have rC9 := row_below rC8 hb9
  have rE9 := row_below rE8 hb9
  obtain ⟨q1, q2, q3, q4⟩ := (bxC8.below hb9).cells
  obtain ⟨q5, q6, q7, q8⟩ := (bxE.below hb9).cells
  clear bxC8 bxE rC8 rD8 rE8 bel8 E1 hb9
  go_wp2_with fail
  with_reducible refine (E2 _ (Sl.of_row rC9) (Sl.of_row rE9)).mono ?_
  rintro e w10 ⟨rfl, hb10⟩
  go_wp2
  go_ret
  exact ⟨rfl, bel9.trans (hb10.mono bel9.size)⟩
end Go.Proofs.Ygctag
