import Derived.Test.YgctagMatD
namespace Go.Proofs.Ygctag
open Go.RowKit
attribute [local go_sem ↓] run_fadd run_fmul

theorem row_below {w w' : World} {b : Nat} {t : TypeId} {n : Nat} {f : Nat → Value} (h : w.rowIs b t n f) (hb : Below w.heap.size w w') : w'.rowIs b t n f := h.of_block (hb.block b h.lt)

theorem sound_gap (r c g : Nat) (hr : r ≤ 512) (hc : c ≤ 512) : soundB r c ((c + g : Nat) : Int) (r * (c + g)) = true := by
  unfold soundB
  apply decide_eq_true
  refine ⟨by omega, by omega, by omega, by omega, by omega, ?_⟩
  by_cases h : r = 0
  · left; omega
  · right; right
    constructor
    · intro hr
      have : 1 * (c + g) ≤ r * (c + g) := Nat.mul_le_mul_right _ (by omega)
      omega
    · obtain ⟨q, rfl⟩ : ∃ q, r = q + 1 := ⟨r - 1, by omega⟩
      have e : (((q + 1 : Nat) : Int) - 1) = (q : Int) := by omega
      rw [e, ← Int.natCast_mul, Nat.add_mul]
      omega

theorem matrixOf' (R C G : Int) (hR0 : 0 ≤ R) (hC0 : 0 ≤ C) (hG0 : 0 ≤ G) (a : Option Addr) (len cap : Nat) (z : Nat → Int) (w : World)
    (hl : len ≤ 140737488355328) (hx : Sl w a len fun i => .int .u64 (z i)) :
    Calls Tagg.prog 40 #[.int .u8 R, .int .u8 C, .int .u8 G, .slice a len cap] w fun e w' => ∃ b, e = .returned (matV ((R % 71).toNat : Nat) ((C % 71).toNat : Nat) (((C % 71).toNat + (G % 4).toNat : Nat) : Int) (some ⟨b, 0, none⟩) ((R % 71).toNat * ((C % 71).toNat + (G % 4).toNat)) ((R % 71).toNat * ((C % 71).toNat + (G % 4).toNat))) ∧ w.heap.size ≤ b ∧
      w'.rowIs b 46 ((R % 71).toNat * ((C % 71).toNat + (G % 4).toNat)) (fun i => .float .f64 (pat z len i)) ∧ Below w.heap.size w w' := by
  refine (matrixOf_any R C G (R % 71).toNat (C % 71).toNat (G % 4).toNat (by omega) (by omega) (by omega) hR0 hC0 hG0 a len cap z w hl hx).mono ?_
  rintro e w' ⟨b, rfl, h1, h2, h3⟩
  exact ⟨b, by rw [Int.natCast_add], h1, h2, h3⟩

set_option maxRecDepth 100000 in
set_option maxHeartbeats 4000000 in
theorem matEntries_walk (n k m gap : Int) (hn : 0 ≤ n) (hk : 0 ≤ k) (hm : 0 ≤ m) (hg : 0 ≤ gap) (a1 a2 : Option Addr) (len1 cap1 len2 cap2 : Nat) (z1 z2 : Nat → Int) (w : World)
    (hl1 : len1 ≤ 140737488355328) (hl2 : len2 ≤ 140737488355328) (hx : Sl w a1 len1 fun i => .int .u64 (z1 i)) (hy : Sl w a2 len2 fun i => .int .u64 (z2 i)) :
    Calls Tagg.prog 7 #[.int .u8 n, .int .u8 k, .int .u8 m, .int .u8 gap, .slice a1 len1 cap1, .slice a2 len2 cap2] w fun e w' => e = .returned (.bool true) ∧ Below w.heap.size w w' := by
  have br : (n % 71).toNat ≤ 70 := by omega
  have bk : (k % 71).toNat ≤ 70 := by omega
  have bm : (m % 71).toNat ≤ 70 := by omega
  have bg1 : (gap % 4).toNat ≤ 3 := by omega
  have bg2 : ((gap + 1) % 256 % 4).toNat ≤ 3 := by omega
  have M1 := fun w hx => matrixOf' n k gap hn hk hg a1 len1 cap1 z1 w hl1 hx
  have M2 := fun w hy => matrixOf' k m ((gap + 1) % 256) hk hm (by omega) a2 len2 cap2 z2 w hl2 hy
  generalize (n % 71).toNat = r at *
  generalize (k % 71).toNat = K at *
  generalize (m % 71).toNat = M at *
  generalize (gap % 4).toNat = g1 at *
  generalize ((gap + 1) % 256 % 4).toNat = g2 at *
  have sA := sound_gap r K g1 (by omega) (by omega)
  have sB := sound_gap K M g2 (by omega) (by omega)
  have nA : r * (K + g1) ≤ 140737488355328 := by have : r * (K + g1) ≤ 70 * 73 := Nat.mul_le_mul br (by omega); omega
  have nB : K * (M + g2) ≤ 140737488355328 := by have : K * (M + g2) ≤ 70 * 73 := Nat.mul_le_mul bk (by omega); omega
  obtain ⟨s1, hs1⟩ : ∃ s1, s1 = K + g1 := ⟨_, rfl⟩
  obtain ⟨s2, hs2⟩ : ∃ s2, s2 = M + g2 := ⟨_, rfl⟩
  rw [← hs1] at M1 sA nA
  rw [← hs2] at M2 sB nB
  obtain ⟨dA, hdA⟩ : ∃ d, d = r * s1 := ⟨_, rfl⟩
  obtain ⟨dB, hdB⟩ : ∃ d, d = K * s2 := ⟨_, rfl⟩
  rw [← hdA] at M1 sA nA
  rw [← hdB] at M2 sB nB
  clear hs1 hs2 hdA hdB
  go_enter Tagg.func7, Tagg.ntmps7
  go_wp2_with fail
  with_reducible refine (M1 _ hx).mono ?_
  rintro e w1 ⟨bA, rfl, hbA, rA, hb1⟩
  have hx1 := hx.below hb1
  have hy1 := hy.below hb1
  unfold matV
  go_wp2_with fail
  with_reducible refine (M2 _ hy1).mono ?_
  rintro e w2 ⟨bB, rfl, hbB, rB, hb2⟩
  have hx2 := hx1.below hb2
  have hy2 := hy1.below hb2
  have rA2 := row_below rA hb2
  have bel2 := hb1.trans (hb2.mono hb1.size)
  clear hx1 hy1 rA
  unfold matV
  go_wp2_with fail
  generalize eX : (w2.alloc _).alloc _ = X
  have hbX : Below w2.heap.size w2 X := by rw [← eX]; exact ((Below.refl _ _).alloc (Nat.le_refl _) _).alloc (by simp) _
  have bxA : Box X w2.heap.size (.int .i64 r) (.int .i64 K) (.int .i64 s1) (.slice (some ⟨bA, 0, none⟩) dA dA) := by rw [← eX]; exact (Box.new w2 _ _ _ _).alloc _
  have bxB : Box X (w2.heap.size + 1) (.int .i64 K) (.int .i64 M) (.int .i64 s2) (.slice (some ⟨bB, 0, none⟩) dB dB) := by rw [← eX]; exact Box.new_at _ (by simp) _ _ _ _
  clear eX
  have belX := bel2.trans (hbX.mono bel2.size)
  have rAX := row_below rA2 hbX
  have rBX := row_below rB hbX
  have hxX := hx2.below hbX
  have hyX := hy2.below hbX
  clear hx2 hy2 rA2 rB hb1 hb2 bel2 hbX hx hy
  with_reducible refine (M1 _ hxX).mono ?_
  rintro e w3 ⟨bA', rfl, hbA', rA', hb3⟩
  have belW := belX.trans (hb3.mono belX.size)
  have bxA3 := bxA.below hb3
  have bxB3 := bxB.below hb3
  have rA3 := row_below rAX hb3
  have rB3 := row_below rBX hb3
  have hy3 := hyX.below hb3
  clear bxA bxB rAX rBX hxX hyX hb3 belX M1
  unfold matV
  go_wp2_with fail
  with_reducible refine (M2 _ hy3).mono ?_
  rintro e w4 ⟨bB', rfl, hbB', rB', hb4⟩
  have bel4 := belW.trans (hb4.mono belW.size)
  have bxA4 := bxA3.below hb4
  have bxB4 := bxB3.below hb4
  have rA4 := row_below rA3 hb4
  have rB4 := row_below rB3 hb4
  have rA4' := row_below rA' hb4
  clear bxA3 bxB3 rA3 rB3 hy3 rA' hb4 belW M2
  unfold matV
  generalize w2.heap.size = p13 at *
  obtain ⟨q1, q2, q3, q4⟩ := bxA4.cells
  obtain ⟨q5, q6, q7, q8⟩ := bxB4.cells
  have l1 := bxA4.lt
  have l2 := bxB4.lt
  go_wp2_with fail
  generalize eX : (w4.alloc _).alloc _ = X
  have hbX : Below w4.heap.size w4 X := by rw [← eX]; exact ((Below.refl _ _).alloc (Nat.le_refl _) _).alloc (by simp) _
  have bxA' : Box X w4.heap.size (.int .i64 r) (.int .i64 K) (.int .i64 s1) (.slice (some ⟨bA', 0, none⟩) dA dA) := by rw [← eX]; exact (Box.new w4 _ _ _ _).alloc _
  have bxB' : Box X (w4.heap.size + 1) (.int .i64 K) (.int .i64 M) (.int .i64 s2) (.slice (some ⟨bB', 0, none⟩) dB dB) := by rw [← eX]; exact Box.new_at _ (by simp) _ _ _ _
  clear eX q1 q2 q3 q4 q5 q6 q7 q8
  have bel5 := bel4.trans (hbX.mono bel4.size)
  have rA5 := row_below rA4 hbX
  have rB5 := row_below rB4 hbX
  have rA5' := row_below rA4' hbX
  have rB5' := row_below rB' hbX
  have bxA5 := bxA4.below hbX
  have bxB5 := bxB4.below hbX
  clear bxA4 bxB4 rA4 rB4 rA4' rB' bel4 hbX
  generalize w4.heap.size = p15 at *
  have MM := fun w hx hy => mul_ok r K M s1 s2 (some ⟨bA, 0, none⟩) (some ⟨bB, 0, none⟩) dA dA dB dB (pat z1 len1) (pat z2 len2) w nA nB (Nat.le_refl _) sA sB hx hy
  unfold matV at MM
  with_reducible refine (MM _ (Sl.of_row rA5) (Sl.of_row rB5)).mono ?_
  rintro e w6 ⟨bC, rfl, hbC, ⟨bits, rC, hC⟩, hb6⟩
  have bel6 := bel5.trans (hb6.mono bel5.size)
  have rA6 := row_below rA5 hb6
  have rB6 := row_below rB5 hb6
  have rA6' := row_below rA5' hb6
  have rB6' := row_below rB5' hb6
  have bxA6 := bxA5.below hb6
  have bxB6 := bxB5.below hb6
  have bxA6' := bxA'.below hb6
  have bxB6' := bxB'.below hb6
  clear bxA5 bxB5 bxA' bxB' rA5 rB5 rA5' rB5' bel5 MM hb6
  obtain ⟨q1, q2, q3, q4⟩ := bxA6.cells
  obtain ⟨q5, q6, q7, q8⟩ := bxB6.cells
  have l1 := bxA6.lt
  have l2 := bxB6.lt
  have sC := sound_new r M (by omega) (by omega)
  have hrM : r * M ≤ 140737488355328 := by have : r * M ≤ 70 * 70 := Nat.mul_le_mul br bm; omega
  have SS := fun w => sound_any r M M (some ⟨bC, 0, none⟩) (r * M) (r * M) w hrM
  rw [sC] at SS
  unfold matV at SS
  have E1 := fun w hx hy => sameMat_any r K s1 s1 (some ⟨bA, 0, none⟩) (some ⟨bA', 0, none⟩) dA dA dA dA (pat z1 len1) (pat z1 len1) w nA nA (Nat.le_refl _) (Nat.le_refl _) sA sA hx hy (fun _ _ _ _ => rfl)
  have E2 := fun w hx hy => sameMat_any K M s2 s2 (some ⟨bB, 0, none⟩) (some ⟨bB', 0, none⟩) dB dB dB dB (pat z2 len2) (pat z2 len2) w nB nB (Nat.le_refl _) (Nat.le_refl _) sB sB hx hy (fun _ _ _ _ => rfl)
  unfold matV at E1 E2
  go_wp2_with fail
  generalize eX : w6.alloc _ = X
  have hbX : Below w6.heap.size w6 X := by rw [← eX]; exact (Below.refl _ _).alloc (Nat.le_refl _) _
  have bxC : Box X w6.heap.size (.int .i64 r) (.int .i64 M) (.int .i64 M) (.slice (some ⟨bC, 0, none⟩) (r * M) (r * M)) := by rw [← eX]; exact Box.new w6 _ _ _ _
  clear eX q1 q2 q3 q4 q5 q6 q7 q8
  with_reducible refine (SS _).mono ?_
  rintro e w7 ⟨rfl, hb7⟩
  have hX7 := hbX.trans (hb7.mono hbX.size)
  have bel7 := bel6.trans (hX7.mono bel6.size)
  have rA7 := row_below rA6 hX7
  have rB7 := row_below rB6 hX7
  have rA7' := row_below rA6' hX7
  have rB7' := row_below rB6' hX7
  have rC7 := row_below rC hX7
  have bxA7 := bxA6.below hX7
  have bxB7 := bxB6.below hX7
  have bxA7' := bxA6'.below hX7
  have bxB7' := bxB6'.below hX7
  have bxC7 := bxC.below hb7
  clear bxA6 bxB6 bxA6' bxB6' bxC rA6 rB6 rA6' rB6' rC bel6 SS hbX hX7 hb7
  generalize w6.heap.size = p17 at *
  obtain ⟨q1, q2, q3, q4⟩ := bxA7.cells
  obtain ⟨q5, q6, q7, q8⟩ := bxA7'.cells
  go_wp2_with fail
  with_reducible refine (E1 _ (Sl.of_row rA7) (Sl.of_row rA7')).mono ?_
  rintro e w8 ⟨rfl, hb8⟩
  have bel8 := bel7.trans (hb8.mono bel7.size)
  have rA8 := row_below rA7 hb8
  have rB8 := row_below rB7 hb8
  have rB8' := row_below rB7' hb8
  have rC8 := row_below rC7 hb8
  have bxA8 := bxA7.below hb8
  have bxB8 := bxB7.below hb8
  have bxB8' := bxB7'.below hb8
  have bxC8 := bxC7.below hb8
  clear bxA7 bxB7 bxA7' bxB7' bxC7 rA7 rB7 rA7' rB7' rC7 bel7 E1 hb8 q1 q2 q3 q4 q5 q6 q7 q8
  obtain ⟨q1, q2, q3, q4⟩ := bxB8.cells
  obtain ⟨q5, q6, q7, q8⟩ := bxB8'.cells
  go_wp2_with fail
  with_reducible refine (E2 _ (Sl.of_row rB8) (Sl.of_row rB8')).mono ?_
  rintro e W ⟨rfl, hb9⟩
  have bel := bel8.trans (hb9.mono bel8.size)
  have rA := row_below rA8 hb9
  have rB := row_below rB8 hb9
  have rC := row_below rC8 hb9
  have bxA := bxA8.below hb9
  have bxB := bxB8.below hb9
  have bxC := bxC8.below hb9
  clear bxA8 bxB8 bxB8' bxC8 rA8 rB8 rB8' rC8 bel8 E2 hb9 q1 q2 q3 q4 q5 q6 q7 q8
  obtain ⟨qA0, qA1, qA2, qA3⟩ := bxA.cells
  obtain ⟨qB0, qB1, qB2, qB3⟩ := bxB.cells
  obtain ⟨qC0, qC1, qC2, qC3⟩ := bxC.cells
  go_wp2_with fail
  have cxA : ∀ i, i < dA → W.cell? ⟨bA, i, none⟩ = some (.float .f64 (pat z1 len1 i)) := fun i hi => rA.cell hi
  have cxB : ∀ i, i < dB → W.cell? ⟨bB, i, none⟩ = some (.float .f64 (pat z2 len2 i)) := fun i hi => rB.cell hi
  have cxC : ∀ i, i < r * M → W.cell? ⟨bC, i, none⟩ = some (.float .f64 (bits i)) := fun i hi => rC.cell hi
  have HA : Hid (∀ i, i < dA → W.cell? ⟨bA, i, none⟩ = some (.float .f64 (pat z1 len1 i))) := cxA
  have HB : Hid (∀ i, i < dB → W.cell? ⟨bB, i, none⟩ = some (.float .f64 (pat z2 len2 i))) := cxB
  have HC : Hid (∀ i, i < r * M → W.cell? ⟨bC, i, none⟩ = some (.float .f64 (bits i))) := cxC
  have HE : Hid (∀ i j, i < r → j < M → absF (bits (i * M + j)) = dotF (fun t => absF (pat z1 len1 (i * s1 + t))) (fun t => absF (pat z2 len2 (t * s2 + j))) K) := hC
  clear cxA cxB cxC rA rB rC bxA bxB bxC hC sC hbC
  go_loopw [19] (fun i wr => ∃ q : Nat, q ≤ r ∧ i = .int .i64 q ∧ ∃ d, wr = W.drewN d) (fun i _ => r - (intOf i).toNat)
  case atStart => exact ⟨0, by omega, rfl, 0, rfl⟩
  case round =>
    obtain ⟨q, hq, rfl, d, rfl⟩ := hrel
    by_cases hqr : q < r
    · go_wp2_with fail
      go_loopw [20] (fun i wr => ∃ p : Nat, p ≤ M ∧ i = .int .i64 p ∧ ∃ d, wr = W.drewN d) (fun i _ => M - (intOf i).toNat)
      case atStart => exact ⟨0, by omega, rfl, d, rfl⟩
      case round =>
        obtain ⟨p, hp, rfl, d, rfl⟩ := hrel
        by_cases hpm : p < M
        · go_wp2_with fail
          go_loopw [21, 22] (fun sv kv wk => ∃ t : Nat, t ≤ K ∧ kv = .int .i64 t ∧ (∃ sb, sv = .float .f64 sb ∧ absF sb = dotF (fun t => absF (pat z1 len1 (q * s1 + t))) (fun t => absF (pat z2 len2 (t * s2 + p))) t) ∧ ∃ d, wk = W.drewN d) (fun _ i _ => K - (intOf i).toNat)
          case atStart => exact ⟨0, by omega, rfl, ⟨0, rfl, rfl⟩, d, rfl⟩
          case round =>
            obtain ⟨t, ht, rfl, ⟨sb, rfl, hsb⟩, d, rfl⟩ := hrel
            have H : Hid (absF sb = dotF (fun t => absF (pat z1 len1 (q * s1 + t))) (fun t => absF (pat z2 len2 (t * s2 + p))) t) := hsb
            clear hsb
            by_cases htk : t < K
            · have h1 := sound_reach sA hqr htk
              have h2 := sound_reach sB htk hpm
              have c1 := HA.out _ h1
              have c2 := HB.out _ h2
              have i1 : (q : Int) * (s1 : Int) + (t : Int) < dA := by have : ((q * s1 + t : Nat) : Int) < dA := by omega
                                                                      simpa using this
              have i2 : 0 ≤ (q : Int) * (s1 : Int) := Int.mul_nonneg (by omega) (by omega)
              have i3 : (t : Int) * (s2 : Int) + (p : Int) < dB := by have : ((t * s2 + p : Nat) : Int) < dB := by omega
                                                                      simpa using this
              have i4 : 0 ≤ (t : Int) * (s2 : Int) := Int.mul_nonneg (by omega) (by omega)
              go_wp2
              go_region
              go_wp2
              go_roundw
              case rel => exact ⟨t + 1, by omega, by go_num, ⟨_, rfl, by rw [absF_fR, absF_fR, H.out]; rfl⟩, _, rfl⟩
              case measure => simp [intOf]; omega
            · obtain rfl : t = K := by omega
              have h3 := row_lt hqr hpm
              have c3 := HC.out _ h3
              have e := (HE.out q p hqr hpm).trans H.out.symm
              have hE := fun w => same_any _ _ e w
              have i1 : (q : Int) * (M : Int) + (p : Int) < (r : Int) * (M : Int) := by have : ((q * M + p : Nat) : Int) < ((r * M : Nat) : Int) := by omega
                                                                                        simpa using this
              have i2 : 0 ≤ (q : Int) * (M : Int) := Int.mul_nonneg (by omega) (by omega)
              have i3 : (r : Int) * (M : Int) ≤ 140737488355328 := by have : ((r * M : Nat) : Int) ≤ 140737488355328 := by omega
                                                                      simpa using this
              clear e
              go_wp2_with (go_at_call 44; with_reducible refine (hE _).mono ?_; rintro e w' ⟨rfl, rfl⟩)
              go_roundw
              case rel => exact ⟨p + 1, by omega, by go_num, _, rfl⟩
              case measure => simp [intOf]; omega
        · go_wp2
          go_roundw
          case rel => exact ⟨q + 1, by omega, by go_num, _, rfl⟩
          case measure => simp [intOf]; omega
    · go_wp2
      go_ret
      exact ⟨rfl, below_draws bel d⟩
end Go.Proofs.Ygctag
