import Derived.Test.YgctagMatV
namespace Go.Proofs.Ygctag
open Go.RowKit
attribute [local go_sem ↓] run_fadd run_fmul
attribute [local go_sem] run_store_float

theorem upTo_any (lo b e : Nat) (h : lo + b ≤ 9223372036854775807) (w : World) : Calls Tagg.prog 107 #[.int .i64 lo, .int .i64 b, .int .i64 e] w fun e' w' => e' = .returned (.int .i64 (min (lo + b) e : Nat)) ∧ w' = w := by
  by_cases hlt : lo + b < e
  · have H : Hid (min (lo + b) e = lo + b) := Nat.min_eq_left (by omega)
    go_enter Tagg.func107, Tagg.ntmps107
    go_wp2
    go_ret
    exact ⟨by rw [H.out]; simp, rfl⟩
  · have H : Hid (min (lo + b) e = e) := Nat.min_eq_right (by omega)
    go_enter Tagg.func107, Tagg.ntmps107
    go_wp2
    go_ret
    exact ⟨by rw [H.out]; simp, rfl⟩

theorem held_box1 {X W W' : World} {p b o : Nat} {x0 x1 x2 x3 y : Value} (hb : Below W.heap.size W W')
    (hS : (W.cell? ⟨p, 0, none⟩ = some x0 ∧ W.cell? ⟨p, 1, none⟩ = some x1 ∧ W.cell? ⟨p, 2, none⟩ = some x2 ∧ W.cell? ⟨p, 3, none⟩ = some x3) ∧ W.cell? ⟨b, o, none⟩ = some y ∧ Below X.heap.size X W) :
    (W'.cell? ⟨p, 0, none⟩ = some x0 ∧ W'.cell? ⟨p, 1, none⟩ = some x1 ∧ W'.cell? ⟨p, 2, none⟩ = some x2 ∧ W'.cell? ⟨p, 3, none⟩ = some x3) ∧ W'.cell? ⟨b, o, none⟩ = some y ∧ Below X.heap.size X W' := by
  obtain ⟨⟨h0, h1, h2, h3⟩, k0, hB⟩ := hS
  exact ⟨⟨(hb.cell (cell_lt h0)).trans h0, (hb.cell (cell_lt h1)).trans h1, (hb.cell (cell_lt h2)).trans h2, (hb.cell (cell_lt h3)).trans h3⟩, (hb.cell (cell_lt k0)).trans k0, hB.trans (hb.mono hB.size)⟩

/-- Every entry holds the sum of its first so many products. -/
def Prog (R M s1 s2 : Nat) (x y bits : Nat → Nat) (T : Nat → Nat → Nat) : Prop :=
  ∀ p c, p < R → c < M → absF (bits (p * M + c)) = dotF (fun t => absF (x (p * s1 + t))) (fun t => absF (y (t * s2 + c))) (T p c)

theorem Prog.congr {R M s1 s2 : Nat} {x y bits : Nat → Nat} {T T' : Nat → Nat → Nat} (h : Prog R M s1 s2 x y bits T) (e : ∀ p c, p < R → c < M → T p c = T' p c) : Prog R M s1 s2 x y bits T' :=
  fun p c hp hc => by rw [← e p c hp hc]; exact h p c hp hc

theorem Prog.set {R M s1 s2 : Nat} {x y bits : Nat → Nat} {T : Nat → Nat → Nat} (h : Prog R M s1 s2 x y bits T) {p c u n : Nat} (hc : c < M) (hu : absF u = dotF (fun t => absF (x (p * s1 + t))) (fun t => absF (y (t * s2 + c))) n) :
    Prog R M s1 s2 x y (upd bits (p * M + c) u) (fun p' c' => if p' = p ∧ c' = c then n else T p' c') := by
  intro p' c' hp' hc'
  by_cases e : p' = p ∧ c' = c
  · obtain ⟨rfl, rfl⟩ := e
    rw [upd_same]
    simpa using hu
  · rw [upd_ne _ _ (by intro e2; exact e (idx_inj hc' hc e2))]
    simp only [if_neg e]
    exact h p' c' hp' hc'

/-- The block of columns of row p from k to n. -/
def tileT (T : Nat → Nat → Nat) (i P j c D : Nat) : Nat → Nat → Nat := fun p q => if i ≤ p ∧ p < P ∧ j ≤ q ∧ q < c then D else T p q

/-- A piece of row P at n. -/
def rowT (T : Nat → Nat → Nat) (P j c n : Nat) : Nat → Nat → Nat := fun p q => if p = P ∧ j ≤ q ∧ q < c then n else T p q

theorem rowT_start {T : Nat → Nat → Nat} {i P j c D k rows : Nat} (hT : ∀ p q, i ≤ p → p < rows → j ≤ q → q < c → T p q = k) (hP : i ≤ P) (hP2 : P < rows) (p q : Nat) : tileT T i P j c D p q = rowT (tileT T i P j c D) P j c k p q := by
  unfold rowT
  split
  · rename_i h
    obtain ⟨rfl, h1, h2⟩ := h
    unfold tileT
    rw [if_neg (by omega)]
    exact hT p q hP hP2 h1 h2
  · rfl

theorem rowT_end {T : Nat → Nat → Nat} {i P j c D : Nat} (hP : i ≤ P) (p q : Nat) : rowT (tileT T i P j c D) P j c D p q = tileT T i (P + 1) j c D p q := by
  unfold rowT tileT
  by_cases h : p = P ∧ j ≤ q ∧ q < c
  · rw [if_pos h, if_pos (by omega)]
  · rw [if_neg h]
    by_cases h2 : i ≤ p ∧ p < P ∧ j ≤ q ∧ q < c
    · rw [if_pos h2, if_pos (by omega)]
    · rw [if_neg h2, if_neg (by omega)]

theorem rowT_zero {T : Nat → Nat → Nat} {P j c n m : Nat} (p q : Nat) : rowT T P j c n p q = rowT (rowT T P j c n) P j (j + 0) m p q := by
  have h : ¬ (p = P ∧ j ≤ q ∧ q < j + 0) := by omega
  show _ = if p = P ∧ j ≤ q ∧ q < j + 0 then m else _
  rw [if_neg h]

theorem rowT_step {T : Nat → Nat → Nat} {P j e n : Nat} (p q : Nat) : (if p = P ∧ q = j + e then n else rowT T P j (j + e) n p q) = rowT T P j (j + (e + 1)) n p q := by
  unfold rowT
  by_cases h : p = P ∧ q = j + e
  · rw [if_pos h, if_pos (by omega)]
  · rw [if_neg h]
    by_cases h2 : p = P ∧ j ≤ q ∧ q < j + e
    · rw [if_pos h2, if_pos (by omega)]
    · rw [if_neg h2, if_neg (by omega)]

theorem rowT_full {T : Nat → Nat → Nat} {P j c e n m : Nat} (he : j + e = c) (p q : Nat) : rowT (rowT T P j c n) P j (j + e) m p q = rowT T P j c m p q := by
  subst he
  unfold rowT
  by_cases h : p = P ∧ j ≤ q ∧ q < j + e
  · rw [if_pos h, if_pos h]
  · rw [if_neg h, if_neg h, if_neg h]

theorem rowT_at {T : Nat → Nat → Nat} {P j c e n m : Nat} (he : j + e < c) : rowT (rowT T P j c n) P j (j + e) m P (j + e) = n := by
  unfold rowT
  rw [if_neg (by omega), if_pos ⟨rfl, by omega, he⟩]

set_option maxRecDepth 100000 in
set_option maxHeartbeats 8000000 in
theorem tile_any (R K M s1 s2 : Nat) (g ba oa n1 cap1 bb ob n2 cap2 : Nat) (i j k B : Nat) (x y bits : Nat → Nat) (T : Nat → Nat → Nat) (w : World) (hn1 : n1 ≤ 140737488355328) (hn2 : n2 ≤ 140737488355328)
    (hc1 : n1 ≤ cap1) (hc2 : n2 ≤ cap2) (hs1 : soundB R K s1 n1 = true) (hs2 : soundB K M s2 n2 = true) (hx : Sl w (some ⟨ba, oa, none⟩) n1 fun t => .float .f64 (x t)) (hy : Sl w (some ⟨bb, ob, none⟩) n2 fun t => .float .f64 (y t))
    (hrow : w.rowIs g 46 (R * M) fun t => .float .f64 (bits t)) (hga : ba ≠ g) (hgb : bb ≠ g) (hP : Prog R M s1 s2 x y bits T) (hi : i < R) (hj : j < M) (hk : k < K) (hB : B ≤ 512) (hB1 : 1 ≤ B)
    (hT : ∀ p c, i ≤ p → p < min (i + B) R → j ≤ c → c < min (j + B) M → T p c = k) :
    Calls Tagg.prog 88 #[matV R M M (some ⟨g, 0, none⟩) (R * M) (R * M), matV R K s1 (some ⟨ba, oa, none⟩) n1 cap1, matV K M s2 (some ⟨bb, ob, none⟩) n2 cap2, .int .i64 i, .int .i64 j, .int .i64 k, .int .i64 B] w fun e w' =>
      e = .returned (.tuple #[]) ∧ ∃ bits', w'.rowIs g 46 (R * M) (fun t => .float .f64 (bits' t)) ∧ Prog R M s1 s2 x y bits' (tileT T i (min (i + B) R) j (min (j + B) M) (min (k + B) K)) ∧ w.grownBy w' (some g) := by
  have hR : R ≤ 512 := by have := of_decide_eq_true hs1; omega
  have hM : M ≤ 512 := by have := of_decide_eq_true hs2; omega
  have hK : K ≤ 512 := by have := of_decide_eq_true hs1; omega
  have hRM : R * M ≤ 512 * 512 := Nat.mul_le_mul hR hM
  have hsN := sound_new R M hR hM
  have hRC := fun (p : Nat) (hp : p < R) w => row_in R M M p g 0 (R * M) (R * M) w (by omega) (Nat.le_refl _) hsN hp (by omega)
  have hRA := fun (p : Nat) (hp : p < R) w => row_in R K s1 p ba oa n1 cap1 w hn1 hc1 hs1 hp (by omega)
  have hRB := fun (p : Nat) (hp : p < K) w => row_in K M s2 p bb ob n2 cap2 w hn2 hc2 hs2 hp (by omega)
  have U1 := fun w => upTo_any i B R (by omega) w
  have U2 := fun w => upTo_any j B M (by omega) w
  have U3 := fun w => upTo_any k B K (by omega) w
  obtain ⟨rows, hrows⟩ : ∃ r, r = min (i + B) R := ⟨_, rfl⟩
  obtain ⟨cols, hcols⟩ : ∃ r, r = min (j + B) M := ⟨_, rfl⟩
  obtain ⟨depth, hdepth⟩ : ∃ r, r = min (k + B) K := ⟨_, rfl⟩
  rw [← hrows] at U1 hT ⊢
  rw [← hcols] at U2 hT ⊢
  rw [← hdepth] at U3 ⊢
  have q1 : i < rows := by omega
  have q2 : j < cols := by omega
  have q3 : k < depth := by omega
  have q4 : rows ≤ R := by omega
  have q5 : cols ≤ M := by omega
  have q6 : depth ≤ K := by omega
  clear hrows hcols hdepth
  unfold matV at hRC hRA hRB ⊢
  simp only [Nat.zero_add] at hRC
  go_enter Tagg.func88, Tagg.ntmps88
  go_upto_region 1 with fail
  generalize eX : ((w.alloc _).alloc _).alloc _ = X
  have bC : Box X w.heap.size (.int .i64 R) (.int .i64 M) (.int .i64 M) (.slice (some ⟨g, 0, none⟩) (R * M) (R * M)) := by
    rw [← eX]; exact ((Box.new w _ _ _ _).alloc _).alloc _
  have bA : Box X (w.heap.size + 1) (.int .i64 R) (.int .i64 K) (.int .i64 s1) (.slice (some ⟨ba, oa, none⟩) n1 cap1) := by
    rw [← eX]; exact (Box.new_at (w.alloc _) (by simp) _ _ _ _).alloc _
  have bB : Box X (w.heap.size + 1 + 1) (.int .i64 K) (.int .i64 M) (.int .i64 s2) (.slice (some ⟨bb, ob, none⟩) n2 cap2) := by
    rw [← eX]; exact Box.new_at ((w.alloc _).alloc _) (by simp) _ _ _ _
  have hbX : Below w.heap.size w X := by
    rw [← eX]; exact (((Below.refl _ _).alloc (Nat.le_refl _) _).alloc (by simp) _).alloc (by simp; omega) _
  have hXs : X.heap.size = w.heap.size + 3 := by rw [← eX]; simp
  have gl := hrow.lt
  have hrX := hrow.of_block (hbX.block g gl)
  have hxX := hx.below hbX
  have hyX := hy.below hbX
  clear eX hrow hx hy
  obtain ⟨a0, a1, a2, a3⟩ := bA.cells
  obtain ⟨b0, b1, b2, b3⟩ := bB.cells
  go_quiet ((first | (go_at_call 107; with_reducible exact Calls.quiet_of_same (U1 _)) | (go_at_call 107; with_reducible exact Calls.quiet_of_same (U2 _)) | (go_at_call 107; with_reducible exact Calls.quiet_of_same (U3 _))))
  go_wp2_with fail
  clear a0 a1 a2 a3 b0 b1 b2 b3 U1 U2 U3
  generalize eY : X.drewN nq = Y
  have bC2 : Box Y w.heap.size (.int .i64 R) (.int .i64 M) (.int .i64 M) (.slice (some ⟨g, 0, none⟩) (R * M) (R * M)) := by rw [← eY]; exact bC
  have bA2 : Box Y (w.heap.size + 1) (.int .i64 R) (.int .i64 K) (.int .i64 s1) (.slice (some ⟨ba, oa, none⟩) n1 cap1) := by rw [← eY]; exact bA
  have bB2 : Box Y (w.heap.size + 1 + 1) (.int .i64 K) (.int .i64 M) (.int .i64 s2) (.slice (some ⟨bb, ob, none⟩) n2 cap2) := by rw [← eY]; exact bB
  have hwY : w.grownBy Y (some g) := by rw [← eY]; exact ⟨hbX.os, hbX.tape, hbX.output, hbX.size, fun k hk _ => hbX.block k hk⟩
  have hxY : Sl Y (some ⟨ba, oa, none⟩) n1 fun t => .float .f64 (x t) := by rw [← eY]; exact hxX
  have hyY : Sl Y (some ⟨bb, ob, none⟩) n2 fun t => .float .f64 (y t) := by rw [← eY]; exact hyX
  have hrY : Y.rowIs g 46 (R * M) fun t => .float .f64 (bits t) := by rw [← eY]; exact hrX
  have hYs : Y.heap.size = w.heap.size + 3 := by rw [← eY]; exact hXs
  clear eY bC bA bB hbX hxX hyX hrX hXs
  have gC : w.heap.size ≠ g := by omega
  have gA : w.heap.size + 1 ≠ g := by omega
  have gB : w.heap.size + 1 + 1 ≠ g := by omega
  go_loopw [17] (fun v wr => ∃ P : Nat, i ≤ P ∧ P ≤ rows ∧ v = .int .i64 P ∧ Y.grownBy wr (some g) ∧ ∃ bits : Nat → Nat, wr.rowIs g 46 (R * M) (fun t => .float .f64 (bits t)) ∧ Prog R M s1 s2 x y bits (tileT T i P j cols depth)) (fun i _ => rows - (intOf i).toNat)
  case atStart => exact ⟨i, Nat.le_refl _, by omega, rfl, ⟨rfl, rfl, rfl, Nat.le_refl _, fun _ _ _ => rfl⟩, bits, hrY, hP.congr (fun p c _ _ => by unfold tileT; rw [if_neg (by omega)])⟩
  case round =>
    clear hrY hP bits
    obtain ⟨P, hP1, hP2, rfl, hgr, bits, hrw, hPr⟩ := hrel
    by_cases hlt : P < rows
    · have bCr := bC2.grown hgr gC
      have bAr := bA2.grown hgr gA
      have j0 : (0 : Int) ≤ (j : Int) := by omega
      have j1 : (j : Int) ≤ (cols : Int) := by omega
      have j2 : (cols : Int) ≤ (M : Int) := by omega
      have j3 : ¬ cols = j := by omega
      have hPR : P < R := by omega
      go_upto_region 5 with fail
      go_cut [18, 19] (fun u v wx => u = .slice (some ⟨g, P * M + j, none⟩) (cols - j) (cols - j) ∧ v = .slice (some ⟨ba, oa + P * s1, none⟩) K K ∧ Below wr.heap.size wr wx)
      case first =>
        go_region_held3 (fun W => (W.cell? ⟨w.heap.size, 0, none⟩ = some (.int .i64 R) ∧ W.cell? ⟨w.heap.size, 1, none⟩ = some (.int .i64 M) ∧ W.cell? ⟨w.heap.size, 2, none⟩ = some (.int .i64 M) ∧ W.cell? ⟨w.heap.size, 3, none⟩ = some (.slice (some ⟨g, 0, none⟩) (R * M) (R * M))) ∧
            (W.cell? ⟨w.heap.size + 1, 0, none⟩ = some (.int .i64 R) ∧ W.cell? ⟨w.heap.size + 1, 1, none⟩ = some (.int .i64 K) ∧ W.cell? ⟨w.heap.size + 1, 2, none⟩ = some (.int .i64 s1) ∧ W.cell? ⟨w.heap.size + 1, 3, none⟩ = some (.slice (some ⟨ba, oa, none⟩) n1 cap1)) ∧ Below wr.heap.size wr W)
          (first | exact ⟨bCr.cells, bAr.cells, ⟨rfl, rfl, rfl, Nat.le_refl _, fun _ _ => rfl⟩⟩ | exact held_box2 (by assumption) (by assumption))
          (first | (go_at_call_of 48 (Value.slice (some ⟨ba, oa, none⟩) n1 cap1); with_reducible refine (hRA P hPR _).mono ?_; rintro e w4 ⟨rfl, hb4⟩) | (go_at_call 48; with_reducible refine (hRC P hPR _).mono ?_; rintro e w3 ⟨rfl, hb3⟩))
        go_wp2_with fail
        go_meet
        exact ⟨rfl, rfl, (by assumption : _ ∧ _ ∧ Below wr.heap.size wr w4).2.2⟩
      case rest =>
        obtain ⟨rfl, rfl, hbc⟩ := hcut
        have hgc : Y.grownBy wc (some g) := grown_below hgr hbc
        have hrwc : wc.rowIs g 46 (R * M) (fun t => .float .f64 (bits t)) := hrw.of_block (hbc.block g hrw.lt)
        clear hrw hgr hbc bAr bCr hRA hRC
        go_wp2_with fail
        go_loopw [20] (fun v wr => ∃ Q : Nat, k ≤ Q ∧ Q ≤ depth ∧ v = .int .i64 Q ∧ Y.grownBy wr (some g) ∧ ∃ bits : Nat → Nat, wr.rowIs g 46 (R * M) (fun t => .float .f64 (bits t)) ∧ Prog R M s1 s2 x y bits (rowT (tileT T i P j cols depth) P j cols Q)) (fun i _ => depth - (intOf i).toNat)
        case atStart => exact ⟨k, Nat.le_refl _, by omega, rfl, hgc, bits, hrwc, hPr.congr (fun p c _ _ => rowT_start hT hP1 hlt p c)⟩
        case round =>
          clear hrwc hgc hPr bits
          obtain ⟨Q, hQ1, hQ2, rfl, hgr, bits, hrw, hPr⟩ := hrel
          by_cases hlt2 : Q < depth
          · have bBr := bB2.grown hgr gB
            have hQK : Q < K := by omega
            obtain ⟨_, _, eb, cx⟩ := hxY _ (sound_reach hs1 hPR hQK)
            cases eb
            have cx' : wr.cell? ⟨ba, oa + P * s1 + Q, none⟩ = some (.float .f64 (x (P * s1 + Q))) := by rw [Nat.add_assoc]; exact grown_cell hgr hga cx
            have i5 : (Q : Int) < (K : Int) := by omega
            go_upto_region 9 with fail
            go_cut [21, 22] (fun u v wx => u = .float .f64 (x (P * s1 + Q)) ∧ v = .slice (some ⟨bb, ob + Q * s2 + j, none⟩) (cols - j) (cols - j) ∧ Below wr.heap.size wr wx)
            case first =>
              go_region_held3 (fun W => (W.cell? ⟨w.heap.size + 1 + 1, 0, none⟩ = some (.int .i64 K) ∧ W.cell? ⟨w.heap.size + 1 + 1, 1, none⟩ = some (.int .i64 M) ∧ W.cell? ⟨w.heap.size + 1 + 1, 2, none⟩ = some (.int .i64 s2) ∧ W.cell? ⟨w.heap.size + 1 + 1, 3, none⟩ = some (.slice (some ⟨bb, ob, none⟩) n2 cap2)) ∧
                  W.cell? ⟨ba, oa + P * s1 + Q, none⟩ = some (.float .f64 (x (P * s1 + Q))) ∧ Below wr.heap.size wr W)
                (first | exact ⟨bBr.cells, cx', ⟨rfl, rfl, rfl, Nat.le_refl _, fun _ _ => rfl⟩⟩ | exact held_box1 (by assumption) (by assumption))
                (first | (go_at_call 48; with_reducible refine (hRB Q hQK _).mono ?_; rintro e w4 ⟨rfl, hb4⟩))
              go_wp2_with fail
              go_meet
              exact ⟨rfl, rfl, (by assumption : _ ∧ _ ∧ Below wr.heap.size wr w4).2.2⟩
            case rest =>
              obtain ⟨rfl, rfl, hbc⟩ := hcut
              have hgc : Y.grownBy wc (some g) := grown_below hgr hbc
              have hrwc : wc.rowIs g 46 (R * M) (fun t => .float .f64 (bits t)) := hrw.of_block (hbc.block g hrw.lt)
              clear hrw hgr hbc bBr hRB cx cx'
              go_wp2_with fail
              go_loopw [23] (fun v wr => ∃ e : Nat, e ≤ cols - j ∧ v = .int .i64 e ∧ Y.grownBy wr (some g) ∧ ∃ bits : Nat → Nat, wr.rowIs g 46 (R * M) (fun t => .float .f64 (bits t)) ∧ Prog R M s1 s2 x y bits (rowT (rowT (tileT T i P j cols depth) P j cols Q) P j (j + e) (Q + 1))) (fun i _ => (cols - j) - (intOf i).toNat)
              case atStart => exact ⟨0, by omega, rfl, hgc, bits, hrwc, hPr.congr (fun p c _ _ => rowT_zero p c)⟩
              case round =>
                clear hrwc hgc hPr bits
                obtain ⟨e, he, rfl, hgr, bits, hrw, hPr⟩ := hrel
                by_cases hlt3 : e < cols - j
                · obtain ⟨_, _, eb, cy⟩ := hyY _ (sound_reach hs2 hQK (show j + e < M by omega))
                  cases eb
                  have cy' : wr.cell? ⟨bb, ob + Q * s2 + j + e, none⟩ = some (.float .f64 (y (Q * s2 + (j + e)))) := by rw [show ob + Q * s2 + j + e = ob + (Q * s2 + (j + e)) by omega]; exact grown_cell hgr hgb cy
                  have cR : wr.cell? ⟨g, P * M + j + e, none⟩ = some (.float .f64 (bits (P * M + (j + e)))) := by rw [Nat.add_assoc]; exact hrw.cell (row_lt hPR (by omega))
                  have cF := hrw.frozen (P * M + j + e)
                  have i6 : (e : Int) < ((cols - j : Nat) : Int) := by omega
                  have Hp : Hid (Prog R M s1 s2 x y bits (rowT (rowT (tileT T i P j cols depth) P j cols Q) P j (j + e) (Q + 1))) := hPr
                  clear hPr cy
                  go_wp2
                  go_region
                  go_wp2
                  go_roundw
                  case rel =>
                    have hp0 := Hp.out P (j + e) hPR (by omega)
                    rw [rowT_at (by omega)] at hp0
                    refine ⟨e + 1, by omega, by go_num, grown_set hgr _ _ _, upd bits (P * M + (j + e)) ?nval, ?nrow, ?nprog⟩
                    case nrow =>
                      rw [Nat.add_assoc (P * M)]
                      exact row_set (F := Value.float .f64) (row_draws hrw _) (P * M + (j + e)) _
                    case nprog =>
                      refine (Prog.set (n := Q + 1) Hp.out (show j + e < M by omega) ?_).congr (fun p c _ _ => rowT_step p c)
                      rw [absF_fR, absF_fR, hp0]
                      rfl
                  case measure => simp [intOf]; omega
                · obtain rfl : e = cols - j := by omega
                  have he2 : j + (cols - j) = cols := by omega
                  have Hp : Hid (Prog R M s1 s2 x y bits (rowT (tileT T i P j cols depth) P j cols (Q + 1))) := hPr.congr (fun p c _ _ => rowT_full he2 p c)
                  clear hPr hxY hyY he2
                  go_wp2
                  go_roundw
                  case rel => exact ⟨Q + 1, by omega, by omega, by go_num, hgr, bits, hrw, Hp.out⟩
                  case measure => simp [intOf]; omega
          · obtain rfl : Q = depth := by omega
            have Hp : Hid (Prog R M s1 s2 x y bits (tileT T i (P + 1) j cols Q)) := hPr.congr (fun p c _ _ => rowT_end hP1 p c)
            clear hPr hxY hyY hRB
            go_wp2
            go_roundw
            case rel => exact ⟨P + 1, by omega, by omega, by go_num, hgr, bits, hrw, Hp.out⟩
            case measure => simp [intOf]; omega
    · obtain rfl : P = rows := by omega
      have Hp : Hid (Prog R M s1 s2 x y bits (tileT T i P j cols depth)) := hPr
      clear hPr hxY hyY hRA hRB hRC
      go_wp2
      go_end0
      exact ⟨rfl, bits, hrw, Hp.out, grown_trans hwY hgr⟩
end Go.Proofs.Ygctag
