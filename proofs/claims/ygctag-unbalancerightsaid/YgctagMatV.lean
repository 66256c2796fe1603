import Derived.Test.YgctagMatU
namespace Go.Proofs.Ygctag
open Go.RowKit

def Cells4 (W : World) (p : Nat) (x0 x1 x2 x3 : Value) : Prop :=
  W.cell? ⟨p, 0, none⟩ = some x0 ∧ W.cell? ⟨p, 1, none⟩ = some x1 ∧ W.cell? ⟨p, 2, none⟩ = some x2 ∧ W.cell? ⟨p, 3, none⟩ = some x3

theorem held_box2 {X W W' : World} {p p' : Nat} {x0 x1 x2 x3 y0 y1 y2 y3 : Value} (hb : Below W.heap.size W W')
    (hS : (W.cell? ⟨p, 0, none⟩ = some x0 ∧ W.cell? ⟨p, 1, none⟩ = some x1 ∧ W.cell? ⟨p, 2, none⟩ = some x2 ∧ W.cell? ⟨p, 3, none⟩ = some x3) ∧ (W.cell? ⟨p', 0, none⟩ = some y0 ∧ W.cell? ⟨p', 1, none⟩ = some y1 ∧ W.cell? ⟨p', 2, none⟩ = some y2 ∧ W.cell? ⟨p', 3, none⟩ = some y3) ∧ Below X.heap.size X W) :
    (W'.cell? ⟨p, 0, none⟩ = some x0 ∧ W'.cell? ⟨p, 1, none⟩ = some x1 ∧ W'.cell? ⟨p, 2, none⟩ = some x2 ∧ W'.cell? ⟨p, 3, none⟩ = some x3) ∧ (W'.cell? ⟨p', 0, none⟩ = some y0 ∧ W'.cell? ⟨p', 1, none⟩ = some y1 ∧ W'.cell? ⟨p', 2, none⟩ = some y2 ∧ W'.cell? ⟨p', 3, none⟩ = some y3) ∧ Below X.heap.size X W' := by
  obtain ⟨⟨h0, h1, h2, h3⟩, ⟨k0, k1, k2, k3⟩, hB⟩ := hS
  exact ⟨⟨(hb.cell (cell_lt h0)).trans h0, (hb.cell (cell_lt h1)).trans h1, (hb.cell (cell_lt h2)).trans h2, (hb.cell (cell_lt h3)).trans h3⟩, ⟨(hb.cell (cell_lt k0)).trans k0, (hb.cell (cell_lt k1)).trans k1, (hb.cell (cell_lt k2)).trans k2, (hb.cell (cell_lt k3)).trans k3⟩, hB.trans (hb.mono hB.size)⟩

theorem grown_cell {W W' : World} {g b o : Nat} {v : Value} (h : W.grownBy W' (some g)) (hne : b ≠ g) (hc : W.cell? ⟨b, o, none⟩ = some v) : W'.cell? ⟨b, o, none⟩ = some v := by
  rw [← hc]; exact World.cell?_of_block (w := W) (h.block b (cell_lt hc) (by simpa using hne))

theorem held_grown {W W' : World} {g p : Nat} {x0 x1 x2 x3 : Value} (h : W.grownBy W' (some g)) (hne : p ≠ g) (hS : W.cell? ⟨p, 0, none⟩ = some x0 ∧ W.cell? ⟨p, 1, none⟩ = some x1 ∧ W.cell? ⟨p, 2, none⟩ = some x2 ∧ W.cell? ⟨p, 3, none⟩ = some x3) :
    W'.cell? ⟨p, 0, none⟩ = some x0 ∧ W'.cell? ⟨p, 1, none⟩ = some x1 ∧ W'.cell? ⟨p, 2, none⟩ = some x2 ∧ W'.cell? ⟨p, 3, none⟩ = some x3 :=
  ⟨grown_cell h hne hS.1, grown_cell h hne hS.2.1, grown_cell h hne hS.2.2.1, grown_cell h hne hS.2.2.2⟩

theorem grown_trans {X W W' : World} {g : Option Nat} (h : X.grownBy W g) (k : W.grownBy W' g) : X.grownBy W' g :=
  ⟨k.os.trans h.os, k.tape.trans h.tape, k.output.trans h.output, Nat.le_trans h.size k.size, fun i hi hne => (k.block i (Nat.lt_of_lt_of_le hi h.size) hne).trans (h.block i hi hne)⟩

theorem grown_of_drew {w w' : World} {g : Option Nat} (h : w.drew.grownBy w' g) : w.grownBy w' g := ⟨h.os, h.tape, h.output, h.size, h.block⟩

theorem dotF_congr {X Y X' Y' : Nat → Option Nat} {n : Nat} (hX : ∀ t, t < n → X t = X' t) (hY : ∀ t, t < n → Y t = Y' t) : dotF X Y n = dotF X' Y' n := by
  induction n with
  | zero => rfl
  | succ n ih =>
    unfold dotF
    rw [hX n (by omega), hY n (by omega), ih (fun t ht => hX t (by omega)) (fun t ht => hY t (by omega))]

/-- One entry more of a row. -/
theorem step_one {D : Nat → Nat → Option Nat} {q m p u : Nat} {bits : Nat → Nat} (h1 : ∀ i j, i < q → j < m → absF (bits (i * m + j)) = D i j) (h2 : ∀ j, j < p → absF (bits (q * m + j)) = D q j) (hp : p < m) (hu : absF u = D q p) :
    (∀ i j, i < q → j < m → absF (upd bits (q * m + p) u (i * m + j)) = D i j) ∧ (∀ j, j < p + 1 → absF (upd bits (q * m + p) u (q * m + j)) = D q j) := by
  constructor
  · intro i j hi hj
    rw [upd_ne _ _ (by have := row_lt (m := m) hi hj; omega)]
    exact h1 i j hi hj
  · intro j hj
    by_cases e : j = p
    · subst e; rw [upd_same]; exact hu
    · rw [upd_ne _ _ (by omega)]; exact h2 j (by omega)

/-- A row of a matrix, read. -/
theorem row_sl {w : World} {a ra : Option Addr} {r c s n q : Nat} {x : Nat → Nat} (hx : Sl w a n fun t => .float .f64 (x t)) (hs : soundB r c s n = true) (hq : q < r) (hra : 0 < c → ∃ b off, a = some ⟨b, off, none⟩ ∧ ra = some ⟨b, off + q * s, none⟩) :
    Sl w ra c fun t => .float .f64 (x (q * s + t)) := by
  intro i hi
  obtain ⟨b, off, ha, hr⟩ := hra (by omega)
  obtain ⟨b', off', ha', hc⟩ := hx _ (sound_reach hs hq hi)
  rw [ha] at ha'; cases ha'
  exact ⟨b, off + q * s, hr, by rw [Nat.add_assoc]; exact hc⟩

set_option maxRecDepth 100000 in
set_option maxHeartbeats 8000000 in
theorem mulT_ok (r k m s1 s2 : Nat) (a1 a2 : Option Addr) (n1 cap1 n2 cap2 : Nat) (x y : Nat → Nat) (w : World) (hn1 : n1 ≤ 140737488355328) (hn2 : n2 ≤ 140737488355328)
    (hc1 : n1 ≤ cap1) (hc2 : n2 ≤ cap2) (hs1 : soundB r k s1 n1 = true) (hs2 : soundB k m s2 n2 = true) (hx : Sl w a1 n1 fun t => .float .f64 (x t)) (hy : Sl w a2 n2 fun t => .float .f64 (y t)) :
    Calls Tagg.prog 45 #[matV r k s1 a1 n1 cap1, matV k m s2 a2 n2 cap2] w fun e w' => ∃ g, e = .returned (.tuple #[matV r m m (some ⟨g, 0, none⟩) (r * m) (r * m), .bool true]) ∧ w.heap.size ≤ g ∧
      (∃ bits : Nat → Nat, w'.rowIs g 46 (r * m) (fun t => .float .f64 (bits t)) ∧ ∀ i j, i < r → j < m → absF (bits (i * m + j)) = dotF (fun t => absF (x (i * s1 + t))) (fun t => absF (y (t * s2 + j))) k) ∧ Below w.heap.size w w' := by
  have hr : r ≤ 512 := by have := of_decide_eq_true hs1; omega
  have hm : m ≤ 512 := by have := of_decide_eq_true hs2; omega
  have hk : k ≤ 512 := by have := of_decide_eq_true hs1; omega
  have hF := fun w => fits_any r k s1 a1 n1 cap1 k m s2 a2 n2 cap2 w hn1 hn2
  have hfit : fitsB r k s1 n1 k m s2 n2 = true := by simp [fitsB, hs1, hs2]
  rw [hfit] at hF
  have hN := fun w => new_ok r m hr hm w
  have hT := fun w hy => transpose_any k m s2 a2 n2 cap2 y w hn2 hc2 hs2 hy
  unfold matV at hF hN hT ⊢
  go_enter Tagg.func45, Tagg.ntmps45
  go_wp2_with fail
  with_reducible refine (hF _).mono ?_
  rintro e w1 ⟨rfl, hb1⟩
  obtain ⟨hcl1, hf1⟩ := bcell hb1
  have sz1 := hb1.size
  simp only [Deep.nblk_alloc] at sz1
  have hbX1 : Below w.heap.size w w1 := (((((Below.refl _ _).alloc (Nat.le_refl _) _).alloc (by simp) _).alloc (by simp; omega) _).trans (hb1.mono (by simp; omega)))
  have bA : Box w1 w.heap.size (.int .i64 r) (.int .i64 k) (.int .i64 s1) (.slice a1 n1 cap1) := (((Box.new w _ _ _ _).alloc _).alloc _).below hb1
  have bB : Box w1 (w.heap.size + 1) (.int .i64 k) (.int .i64 m) (.int .i64 s2) (.slice a2 n2 cap2) := ((Box.new_at (w.alloc _) (by simp) _ _ _ _).alloc _).below hb1
  have bZ : Box w1 (w.heap.size + 1 + 1) (.int .i64 0) (.int .i64 0) (.int .i64 0) (.slice none 0 0) := (Box.new_at ((w.alloc _).alloc _) (by simp) _ _ _ _).below hb1
  go_wp2_with fail
  clear hcl1 hf1 hb1
  with_reducible refine (hT _ (hy.below hbX1)).mono ?_
  rintro e w2 ⟨gt, rfl, hgt, ⟨tb, hrT, hTe⟩, hb2⟩
  have sz2 := hb2.size
  have bA2 := bA.below hb2
  have bB2 := bB.below hb2
  have bZ2 := bZ.below hb2
  have hbX2 : Below w.heap.size w w2 := hbX1.trans (hb2.mono hbX1.size)
  clear bA bB bZ hbX1 hb2
  obtain ⟨cA0, cA1, cA2, cA3⟩ := bA2.cells
  obtain ⟨cB0, cB1, cB2, cB3⟩ := bB2.cells
  have lA := bA2.lt
  have lB := bB2.lt
  go_wp2_with fail
  clear cA0 cA1 cA2 cA3 cB0 cB1 cB2 cB3
  generalize eX : w2.alloc _ = Y
  have hbY : Below w2.heap.size w2 Y := by rw [← eX]; exact (Below.refl _ _).alloc (Nat.le_refl _) _
  have bT : Box Y w2.heap.size (.int .i64 m) (.int .i64 k) (.int .i64 k) (.slice (some ⟨gt, 0, none⟩) (m * k) (m * k)) := by rw [← eX]; exact Box.new _ _ _ _ _
  have hYs : Y.heap.size = w2.heap.size + 1 := by rw [← eX]; simp
  clear eX
  have hrT1 := hrT.of_block (hbY.block gt hrT.lt)
  have hgt2 := hrT.lt
  have bA3 := bA2.below hbY
  have bB3 := bB2.below hbY
  have bZ3 := bZ2.below hbY
  have hbX3 : Below w.heap.size w Y := hbX2.trans (hbY.mono hbX2.size)
  clear bA2 bB2 bZ2 hbX2 hbY hrT
  with_reducible refine (hN _).mono ?_
  rintro e w3 ⟨g, rfl, hg, hrow, hb3⟩
  have sz3 := hb3.size
  go_wp2_with fail
  generalize eX : w3.alloc _ = X
  have hbX' : Below w3.heap.size w3 X := by rw [← eX]; exact (Below.refl _ _).alloc (Nat.le_refl _) _
  have bC : Box X w3.heap.size (.int .i64 r) (.int .i64 m) (.int .i64 m) (.slice (some ⟨g, 0, none⟩) (r * m) (r * m)) := by rw [← eX]; exact Box.new _ _ _ _ _
  have hXs : X.heap.size = w3.heap.size + 1 := by rw [← eX]; simp
  clear eX
  have hbY : Below Y.heap.size Y X := hb3.trans (hbX'.mono sz3)
  have bA := bA3.below hbY
  have bB := bB3.below hbY
  have bZ := bZ3.below hbY
  have bTX := bT.below hbY
  have hgX := hrow.lt
  have hrX := hrow.of_block (hbX'.block g hrow.lt)
  have hrTX := hrT1.of_block (hbY.block gt hrT1.lt)
  have hbX : Below w.heap.size w X := hbX3.trans (hbY.mono hbX3.size)
  clear bA3 bB3 bZ3 bT hbX' hbY hrow hrT1 hbX3 hb3 hF hN hT
  have gA : w.heap.size ≠ g := by omega
  have gB : w.heap.size + 1 ≠ g := by omega
  have gZ : w.heap.size + 1 + 1 ≠ g := by omega
  have gC : w3.heap.size ≠ g := by omega
  have gT : w2.heap.size ≠ g := by omega
  have gtg : gt ≠ g := by omega
  have ha1 : 0 < n1 → ∃ b off, a1 = some ⟨b, off, none⟩ := fun h => by obtain ⟨b, off, e, _⟩ := hx 0 h; exact ⟨b, off, e⟩
  have hsN := sound_new r m hr hm
  have hsT := sound_new m k hm hk
  have hrm : r * m ≤ 512 * 512 := Nat.mul_le_mul hr hm
  have hmk : m * k ≤ 512 * 512 := Nat.mul_le_mul hm hk
  have hRC := fun (i : Nat) (hi : i < r) w => row_any r m m i (some ⟨g, 0, none⟩) (r * m) (r * m) w (by omega) (Nat.le_refl _) hsN hi (fun _ => ⟨g, 0, rfl⟩)
  have hRA := fun (i : Nat) (hi : i < r) w => row_any r k s1 i a1 n1 cap1 w hn1 hc1 hs1 hi ha1
  unfold matV at hRC hRA
  generalize w2.heap.size = h2 at *
  generalize w3.heap.size = h3 at *
  go_loopw [9] (fun i wr => ∃ q : Nat, q ≤ r ∧ i = .int .i64 q ∧ X.grownBy wr (some g) ∧ ∃ bits : Nat → Nat, wr.rowIs g 46 (r * m) (fun t => .float .f64 (bits t)) ∧
      ∀ i j, i < q → j < m → absF (bits (i * m + j)) = dotF (fun t => absF (x (i * s1 + t))) (fun t => absF (y (t * s2 + j))) k) (fun i _ => r - (intOf i).toNat)
  case atStart => exact ⟨0, by omega, rfl, ⟨rfl, rfl, rfl, Nat.le_refl _, fun _ _ _ => rfl⟩, fun _ => 0, hrX, fun i j h => absurd h (Nat.not_lt_zero i)⟩
  case round =>
    obtain ⟨q, hq, rfl, hgr, bits, hrw, hent⟩ := hrel
    have bAr := bA.grown hgr gA
    have bCr := bC.grown hgr gC
    obtain ⟨cA0, cA1, cA2, cA3⟩ := bAr.cells
    by_cases hqr : q < r
    · go_upto_region 8 with fail
      go_cut [10, 11] (fun u v wx => ∃ rc ra, u = .slice rc m m ∧ v = .slice ra k k ∧ (0 < m → rc = some ⟨g, q * m, none⟩) ∧ (0 < k → ∃ b off, a1 = some ⟨b, off, none⟩ ∧ ra = some ⟨b, off + q * s1, none⟩) ∧ Below wr.heap.size wr wx)
      case first =>
        clear cA0 cA1 cA2 cA3
        go_region_held3 (fun W => (W.cell? ⟨w.heap.size, 0, none⟩ = some (.int .i64 r) ∧ W.cell? ⟨w.heap.size, 1, none⟩ = some (.int .i64 k) ∧ W.cell? ⟨w.heap.size, 2, none⟩ = some (.int .i64 s1) ∧ W.cell? ⟨w.heap.size, 3, none⟩ = some (.slice a1 n1 cap1)) ∧
            (W.cell? ⟨h3, 0, none⟩ = some (.int .i64 r) ∧ W.cell? ⟨h3, 1, none⟩ = some (.int .i64 m) ∧ W.cell? ⟨h3, 2, none⟩ = some (.int .i64 m) ∧ W.cell? ⟨h3, 3, none⟩ = some (.slice (some ⟨g, 0, none⟩) (r * m) (r * m))) ∧ Below wr.heap.size wr W)
          (first | exact ⟨bAr.cells, bCr.cells, ⟨rfl, rfl, rfl, Nat.le_refl _, fun _ _ => rfl⟩⟩ | exact held_box2 (by assumption) (by assumption))
          (first | (go_at_call_of 48 (Value.slice a1 n1 cap1); with_reducible refine (hRA q hqr _).mono ?_; rintro e w4 ⟨ra, rfl, hra, hb4⟩) | (go_at_call 48; with_reducible refine (hRC q hqr _).mono ?_; rintro e w3 ⟨rc, rfl, hrc, hb3⟩))
        go_wp2_with fail
        go_meet
        exact ⟨_, _, rfl, rfl, fun h => by obtain ⟨b, o, e1, e2⟩ := hrc h; cases e1; simpa using e2, hra, (by assumption : _ ∧ _ ∧ Below wr.heap.size wr w4).2.2⟩
      case rest =>
        obtain ⟨rc, ra, rfl, rfl, hrc, hra, hbc⟩ := hcut
        have hgc : X.grownBy wc (some g) := grown_below hgr hbc
        have hrwc : wc.rowIs g 46 (r * m) (fun t => .float .f64 (bits t)) := hrw.of_block (hbc.block g hrw.lt)
        clear cA0 cA1 cA2 cA3 hrw hgr hbc bAr bCr
        go_wp2_with fail
        go_loopw [12] (fun jv wj => ∃ p : Nat, p ≤ m ∧ jv = .int .i64 p ∧ X.grownBy wj (some g) ∧ ∃ bits : Nat → Nat, wj.rowIs g 46 (r * m) (fun t => .float .f64 (bits t)) ∧
          (∀ i j, i < q → j < m → absF (bits (i * m + j)) = dotF (fun t => absF (x (i * s1 + t))) (fun t => absF (y (t * s2 + j))) k) ∧
          (∀ j, j < p → absF (bits (q * m + j)) = dotF (fun t => absF (x (q * s1 + t))) (fun t => absF (y (t * s2 + j))) k)) (fun i _ => m - (intOf i).toNat)
        case atStart => exact ⟨0, by omega, rfl, hgc, bits, hrwc, hent, fun j h => absurd h (Nat.not_lt_zero j)⟩
        case round =>
          clear hrwc hgc hent bits
          obtain ⟨p, hp, rfl, hgr, bits, hrw, hent, hent2⟩ := hrel
          have hbj : Below w.heap.size w wr := hbX.grown hgr (by omega) (by intro k hk; cases hk; omega)
          by_cases hp4 : p + 4 ≤ m
          · have hpm1 : p < m := by omega
            obtain rfl := hrc (by omega)
            have bTr := bTX.grown hgr gT
            have hrTr := hrTX.of_block (hgr.block gt hrTX.lt (by simpa using gtg))
            have hxr : Sl wr ra k fun t => .float .f64 (x (q * s1 + t)) := row_sl (hx.below hbj) hs1 hqr hra
            have hA4 := fun w hx hy hg => along_four g (q * m + p) 4 k k m k p ra (some ⟨gt, 0, none⟩) (m * k) (m * k) (r * m) (fun t => x (q * s1 + t)) tb bits w (by omega) (Nat.le_refl _) hk hm hsT (by omega) hx hy hg (by have := row_lt (m := m) hqr (show p + 3 < m by omega); omega)
            unfold matV at hA4
            have hA5 := hA4 wr.drew hxr (Sl.of_row hrTr) hrw
            clear hA4
            have i1 : (p : Int) + 4 ≤ (m : Int) := by omega
            have j0 : (0 : Int) ≤ (p : Int) := by omega
            have j1 : (p : Int) ≤ (p : Int) + 4 := by omega
            have j2 : (0 : Int) ≤ (p : Int) + 4 := by omega
            have t4 : ((p : Int) + 4).toNat = p + 4 := by omega
            have v4 : IntKind.i64.wrap ((p : Int) + 4) = (p : Int) + 4 := IntWalk.i64_in _ ⟨by omega, by omega⟩
            have Hh : Hid (∀ i j, i < q → j < m → absF (bits (i * m + j)) = dotF (fun t => absF (x (i * s1 + t))) (fun t => absF (y (t * s2 + j))) k) := hent
            have Hh2 : Hid (∀ j, j < p → absF (bits (q * m + j)) = dotF (fun t => absF (x (q * s1 + t))) (fun t => absF (y (t * s2 + j))) k) := hent2
            clear hent hent2 hRA hRC hra hx hy bA bB bZ bC hrX bTX hrTX
            go_wp2_with fail
            go_region_held3 (fun W => W.cell? ⟨h2, 0, none⟩ = some (.int .i64 m) ∧ W.cell? ⟨h2, 1, none⟩ = some (.int .i64 k) ∧ W.cell? ⟨h2, 2, none⟩ = some (.int .i64 k) ∧ W.cell? ⟨h2, 3, none⟩ = some (.slice (some ⟨gt, 0, none⟩) (m * k) (m * k)))
              (first | exact bTr.cells | exact held_grown (by assumption) gT (by assumption))
              (first | (go_at_call 87; with_reducible refine hA5.mono ?_; rintro e w5 ⟨rfl, t0, t1, t2, t3, e0, e1, e2, e3, hrw5, hgr5⟩))
            go_wp2
            go_roundw
            case rel =>
              have E : ∀ i, p + i < m → ∀ u, absF u = dotF (fun t => absF (x (q * s1 + t))) (fun t => absF (tb ((p + i) * k + t))) k → absF u = dotF (fun t => absF (x (q * s1 + t))) (fun t => absF (y (t * s2 + (p + i)))) k := by
                intro i hi u hu
                rw [hu]
                exact dotF_congr (fun t ht => rfl) (fun t ht => by rw [hTe t (p + i) ht hi])
              have S1 := step_one Hh.out Hh2.out hpm1 (E 0 (by omega) t0 e0)
              have S2 := step_one S1.1 S1.2 (by omega) (E 1 (by omega) t1 e1)
              have S3 := step_one S2.1 S2.2 (by omega) (E 2 (by omega) t2 e2)
              have S4 := step_one S3.1 S3.2 (by omega) (E 3 (by omega) t3 e3)
              exact ⟨p + 4, by omega, by go_num, grown_trans hgr (grown_of_drew hgr5), _, hrw5, S4.1, S4.2⟩
            case measure => simp [intOf]; omega
          · go_wp2_with fail
            go_loopw [12] (fun jv wj => ∃ p : Nat, p ≤ m ∧ jv = .int .i64 p ∧ X.grownBy wj (some g) ∧ ∃ bits : Nat → Nat, wj.rowIs g 46 (r * m) (fun t => .float .f64 (bits t)) ∧
            (∀ i j, i < q → j < m → absF (bits (i * m + j)) = dotF (fun t => absF (x (i * s1 + t))) (fun t => absF (y (t * s2 + j))) k) ∧
            (∀ j, j < p → absF (bits (q * m + j)) = dotF (fun t => absF (x (q * s1 + t))) (fun t => absF (y (t * s2 + j))) k)) (fun i _ => m - (intOf i).toNat)
            case atStart => exact ⟨p, hp, rfl, hgr, bits, hrw, hent, hent2⟩
            case round =>
              clear hrw hgr hent hent2 hp4 hp hbj bits
              obtain ⟨p, hp, rfl, hgr, bits, hrw, hent, hent2⟩ := hrel
              have hbj : Below w.heap.size w wr := hbX.grown hgr (by omega) (by intro k hk; cases hk; omega)
              by_cases hpm : p < m
              · obtain rfl := hrc (by omega)
                have bTr := bTX.grown hgr gT
                have hrTr := hrTX.of_block (hgr.block gt hrTX.lt (by simpa using gtg))
                have hxr : Sl wr ra k fun t => .float .f64 (x (q * s1 + t)) := row_sl (hx.below hbj) hs1 hqr hra
                have hA4 := fun w hx hy hg => along_one g (q * m + p) 1 k k m k p ra (some ⟨gt, 0, none⟩) (m * k) (m * k) (r * m) (fun t => x (q * s1 + t)) tb bits w (by omega) (Nat.le_refl _) hk hsT hpm hx hy hg (row_lt hqr hpm)
                unfold matV at hA4
                have hA5 := hA4 wr.drew hxr (Sl.of_row hrTr) hrw
                clear hA4
                have i1 : (p : Int) + 1 ≤ (m : Int) := by omega
                have j0 : (0 : Int) ≤ (p : Int) := by omega
                have j1 : (p : Int) ≤ (p : Int) + 1 := by omega
                have j2 : (0 : Int) ≤ (p : Int) + 1 := by omega
                have t4 : ((p : Int) + 1).toNat = p + 1 := by omega
                have v4 : IntKind.i64.wrap ((p : Int) + 1) = (p : Int) + 1 := IntWalk.i64_in _ ⟨by omega, by omega⟩
                have Hh : Hid (∀ i j, i < q → j < m → absF (bits (i * m + j)) = dotF (fun t => absF (x (i * s1 + t))) (fun t => absF (y (t * s2 + j))) k) := hent
                have Hh2 : Hid (∀ j, j < p → absF (bits (q * m + j)) = dotF (fun t => absF (x (q * s1 + t))) (fun t => absF (y (t * s2 + j))) k) := hent2
                clear hent hent2 hRA hRC hra hx hy bA bB bZ bC hrX bTX hrTX
                go_wp2_with fail
                go_region_held3 (fun W => W.cell? ⟨h2, 0, none⟩ = some (.int .i64 m) ∧ W.cell? ⟨h2, 1, none⟩ = some (.int .i64 k) ∧ W.cell? ⟨h2, 2, none⟩ = some (.int .i64 k) ∧ W.cell? ⟨h2, 3, none⟩ = some (.slice (some ⟨gt, 0, none⟩) (m * k) (m * k)))
                  (first | exact bTr.cells | exact held_grown (by assumption) gT (by assumption))
                  (first | (go_at_call 87; with_reducible refine hA5.mono ?_; rintro e w5 ⟨rfl, t0, e0, hrw5, hgr5⟩))
                go_wp2
                go_roundw
                case rel =>
                  have E : absF t0 = dotF (fun t => absF (x (q * s1 + t))) (fun t => absF (y (t * s2 + p))) k := by
                    rw [e0]
                    exact dotF_congr (fun t ht => rfl) (fun t ht => by rw [hTe t p ht hpm])
                  have S1 := step_one Hh.out Hh2.out hpm E
                  exact ⟨p + 1, by omega, by go_num, grown_trans hgr (grown_of_drew hgr5), _, hrw5, S1.1, S1.2⟩
                case measure => simp [intOf]; omega
              · obtain rfl : p = m := by omega
                clear hRA hRC hra hx hy bA bB bZ bC hrX bTX hrTX
                go_wp2
                go_roundw
                case rel =>
                  refine ⟨q + 1, by omega, by go_num, hgr, bits, hrw, ?_⟩
                  intro i j hi hj
                  by_cases e : i = q
                  · subst e; exact hent2 j hj
                  · exact hent i j (by omega) hj
                case measure => simp [intOf]; omega
    · obtain rfl : q = r := by omega
      have bCr := bC.grown hgr gC
      have bZr := bZ.grown hgr gZ
      obtain ⟨z0, z1, z2, z3⟩ := bZr.cells
      obtain ⟨c0, c1, c2, c3⟩ := bCr.cells
      obtain ⟨f0, f1, f2, f3⟩ := bZr.frozen
      clear hRA hRC hx hy bA bB bZ bC hrX bTX hrTX
      go_wp2
      refine bodyPost_ret (v := .tuple #[matV q m m (some ⟨g, 0, none⟩) (q * m) (q * m), .bool true]) (by simp [results, Tagg.results45, go_sem, matV, z0, z1, z2, z3]) rfl ⟨g, rfl, by omega, ⟨bits, ?_, hent⟩, ?_⟩
      · exact (((hrw.setOther (by simp; omega) _).setOther (by simp; omega) _).setOther (by simp; omega) _).setOther (by simp; omega) _
      · exact ((((hbX.grown hgr (by omega) (by intro k hk; cases hk; omega)).setCell (by simp; omega) _).setCell (by simp; omega) _).setCell (by simp; omega) _).setCell (by simp; omega) _
end Go.Proofs.Ygctag
