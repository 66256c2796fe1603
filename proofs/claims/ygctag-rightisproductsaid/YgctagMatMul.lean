import Derived.Test.YgctagMatB
import Derived.Test.YgctagFloat
import Derived.Deep.DeepCutAuto
import Derived.Deep.RegionWith
namespace Go.Proofs.Ygctag
open Go.RowKit

theorem run_fadd (x y : Nat) (w : World) : (binOp .add 46 (.float .f64 x) (.float .f64 y)).run Tagg.prog w = .ok (.float .f64 (fR .add w x y)) (w.drewN (fN .add x y)) := run_fop .add 46 rfl x y w
theorem run_fmul (x y : Nat) (w : World) : (binOp .mul 46 (.float .f64 x) (.float .f64 y)).run Tagg.prog w = .ok (.float .f64 (fR .mul w x y)) (w.drewN (fN .mul x y)) := run_fop .mul 46 rfl x y w
attribute [local go_sem ↓] run_fadd run_fmul
attribute [local go_sem] run_store_float

/-- A struct of four cells in a block of its own. -/
def Box (w : World) (b : Nat) (x0 x1 x2 x3 : Value) : Prop := w.heap[b]? = some (.cells #[x0, x1, x2, x3] 69 (0, 0))
theorem Box.cells {w : World} {b : Nat} {x0 x1 x2 x3 : Value} (h : Box w b x0 x1 x2 x3) :
    w.cell? ⟨b, 0, none⟩ = some x0 ∧ w.cell? ⟨b, 1, none⟩ = some x1 ∧ w.cell? ⟨b, 2, none⟩ = some x2 ∧ w.cell? ⟨b, 3, none⟩ = some x3 := by
  unfold Box at h; simp [World.cell?, h]
theorem Box.frozen {w : World} {b : Nat} {x0 x1 x2 x3 : Value} (h : Box w b x0 x1 x2 x3) :
    w.frozen? ⟨b, 0, none⟩ = false ∧ w.frozen? ⟨b, 1, none⟩ = false ∧ w.frozen? ⟨b, 2, none⟩ = false ∧ w.frozen? ⟨b, 3, none⟩ = false := by
  unfold Box at h; simp [World.frozen?, h]
theorem Box.lt {w : World} {b : Nat} {x0 x1 x2 x3 : Value} (h : Box w b x0 x1 x2 x3) : b < w.heap.size := by
  obtain ⟨h, _⟩ := Array.getElem?_eq_some_iff.1 h; exact h
theorem Box.below {w w' : World} {b : Nat} {x0 x1 x2 x3 : Value} (h : Box w b x0 x1 x2 x3) (hb : Below w.heap.size w w') : Box w' b x0 x1 x2 x3 := (hb.block b h.lt).trans h
theorem Box.grown {w w' : World} {b g : Nat} {x0 x1 x2 x3 : Value} (h : Box w b x0 x1 x2 x3) (hb : w.grownBy w' (some g)) (hne : b ≠ g) : Box w' b x0 x1 x2 x3 := (hb.block b h.lt (by simpa using hne)).trans h
theorem Box.alloc {w : World} {b : Nat} {x0 x1 x2 x3 : Value} (h : Box w b x0 x1 x2 x3) (o : Obj) : Box (w.alloc o) b x0 x1 x2 x3 := (Deep.blk_alloc_lt w o b h.lt).trans h
theorem Box.drew {w : World} {b : Nat} {x0 x1 x2 x3 : Value} (h : Box w b x0 x1 x2 x3) : Box w.drew b x0 x1 x2 x3 := h
theorem Box.new (w : World) (x0 x1 x2 x3 : Value) : Box (w.alloc (.cells #[x0, x1, x2, x3] 69)) w.heap.size x0 x1 x2 x3 := Deep.blk_alloc_new w _

theorem Box.new_at (w : World) {b : Nat} (hb : b = w.heap.size) (x0 x1 x2 x3 : Value) : Box (w.alloc (.cells #[x0, x1, x2, x3] 69)) b x0 x1 x2 x3 := by subst hb; exact Box.new w _ _ _ _

/-- The sum of the products, from the left. -/
def dotF (X Y : Nat → Option Nat) : Nat → Option Nat
  | 0 => some 0
  | t + 1 => fop .add (dotF X Y t) (fop .mul (X t) (Y t))

theorem sound_reach {r c s n i j : Nat} (h : soundB r c s n = true) (hi : i < r) (hj : j < c) : i * s + j < n := by
  have hs' := of_decide_eq_true h
  obtain ⟨_, _, _, _, _, h | h | ⟨h1, h2⟩⟩ := hs'
  · omega
  · omega
  · have h3 : ((r - 1) * s : Nat) + c ≤ n := by
      have : (((r - 1) * s : Nat) : Int) + c ≤ n := by
        rw [Int.natCast_mul, Int.natCast_sub (by omega)]; exact h2
      omega
    have : i * s ≤ (r - 1) * s := Nat.mul_le_mul_right s (by omega)
    omega

theorem sound_new (r c : Nat) (hr : r ≤ 512) (hc : c ≤ 512) : soundB r c c (r * c) = true := by
  unfold soundB
  apply decide_eq_true
  refine ⟨by omega, by omega, by omega, by omega, Int.le_refl _, ?_⟩
  by_cases h : r = 0
  · left; omega
  · right; right
    constructor
    · intro hr
      have : 1 * c ≤ r * c := Nat.mul_le_mul_right c (by omega)
      omega
    · obtain ⟨q, rfl⟩ : ∃ q, r = q + 1 := ⟨r - 1, by omega⟩
      have e : (((q + 1 : Nat) : Int) - 1) = (q : Int) := by omega
      rw [e, Int.natCast_mul, Int.natCast_add, Int.add_mul]
      omega

theorem grown_below {X w w' : World} {g : Option Nat} (h : X.grownBy w g) (hb : Below w.heap.size w w') : X.grownBy w' g :=
  ⟨hb.os.trans h.os, hb.tape.trans h.tape, hb.output.trans h.output, Nat.le_trans h.size hb.size, fun k hk hne => (hb.block k (Nat.lt_of_lt_of_le hk h.size)).trans (h.block k hk hne)⟩

theorem row_lt {i j r m : Nat} (hi : i < r) (hj : j < m) : i * m + j < r * m := by
  have : (i + 1) * m ≤ r * m := Nat.mul_le_mul_right m hi
  rw [Nat.add_mul] at this
  omega

theorem grown_set {X w : World} {g : Nat} (h : X.grownBy w (some g)) (d i : Nat) (v : Value) : X.grownBy ((w.drewN d).setCell ⟨g, i, none⟩ v) (some g) :=
  ⟨h.os, h.tape, h.output, by rw [Deep.nblk_setCell]; exact h.size, fun k hk hne => (Deep.blk_setCell_other _ _ _ _ (by intro e; subst e; exact hne rfl)).trans (h.block k hk hne)⟩

/-- The address of a row of a matrix. -/
theorem row_any (r c s i : Nat) (a : Option Addr) (n cap : Nat) (w : World) (hn : n ≤ 140737488355328) (hcap : n ≤ cap) (hs : soundB r c s n = true) (hi : i < r) (ha : 0 < n → ∃ b off, a = some ⟨b, off, none⟩) :
    Calls Tagg.prog 48 #[matV r c s a n cap, .int .i64 i] w fun e w' => ∃ ra, e = .returned (.slice ra c c) ∧ (0 < c → ∃ b off, a = some ⟨b, off, none⟩ ∧ ra = some ⟨b, off + i * s, none⟩) ∧ Below w.heap.size w w' := by
  by_cases hc : 0 < c
  · obtain ⟨b, off, rfl⟩ := ha (by have := sound_reach hs hi hc; omega)
    refine (row_in r c s i b off n cap w hn hcap hs hi hc).mono ?_
    rintro e w' ⟨rfl, hb⟩
    exact ⟨_, rfl, fun _ => ⟨b, off, rfl, rfl⟩, hb⟩
  · obtain rfl : c = 0 := by omega
    refine (row_out r 0 s i a n cap w hn (by simp)).mono ?_
    rintro e w' ⟨rfl, hb⟩
    exact ⟨none, rfl, fun h => absurd h (Nat.lt_irrefl _), hb⟩

set_option maxRecDepth 100000 in
set_option maxHeartbeats 2000000 in
theorem mul_ok (r k m s1 s2 : Nat) (a1 a2 : Option Addr) (n1 cap1 n2 cap2 : Nat) (x y : Nat → Nat) (w : World) (hn1 : n1 ≤ 140737488355328) (hn2 : n2 ≤ 140737488355328)
    (hc1 : n1 ≤ cap1) (hs1 : soundB r k s1 n1 = true) (hs2 : soundB k m s2 n2 = true) (hx : Sl w a1 n1 fun t => .float .f64 (x t)) (hy : Sl w a2 n2 fun t => .float .f64 (y t)) :
    Calls Tagg.prog 41 #[matV r k s1 a1 n1 cap1, matV k m s2 a2 n2 cap2] w fun e w' => ∃ g, e = .returned (.tuple #[matV r m m (some ⟨g, 0, none⟩) (r * m) (r * m), .bool true]) ∧ w.heap.size ≤ g ∧
      (∃ bits : Nat → Nat, w'.rowIs g 46 (r * m) (fun t => .float .f64 (bits t)) ∧ ∀ i j, i < r → j < m → absF (bits (i * m + j)) = dotF (fun t => absF (x (i * s1 + t))) (fun t => absF (y (t * s2 + j))) k) ∧ Below w.heap.size w w' := by
  have hr : r ≤ 512 := by have := of_decide_eq_true hs1; omega
  have hm : m ≤ 512 := by have := of_decide_eq_true hs2; omega
  have hk : k ≤ 512 := by have := of_decide_eq_true hs1; omega
  have hF := fun w => fits_any r k s1 a1 n1 cap1 k m s2 a2 n2 cap2 w hn1 hn2
  have hfit : fitsB r k s1 n1 k m s2 n2 = true := by simp [fitsB, hs1, hs2]
  rw [hfit] at hF
  have hN := fun w => new_ok r m hr hm w
  unfold matV at hF hN ⊢
  go_enter Tagg.func41, Tagg.ntmps41
  go_wp2_with fail
  refine (hF _).mono ?_
  rintro e w1 ⟨rfl, hb1⟩
  obtain ⟨hcl1, hf1⟩ := bcell hb1
  go_wp2_with fail
  refine (hN _).mono ?_
  rintro e w2 ⟨g, rfl, hg, hrow, hb2⟩
  have sz1 := hb1.size
  have sz2 := hb2.size
  simp only [Deep.nblk_alloc] at sz1
  obtain ⟨X, hX⟩ : ∃ X, X = (w2.alloc (Obj.cells #[.int .i64 r, .int .i64 m, .int .i64 m, .slice (some ⟨g, 0, none⟩) (r * m) (r * m)] 69)) := ⟨_, rfl⟩
  have bA : Box X w.heap.size (.int .i64 r) (.int .i64 k) (.int .i64 s1) (.slice a1 n1 cap1) := by
    rw [hX]; exact (((((Box.new w _ _ _ _).alloc _).alloc _).below hb1).below hb2).alloc _
  have bB : Box X (w.heap.size + 1) (.int .i64 k) (.int .i64 m) (.int .i64 s2) (.slice a2 n2 cap2) := by
    rw [hX]; exact ((((Box.new_at (w.alloc _) (by simp) _ _ _ _).alloc _).below hb1).below hb2).alloc _
  have bZ : Box X (w.heap.size + 1 + 1) (.int .i64 0) (.int .i64 0) (.int .i64 0) (.slice none 0 0) := by
    rw [hX]; exact (((Box.new_at ((w.alloc _).alloc _) (by simp) _ _ _ _).below hb1).below hb2).alloc _
  have bC : Box X w2.heap.size (.int .i64 r) (.int .i64 m) (.int .i64 m) (.slice (some ⟨g, 0, none⟩) (r * m) (r * m)) := by
    rw [hX]; exact Box.new _ _ _ _ _
  have hrX : X.rowIs g 46 (r * m) fun _ => .float .f64 0 := by rw [hX]; exact hrow.alloc _
  have hbX : Below w.heap.size w X := by
    rw [hX]
    exact ((((((Below.refl _ _).alloc (Nat.le_refl _) _).alloc (by simp) _).alloc (by simp; omega) _).trans (hb1.mono (by simp; omega))).trans (hb2.mono (by omega))).alloc (by omega) _
  have hgX : g < w2.heap.size := hrow.lt
  have hxX := hx.below hbX
  have hyX := hy.below hbX
  have hXs : X.heap.size = w2.heap.size + 1 := by rw [hX]; simp
  go_wp2_with fail
  rw [← hX]
  clear hX hcl1 hf1 hb1 hb2 hrow hF hN
  have gA : w.heap.size ≠ g := by omega
  have gB : w.heap.size + 1 ≠ g := by omega
  have gC : w2.heap.size ≠ g := by omega
  have ha1 : 0 < n1 → ∃ b off, a1 = some ⟨b, off, none⟩ := fun h => by obtain ⟨b, off, e, _⟩ := hx 0 h; exact ⟨b, off, e⟩
  have hsN := sound_new r m hr hm
  have hRC := fun (i : Nat) (hi : i < r) w => row_any r m m i (some ⟨g, 0, none⟩) (r * m) (r * m) w (by have : r * m ≤ 512 * 512 := Nat.mul_le_mul hr hm; omega) (Nat.le_refl _) hsN hi (fun _ => ⟨g, 0, rfl⟩)
  have hRA := fun (i : Nat) (hi : i < r) w => row_any r k s1 i a1 n1 cap1 w hn1 hc1 hs1 hi ha1
  unfold matV at hRC hRA
  go_loopw [8] (fun i wr => ∃ q : Nat, q ≤ r ∧ i = .int .i64 q ∧ X.grownBy wr (some g) ∧ ∃ bits : Nat → Nat, wr.rowIs g 46 (r * m) (fun t => .float .f64 (bits t)) ∧
      ∀ i j, i < q → j < m → absF (bits (i * m + j)) = dotF (fun t => absF (x (i * s1 + t))) (fun t => absF (y (t * s2 + j))) k) (fun i _ => r - (intOf i).toNat)
  case atStart => exact ⟨0, by omega, rfl, ⟨rfl, rfl, rfl, Nat.le_refl _, fun _ _ _ => rfl⟩, fun _ => 0, hrX, fun i j h => absurd h (Nat.not_lt_zero i)⟩
  case round =>
    obtain ⟨q, hq, rfl, hgr, bits, hrw, hent⟩ := hrel
    have cA := (bA.grown hgr gA).cells
    obtain ⟨cA0, cA1, cA2, cA3⟩ := cA
    by_cases hqr : q < r
    · obtain ⟨cC0, cC1, cC2, cC3⟩ := (bC.grown hgr gC).cells
      have bAr := bA.grown hgr gA
      go_upto_region 7 with fail
      go_cut [9, 10] (fun u v wx => ∃ rc ra, u = .slice rc m m ∧ v = .slice ra k k ∧ (0 < m → rc = some ⟨g, q * m, none⟩) ∧ (0 < k → ∃ b off, a1 = some ⟨b, off, none⟩ ∧ ra = some ⟨b, off + q * s1, none⟩) ∧ Below wr.heap.size wr wx)
      case first =>
        go_region_with (first | (go_at_call 48; with_reducible refine (hRC q hqr _).mono ?_; rintro e w3 ⟨rc, rfl, hrc, hb3⟩; obtain ⟨d0, d1, d2, d3⟩ := (bAr.drew.below hb3).cells) | (go_at_call 48; with_reducible refine (hRA q hqr _).mono ?_; rintro e w4 ⟨ra, rfl, hra, hb4⟩; obtain ⟨hcl4, hf4⟩ := bcell hb4))
        all_goals
          go_wp2_with fail
          go_meet
          exact ⟨_, _, rfl, rfl, fun h => by obtain ⟨b, o, e1, e2⟩ := hrc h; cases e1; simpa using e2, hra, below_of_drew (hb3.trans (hb4.mono hb3.size))⟩
      case rest =>
        obtain ⟨rc, ra, rfl, rfl, hrc, hra, hbc⟩ := hcut
        have hgc : X.grownBy wc (some g) := grown_below hgr hbc
        have hrwc : wc.rowIs g 46 (r * m) (fun t => .float .f64 (bits t)) := hrw.of_block (hbc.block g hrw.lt)
        clear cA0 cA1 cA2 cA3 cC0 cC1 cC2 cC3 hrw hgr hbc bAr
        go_wp2_with fail
        go_loopw [11] (fun jv wj => ∃ p : Nat, p ≤ m ∧ jv = .int .i64 p ∧ X.grownBy wj (some g) ∧ ∃ bits : Nat → Nat, wj.rowIs g 46 (r * m) (fun t => .float .f64 (bits t)) ∧
          (∀ i j, i < q → j < m → absF (bits (i * m + j)) = dotF (fun t => absF (x (i * s1 + t))) (fun t => absF (y (t * s2 + j))) k) ∧
          (∀ j, j < p → absF (bits (q * m + j)) = dotF (fun t => absF (x (q * s1 + t))) (fun t => absF (y (t * s2 + j))) k)) (fun i _ => m - (intOf i).toNat)
        case atStart => exact ⟨0, by omega, rfl, hgc, bits, hrwc, hent, fun j h => absurd h (Nat.not_lt_zero j)⟩
        case round =>
          clear hrwc hgc hent bits
          obtain ⟨p, hp, rfl, hgr, bits, hrw, hent, hent2⟩ := hrel
          by_cases hpm : p < m
          · obtain rfl := hrc (by omega)
            have hbj : Below w.heap.size w wr := hbX.grown hgr (by omega) (by intro k hk; cases hk; omega)
            have hBr := bB.grown hgr gB
            go_wp2_with fail
            go_loopw [12, 13] (fun sv kv wk => ∃ t : Nat, t ≤ k ∧ kv = .int .i64 t ∧ (∃ sb, sv = .float .f64 sb ∧ absF sb = dotF (fun t => absF (x (q * s1 + t))) (fun t => absF (y (t * s2 + p))) t) ∧ ∃ d, wk = wr.drewN d) (fun _ i _ => k - (intOf i).toNat)
            case atStart => exact ⟨0, by omega, rfl, ⟨0, rfl, rfl⟩, 0, rfl⟩
            case round =>
              obtain ⟨t, ht, rfl, ⟨sb, rfl, hsb⟩, d, rfl⟩ := hrel
              by_cases htk : t < k
              · obtain ⟨b1, o1, ea, rfl⟩ := hra (by omega)
                have hq1 := sound_reach hs1 hqr htk
                have hq2 := sound_reach hs2 htk hpm
                obtain ⟨b1', o1', rfl, cx⟩ := hx _ hq1
                cases ea
                obtain ⟨b2, o2, rfl, cy⟩ := hy _ hq2
                have cx' : wr.cell? ⟨b1, o1 + q * s1 + t, none⟩ = some (.float .f64 (x (q * s1 + t))) := by rw [Nat.add_assoc]; exact (hbj.cell (cell_lt cx)).trans cx
                have cy' : wr.cell? ⟨b2, o2 + (t * s2 + p), none⟩ = some (.float .f64 (y (t * s2 + p))) := (hbj.cell (cell_lt cy)).trans cy
                obtain ⟨-, -, cB2, cB3⟩ := hBr.cells
                have i1 : (t : Int) * (s2 : Int) + (p : Int) < n2 := by have : ((t * s2 + p : Nat) : Int) < n2 := by omega
                                                                        simpa using this
                have i2 : 0 ≤ (t : Int) * (s2 : Int) := Int.mul_nonneg (by omega) (by omega)
                have i3 : (t : Int) < (k : Int) := by omega
                have H : Hid (absF sb = dotF (fun t => absF (x (q * s1 + t))) (fun t => absF (y (t * s2 + p))) t) := hsb
                clear hsb hRA hRC hent hent2 hra hx hy hxX hyX cx cy hbX bA bB bZ bC hrX
                go_wp2
                go_region
                go_wp2
                go_roundw
                case rel => exact ⟨t + 1, by omega, by go_num, ⟨_, rfl, by rw [absF_fR, absF_fR, H.out]; rfl⟩, _, rfl⟩
                case measure => simp [intOf]; omega
              · obtain rfl : t = k := by omega
                have cR : wr.cell? ⟨g, q * m + p, none⟩ = some (.float .f64 (bits (q * m + p))) := hrw.cell (i := q * m + p) (row_lt hqr hpm)
                have cF := hrw.frozen (q * m + p)
                have i1 : (p : Int) < (m : Int) := by omega
                have H : Hid (absF sb = dotF (fun t => absF (x (q * s1 + t))) (fun t => absF (y (t * s2 + p))) t) := hsb
                clear hsb hRA hRC hra hx hy hxX hyX bA bB bZ bC hrX
                go_wp2
                go_roundw
                case rel =>
                  refine ⟨p + 1, by omega, by go_num, grown_set hgr d _ _, upd bits (q * m + p) sb, ?_, ?_, ?_⟩
                  · exact row_set (F := Value.float .f64) (row_draws hrw d) (q * m + p) sb
                  · intro i j hi hj
                    rw [upd_ne _ _ (by have := row_lt (m := m) hi hj; omega)]
                    exact hent i j hi hj
                  · intro j hj
                    by_cases e : j = p
                    · subst e; rw [upd_same]; exact H.out
                    · rw [upd_ne _ _ (by omega)]; exact hent2 j (by omega)
                case measure => simp [intOf]; omega
          · obtain rfl : p = m := by omega
            clear hRA hRC hra hx hy hxX hyX bA bB bZ bC hrX
            go_wp2
            go_roundw
            case rel =>
              refine ⟨q + 1, by omega, by go_num, hgr, bits, hrw, ?_⟩
              intro i j hi hj
              by_cases e : i = q
              · subst e; exact hent2 j hj
              · exact hent i j (by omega) hj
            case measure => simp [intOf]; omega
    · obtain rfl : q = r := by omega
      have bCr := bC.grown hgr gC
      have bZr := bZ.grown hgr (by omega)
      obtain ⟨z0, z1, z2, z3⟩ := bZr.cells
      obtain ⟨c0, c1, c2, c3⟩ := bCr.cells
      obtain ⟨f0, f1, f2, f3⟩ := bZr.frozen
      clear hRA hRC hx hy hxX hyX bA bB bZ bC hrX
      go_wp2
      refine bodyPost_ret (v := .tuple #[matV q m m (some ⟨g, 0, none⟩) (q * m) (q * m), .bool true]) (by simp [results, Tagg.results41, go_sem, matV, z0, z1, z2, z3]) rfl ⟨g, rfl, by omega, ⟨bits, ?_, hent⟩, ?_⟩
      · exact (((hrw.setOther (by simp; omega) _).setOther (by simp; omega) _).setOther (by simp; omega) _).setOther (by simp; omega) _
      · exact ((((hbX.grown hgr (by omega) (by intro k hk; cases hk; omega)).setCell (by simp; omega) _).setCell (by simp; omega) _).setCell (by simp; omega) _).setCell (by simp; omega) _
end Go.Proofs.Ygctag
