import Derived.Test.YgctagMatT
namespace Go.Proofs.Ygctag
open Go.RowKit
attribute [local go_sem] run_store_float

theorem icast_lt2 {i m j a b : Nat} (h : i * m + j < a * b) : (i : Int) * (m : Int) + (j : Int) < (a : Int) * (b : Int) := by
  have : ((i * m + j : Nat) : Int) < ((a * b : Nat) : Int) := by omega
  simpa using this
theorem icast_lt {i m j N : Nat} (h : i * m + j < N) : (i : Int) * (m : Int) + (j : Int) < (N : Int) := by
  have : ((i * m + j : Nat) : Int) < (N : Int) := by omega
  simpa using this
theorem icast_nonneg (i m : Nat) : 0 ≤ (i : Int) * (m : Int) := Int.mul_nonneg (by omega) (by omega)
theorem icast_prod {a b B : Nat} (h : a * b ≤ B) : (a : Int) * (b : Int) ≤ (B : Int) := by
  have : ((a * b : Nat) : Int) ≤ (B : Int) := by omega
  simpa using this

theorem idx_inj {p q j i r : Nat} (hq : q < r) (hi : i < r) (h : p * r + q = j * r + i) : p = j ∧ q = i := by
  have h1 : (p * r + q) / r = p := by rw [Nat.mul_comm, Nat.mul_add_div (by omega), Nat.div_eq_of_lt hq]; rfl
  have h2 : (j * r + i) / r = j := by rw [Nat.mul_comm, Nat.mul_add_div (by omega), Nat.div_eq_of_lt hi]; rfl
  have h3 : p = j := by rw [← h1, h, h2]
  subst h3
  exact ⟨rfl, by omega⟩

set_option maxRecDepth 100000 in
set_option maxHeartbeats 4000000 in
theorem transpose_any (r c s : Nat) (a : Option Addr) (n cap : Nat) (x : Nat → Nat) (w : World) (hn : n ≤ 140737488355328) (hcap : n ≤ cap) (hs : soundB r c s n = true) (hx : Sl w a n fun t => .float .f64 (x t)) :
    Calls Tagg.prog 86 #[matV r c s a n cap] w fun e w' => ∃ g, e = .returned (matV c r r (some ⟨g, 0, none⟩) (c * r) (c * r)) ∧ w.heap.size ≤ g ∧
      (∃ bits : Nat → Nat, w'.rowIs g 46 (c * r) (fun t => .float .f64 (bits t)) ∧ ∀ i j, i < r → j < c → bits (j * r + i) = x (i * s + j)) ∧ Below w.heap.size w w' := by
  have hr : r ≤ 512 := by have := of_decide_eq_true hs; omega
  have hc : c ≤ 512 := by have := of_decide_eq_true hs; omega
  have hN := fun w => new_ok c r hc hr w
  have ha : 0 < n → ∃ b off, a = some ⟨b, off, none⟩ := fun h => by obtain ⟨b, off, e, _⟩ := hx 0 h; exact ⟨b, off, e⟩
  have hR := fun (i : Nat) (hi : i < r) w => row_any r c s i a n cap w hn hcap hs hi ha
  unfold matV at hN hR ⊢
  go_enter Tagg.func86, Tagg.ntmps86
  go_wp2_with fail
  with_reducible refine (hN _).mono ?_
  rintro e w2 ⟨g, rfl, hg, hrow, hb2⟩
  have sz2 := hb2.size
  simp only [Deep.nblk_alloc] at sz2 hg
  go_wp2_with fail
  generalize eX : w2.alloc _ = X
  have bA : Box X w.heap.size (.int .i64 r) (.int .i64 c) (.int .i64 s) (.slice a n cap) := by
    rw [← eX]; exact (((Box.new w _ _ _ _).alloc _).below hb2).alloc _
  have bZ : Box X (w.heap.size + 1) (.int .i64 0) (.int .i64 0) (.int .i64 0) (.slice none 0 0) := by
    rw [← eX]; exact ((Box.new_at (w.alloc _) (by simp) _ _ _ _).below hb2).alloc _
  have bT : Box X w2.heap.size (.int .i64 c) (.int .i64 r) (.int .i64 r) (.slice (some ⟨g, 0, none⟩) (c * r) (c * r)) := by
    rw [← eX]; exact Box.new _ _ _ _ _
  have hrX : X.rowIs g 46 (c * r) fun _ => .float .f64 0 := by rw [← eX]; exact hrow.alloc _
  have hbX : Below w.heap.size w X := by
    rw [← eX]
    exact ((((Below.refl _ _).alloc (Nat.le_refl _) _).alloc (by simp) _).trans (hb2.mono (by simp; omega))).alloc (by omega) _
  have hgX : g < w2.heap.size := hrow.lt
  have hXs : X.heap.size = w2.heap.size + 1 := by rw [← eX]; simp
  clear eX hb2 hrow hN
  have gA : w.heap.size ≠ g := by omega
  have gT : w2.heap.size ≠ g := by omega
  go_loopw [5] (fun i wr => ∃ q : Nat, q ≤ r ∧ i = .int .i64 q ∧ X.grownBy wr (some g) ∧ ∃ bits : Nat → Nat, wr.rowIs g 46 (c * r) (fun t => .float .f64 (bits t)) ∧
      ∀ i j, i < q → j < c → bits (j * r + i) = x (i * s + j)) (fun i _ => r - (intOf i).toNat)
  case atStart => exact ⟨0, by omega, rfl, ⟨rfl, rfl, rfl, Nat.le_refl _, fun _ _ _ => rfl⟩, fun _ => 0, hrX, fun i j h => absurd h (Nat.not_lt_zero i)⟩
  case round =>
    obtain ⟨q, hq, rfl, hgr, bits, hrw, hent⟩ := hrel
    have bAr := bA.grown hgr gA
    obtain ⟨cA0, cA1, cA2, cA3⟩ := bAr.cells
    by_cases hqr : q < r
    · go_wp2_with fail
      with_reducible refine (hR q hqr _).mono ?_
      rintro e wc ⟨ra, rfl, hra, hbc⟩
      have hgc : X.grownBy wc (some g) := grown_below hgr hbc
      have hrwc : wc.rowIs g 46 (c * r) (fun t => .float .f64 (bits t)) := hrw.of_block (hbc.block g hrw.lt)
      clear cA0 cA1 cA2 cA3 hrw hgr hbc bAr
      go_wp2_with fail
      go_loopw [7] (fun jv wj => ∃ p : Nat, p ≤ c ∧ jv = .int .i64 p ∧ X.grownBy wj (some g) ∧ ∃ bits : Nat → Nat, wj.rowIs g 46 (c * r) (fun t => .float .f64 (bits t)) ∧
        (∀ i j, i < q → j < c → bits (j * r + i) = x (i * s + j)) ∧ (∀ j, j < p → bits (j * r + q) = x (q * s + j))) (fun i _ => c - (intOf i).toNat)
      case atStart => exact ⟨0, by omega, rfl, hgc, bits, hrwc, hent, fun j h => absurd h (Nat.not_lt_zero j)⟩
      case round =>
        clear hrwc hgc hent bits
        obtain ⟨p, hp, rfl, hgr, bits, hrw, hent, hent2⟩ := hrel
        by_cases hpc : p < c
        · obtain ⟨b1, o1, ea, rfl⟩ := hra (by omega)
          have hbj : Below w.heap.size w wr := hbX.grown hgr (by omega) (by intro k hk; cases hk; omega)
          obtain ⟨b1', o1', ea', cx⟩ := hx _ (sound_reach hs hqr hpc)
          rw [ea] at ea'; cases ea'
          have cx' : wr.cell? ⟨b1, o1 + q * s + p, none⟩ = some (.float .f64 (x (q * s + p))) := by rw [Nat.add_assoc]; exact (hbj.cell (cell_lt cx)).trans cx
          obtain ⟨-, -, cT2, cT3⟩ := (bT.grown hgr gT).cells
          have hpos : p * r + q < c * r := row_lt hpc hqr
          have cR : wr.cell? ⟨g, p * r + q, none⟩ = some (.float .f64 (bits (p * r + q))) := hrw.cell hpos
          have cF := hrw.frozen (p * r + q)
          have hcr : c * r ≤ 512 * 512 := Nat.mul_le_mul hc hr
          have i1 := icast_lt2 hpos
          have i2 := icast_nonneg p r
          have i3 := icast_prod hcr
          have i4 : (p : Int) < (c : Int) := by omega
          clear ea cx hra hx hbX bA bZ bT hrX hR
          go_wp2
          go_region
          go_wp2
          go_roundw
          case rel =>
            refine ⟨p + 1, by omega, by go_num, grown_set hgr 1 _ _, upd bits (p * r + q) (x (q * s + p)), ?_, ?_, ?_⟩
            · exact row_set (F := Value.float .f64) (row_draws hrw 1) (p * r + q) (x (q * s + p))
            · intro i j hi hj
              rw [upd_ne _ _ (by intro e; have := idx_inj hqr (show i < r by omega) e.symm; omega)]
              exact hent i j hi hj
            · intro j hj
              by_cases e : j = p
              · subst e; exact upd_same _ _ _
              · rw [upd_ne _ _ (by intro e2; exact e (idx_inj hqr hqr e2.symm).1.symm)]; exact hent2 j (by omega)
          case measure => simp [intOf]; omega
        · obtain rfl : p = c := by omega
          clear hra hx bA bZ bT hrX hR
          go_wp2
          go_roundw
          case rel =>
            refine ⟨q + 1, by omega, by go_num, hgr, bits, hrw, ?_⟩
            intro i j hi hj
            by_cases e : i = q
            · subst e; exact hent2 j hj
            · exact hent i j (by omega) hj
          case measure => simp [intOf]; omega
    · obtain rfl : q = r := by omega
      have bTr := bT.grown hgr gT
      have bZr := bZ.grown hgr (by omega)
      obtain ⟨z0, z1, z2, z3⟩ := bZr.cells
      obtain ⟨c0, c1, c2, c3⟩ := bTr.cells
      obtain ⟨f0, f1, f2, f3⟩ := bZr.frozen
      clear hR hx bA bZ bT hrX
      go_wp2
      refine bodyPost_ret (v := matV c q q (some ⟨g, 0, none⟩) (c * q) (c * q)) (by simp [results, Tagg.results86, go_sem, matV, z0, z1, z2, z3]) rfl ⟨g, rfl, by omega, ⟨bits, ?_, hent⟩, ?_⟩
      · exact (((hrw.setOther (by simp; omega) _).setOther (by simp; omega) _).setOther (by simp; omega) _).setOther (by simp; omega) _
      · exact ((((hbX.grown hgr (by omega) (by intro k hk; cases hk; omega)).setCell (by simp) _).setCell (by simp) _).setCell (by simp) _).setCell (by simp) _
end Go.Proofs.Ygctag
