import Derived.Test.YgctagMatTile
namespace Go.Proofs.Ygctag
open Go.RowKit

def T1 (K I : Nat) : Nat → Nat → Nat := fun p _ => if p < I then K else 0
def T2 (K B I J : Nat) : Nat → Nat → Nat := fun p c => if p < I then K else if p < I + B ∧ c < J then K else 0
def T3 (K B I J k : Nat) : Nat → Nat → Nat := fun p c => if p < I then K else if p < I + B ∧ c < J then K else if p < I + B ∧ c < J + B then k else 0

theorem T1_T2 (K B I p c : Nat) : T1 K I p c = T2 K B I 0 p c := by
  unfold T1 T2
  by_cases h : p < I
  · rw [if_pos h, if_pos h]
  · rw [if_neg h, if_neg h, if_neg (by omega)]
theorem T2_T3 (K B I J p c : Nat) : T2 K B I J p c = T3 K B I J (min 0 K) p c := by
  unfold T2 T3
  by_cases h : p < I
  · rw [if_pos h, if_pos h]
  · rw [if_neg h, if_neg h]
    by_cases h2 : p < I + B ∧ c < J
    · rw [if_pos h2, if_pos h2]
    · rw [if_neg h2, if_neg h2]
      split <;> omega
theorem T3_T2 (K B I J k p c : Nat) (hk : K ≤ k) : T3 K B I J (min k K) p c = T2 K B I (J + B) p c := by
  unfold T2 T3
  by_cases h : p < I
  · rw [if_pos h, if_pos h]
  · rw [if_neg h, if_neg h]
    by_cases h2 : p < I + B ∧ c < J
    · rw [if_pos h2, if_pos (by omega)]
    · rw [if_neg h2]
      by_cases h3 : p < I + B ∧ c < J + B
      · rw [if_pos h3, if_pos h3]; omega
      · rw [if_neg h3, if_neg h3]
theorem T2_T1 (K B I J M p c : Nat) (hJ : M ≤ J) (hc : c < M) : T2 K B I J p c = T1 K (I + B) p c := by
  unfold T1 T2
  by_cases h : p < I
  · rw [if_pos h, if_pos (by omega)]
  · rw [if_neg h]
    by_cases h2 : p < I + B
    · rw [if_pos (by omega), if_pos h2]
    · rw [if_neg (by omega), if_neg h2]
theorem T3_tile (K B I J k R M p c : Nat) (hp : p < R) (hc : c < M) : tileT (T3 K B I J (min k K)) I (min (I + B) R) J (min (J + B) M) (min (k + B) K) p c = T3 K B I J (min (k + B) K) p c := by
  unfold tileT
  by_cases h : I ≤ p ∧ p < min (I + B) R ∧ J ≤ c ∧ c < min (J + B) M
  · rw [if_pos h]
    unfold T3
    rw [if_neg (by omega), if_neg (by omega), if_pos (by omega)]
  · rw [if_neg h]
    unfold T3
    by_cases h1 : p < I
    · rw [if_pos h1, if_pos h1]
    · rw [if_neg h1, if_neg h1]
      by_cases h2 : p < I + B ∧ c < J
      · rw [if_pos h2, if_pos h2]
      · rw [if_neg h2, if_neg h2, if_neg (by omega), if_neg (by omega)]
theorem T3_at (K B I J k R M p c : Nat) (h1 : I ≤ p) (h2 : p < min (I + B) R) (h3 : J ≤ c) (h4 : c < min (J + B) M) (hk : k < K) : T3 K B I J (min k K) p c = k := by
  unfold T3
  rw [if_neg (by omega), if_neg (by omega), if_pos (by omega)]
  omega

set_option maxRecDepth 100000 in
set_option maxHeartbeats 8000000 in
theorem mulB_ok (r k m s1 s2 B0 : Nat) (a1 a2 : Option Addr) (n1 cap1 n2 cap2 : Nat) (x y : Nat → Nat) (w : World) (hn1 : n1 ≤ 140737488355328) (hn2 : n2 ≤ 140737488355328) (hB : 1 ≤ B0) (hB2 : B0 ≤ 65536)
    (hc1 : n1 ≤ cap1) (hc2 : n2 ≤ cap2) (hs1 : soundB r k s1 n1 = true) (hs2 : soundB k m s2 n2 = true) (hx : Sl w a1 n1 fun t => .float .f64 (x t)) (hy : Sl w a2 n2 fun t => .float .f64 (y t)) :
    Calls Tagg.prog 46 #[matV r k s1 a1 n1 cap1, matV k m s2 a2 n2 cap2, .int .i64 B0] w fun e w' => ∃ g, e = .returned (.tuple #[matV r m m (some ⟨g, 0, none⟩) (r * m) (r * m), .bool true]) ∧ w.heap.size ≤ g ∧
      (∃ bits : Nat → Nat, w'.rowIs g 46 (r * m) (fun t => .float .f64 (bits t)) ∧ ∀ i j, i < r → j < m → absF (bits (i * m + j)) = dotF (fun t => absF (x (i * s1 + t))) (fun t => absF (y (t * s2 + j))) k) ∧ Below w.heap.size w w' := by
  have hr : r ≤ 512 := by have := of_decide_eq_true hs1; omega
  have hm : m ≤ 512 := by have := of_decide_eq_true hs2; omega
  have hk : k ≤ 512 := by have := of_decide_eq_true hs1; omega
  have hF := fun w => fits_any r k s1 a1 n1 cap1 k m s2 a2 n2 cap2 w hn1 hn2
  have hfit : fitsB r k s1 n1 k m s2 n2 = true := by simp [fitsB, hs1, hs2]
  rw [hfit] at hF
  have hN := fun w => new_ok r m hr hm w
  unfold matV at hF hN ⊢
  go_enter Tagg.func46, Tagg.ntmps46
  go_wp2_with fail
  with_reducible refine (hF _).mono ?_
  rintro e w1 ⟨rfl, hb1⟩
  have sz1 := hb1.size
  simp only [Deep.nblk_alloc] at sz1
  have hbX1 : Below w.heap.size w w1 := (((((Below.refl _ _).alloc (Nat.le_refl _) _).alloc (by simp) _).alloc (by simp; omega) _).trans (hb1.mono (by simp; omega)))
  have bA : Box w1 w.heap.size (.int .i64 r) (.int .i64 k) (.int .i64 s1) (.slice a1 n1 cap1) := (((Box.new w _ _ _ _).alloc _).alloc _).below hb1
  have bB : Box w1 (w.heap.size + 1) (.int .i64 k) (.int .i64 m) (.int .i64 s2) (.slice a2 n2 cap2) := ((Box.new_at (w.alloc _) (by simp) _ _ _ _).alloc _).below hb1
  have bZ : Box w1 (w.heap.size + 1 + 1) (.int .i64 0) (.int .i64 0) (.int .i64 0) (.slice none 0 0) := (Box.new_at ((w.alloc _).alloc _) (by simp) _ _ _ _).below hb1
  clear hb1 hF
  obtain ⟨B, hBd⟩ : ∃ B, B = min B0 512 := ⟨_, rfl⟩
  have hB3 : 1 ≤ B := by omega
  have hB4 : B ≤ 512 := by omega
  have HB : Hid (B = min B0 512) := hBd
  clear hBd
  go_upto_if 23 with fail
  go_cut [2] (fun v wx => v = .int .i64 (B : Nat) ∧ wx = w1)
  case first =>
    by_cases h : 512 < B0
    · go_wp2_with fail
      go_meet
      exact ⟨by rw [show B = 512 by have := HB.out; omega]; rfl, rfl⟩
    · go_wp2_with fail
      go_meet
      exact ⟨by rw [show B = B0 by have := HB.out; omega], rfl⟩
  case rest =>
    obtain ⟨rfl, rfl⟩ := hcut
    obtain ⟨cA0, cA1, cA2, cA3⟩ := bA.cells
    obtain ⟨cB0, cB1, cB2, cB3⟩ := bB.cells
    go_wp2_with fail
    clear cA0 cA1 cA2 cA3 cB0 cB1 cB2 cB3
    with_reducible refine (hN _).mono ?_
    rintro e w3 ⟨g, rfl, hg, hrow, hb3⟩
    have sz3 := hb3.size
    go_wp2_with fail
    generalize eX : w3.alloc _ = X
    have hbX' : Below w3.heap.size w3 X := by rw [← eX]; exact (Below.refl _ _).alloc (Nat.le_refl _) _
    have bC : Box X w3.heap.size (.int .i64 r) (.int .i64 m) (.int .i64 m) (.slice (some ⟨g, 0, none⟩) (r * m) (r * m)) := by rw [← eX]; exact Box.new _ _ _ _ _
    have hXs : X.heap.size = w3.heap.size + 1 := by rw [← eX]; simp
    clear eX
    have hbY : Below wc.heap.size wc X := hb3.trans (hbX'.mono sz3)
    have bAX := bA.below hbY
    have bBX := bB.below hbY
    have bZX := bZ.below hbY
    have hgX := hrow.lt
    have hrX := hrow.of_block (hbX'.block g hrow.lt)
    have hbX : Below w.heap.size w X := hbX1.trans (hbY.mono hbX1.size)
    clear bA bB bZ hbX' hbY hrow hbX1 hb3 hN
    have gA : w.heap.size ≠ g := by omega
    have gB : w.heap.size + 1 ≠ g := by omega
    have gZ : w.heap.size + 1 + 1 ≠ g := by omega
    have gC : w3.heap.size ≠ g := by omega
    generalize w3.heap.size = h3 at *
    have hP0 : Prog r m s1 s2 x y (fun _ => 0) (T1 k 0) := by
      intro p c _ _
      unfold T1
      rw [if_neg (by omega)]
      rfl
    go_loopw [10] (fun v wr => ∃ I : Nat, I ≤ 1024 ∧ v = .int .i64 I ∧ X.grownBy wr (some g) ∧ ∃ bits : Nat → Nat, wr.rowIs g 46 (r * m) (fun t => .float .f64 (bits t)) ∧ Prog r m s1 s2 x y bits (T1 k I)) (fun i _ => 1024 - (intOf i).toNat)
    case atStart => exact ⟨0, by omega, rfl, ⟨rfl, rfl, rfl, Nat.le_refl _, fun _ _ _ => rfl⟩, fun _ => 0, hrX, hP0⟩
    case round =>
      clear hP0 hrX
      obtain ⟨I, hI, rfl, hgr, bits, hrw, hPr⟩ := hrel
      obtain ⟨cA0, cA1, cA2, cA3⟩ := (bAX.grown hgr gA).cells
      by_cases hlt : I < r
      · go_wp2_with fail
        clear cA0 cA1 cA2 cA3
        go_loopw [11] (fun v wr => ∃ J : Nat, J ≤ 1024 ∧ v = .int .i64 J ∧ X.grownBy wr (some g) ∧ ∃ bits : Nat → Nat, wr.rowIs g 46 (r * m) (fun t => .float .f64 (bits t)) ∧ Prog r m s1 s2 x y bits (T2 k B I J)) (fun i _ => 1024 - (intOf i).toNat)
        case atStart => exact ⟨0, by omega, rfl, hgr, bits, hrw, hPr.congr (fun p c _ _ => T1_T2 k B I p c)⟩
        case round =>
          clear hrw hgr hPr bits
          obtain ⟨J, hJ, rfl, hgr, bits, hrw, hPr⟩ := hrel
          obtain ⟨cB0, cB1, cB2, cB3⟩ := (bBX.grown hgr gB).cells
          by_cases hlt2 : J < m
          · go_wp2_with fail
            clear cB0 cB1 cB2 cB3
            go_loopw [12] (fun v wr => ∃ L : Nat, L ≤ 1024 ∧ v = .int .i64 L ∧ X.grownBy wr (some g) ∧ ∃ bits : Nat → Nat, wr.rowIs g 46 (r * m) (fun t => .float .f64 (bits t)) ∧ Prog r m s1 s2 x y bits (T3 k B I J (min L k))) (fun i _ => 1024 - (intOf i).toNat)
            case atStart => exact ⟨0, by omega, rfl, hgr, bits, hrw, hPr.congr (fun p c _ _ => T2_T3 k B I J p c)⟩
            case round =>
              clear hrw hgr hPr bits
              obtain ⟨L, hL, rfl, hgr, bits, hrw, hPr⟩ := hrel
              obtain ⟨cA0, cA1, cA2, cA3⟩ := (bAX.grown hgr gA).cells
              by_cases hlt3 : L < k
              · have hbj : Below w.heap.size w wr := hbX.grown hgr (by omega) (by intro k hk; cases hk; omega)
                obtain ⟨ba, oa, rfl, ca⟩ := hx _ (sound_reach hs1 hlt hlt3)
                obtain ⟨bb, ob, rfl, cb⟩ := hy _ (sound_reach hs2 hlt3 hlt2)
                have la := cell_lt ca
                have lb := cell_lt cb
                have hTile := tile_any r k m s1 s2 g ba oa n1 cap1 bb ob n2 cap2 I J L B x y bits (T3 k B I J (min L k)) wr hn1 hn2 hc1 hc2 hs1 hs2 (hx.below hbj) (hy.below hbj) hrw (by have : ba < w.heap.size := la; omega) (by have : bb < w.heap.size := lb; omega) hPr hlt hlt2 hlt3 hB4 hB3 (fun p c h1 h2 h3 h4 => T3_at k B I J L r m p c h1 h2 h3 h4 hlt3)
                unfold matV at hTile
                obtain ⟨cB0, cB1, cB2, cB3⟩ := (bBX.grown hgr gB).cells
                obtain ⟨cC0, cC1, cC2, cC3⟩ := (bC.grown hgr gC).cells
                clear ca cb la lb hPr
                go_wp2_with fail
                with_reducible refine hTile.mono ?_
                rintro e w5 ⟨rfl, bits', hrw5, hPr5, hgr5⟩
                go_wp2
                go_roundw
                case rel => exact ⟨L + B, by omega, by go_num, grown_trans hgr hgr5, bits', hrw5, hPr5.congr (fun p c hp hc => T3_tile k B I J L r m p c hp hc)⟩
                case measure => simp [intOf]; omega
              · have Hp : Hid (Prog r m s1 s2 x y bits (T2 k B I (J + B))) := hPr.congr (fun p c _ _ => T3_T2 k B I J L p c (by omega))
                clear hPr
                go_wp2
                go_roundw
                case rel => exact ⟨J + B, by omega, by go_num, hgr, bits, hrw, Hp.out⟩
                case measure => simp [intOf]; omega
          · have Hp : Hid (Prog r m s1 s2 x y bits (T1 k (I + B))) := hPr.congr (fun p c _ hc => T2_T1 k B I J m p c (by omega) hc)
            clear hPr
            go_wp2
            go_roundw
            case rel => exact ⟨I + B, by omega, by go_num, hgr, bits, hrw, Hp.out⟩
            case measure => simp [intOf]; omega
      · have Hp : Hid (∀ i j, i < r → j < m → absF (bits (i * m + j)) = dotF (fun t => absF (x (i * s1 + t))) (fun t => absF (y (t * s2 + j))) k) := by
          intro i j hi hj
          have := hPr i j hi hj
          unfold T1 at this
          rwa [if_pos (by omega)] at this
        clear hPr
        have bCr := bC.grown hgr gC
        have bZr := bZX.grown hgr gZ
        obtain ⟨z0, z1, z2, z3⟩ := bZr.cells
        obtain ⟨c0, c1, c2, c3⟩ := bCr.cells
        obtain ⟨f0, f1, f2, f3⟩ := bZr.frozen
        clear hx hy bAX bBX bZX bC
        go_wp2
        refine bodyPost_ret (v := .tuple #[matV r m m (some ⟨g, 0, none⟩) (r * m) (r * m), .bool true]) (by simp [results, Tagg.results46, go_sem, matV, z0, z1, z2, z3]) rfl ⟨g, rfl, by omega, ⟨bits, ?_, Hp.out⟩, ?_⟩
        · exact (((hrw.setOther (by simp; omega) _).setOther (by simp; omega) _).setOther (by simp; omega) _).setOther (by simp; omega) _
        · exact ((((hbX.grown hgr (by omega) (by intro k hk; cases hk; omega)).setCell (by simp; omega) _).setCell (by simp; omega) _).setCell (by simp; omega) _).setCell (by simp; omega) _
end Go.Proofs.Ygctag
