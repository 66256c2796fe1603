import Derived.Test.YgctagWideG
import Derived.Test.YgctagMulL
namespace Go.Proofs.Ygctag
open Go.RowKit

theorem least_log (s : Nat) : ∀ n, 1 ≤ n → s ≤ 2 ^ n → ∃ K, 1 ≤ K ∧ K ≤ n ∧ s ≤ 2 ^ K ∧ ∀ j, 1 ≤ j → j < K → 2 ^ j < s := by
  intro n
  induction n with
  | zero => intro h; omega
  | succ n ih =>
    intro _ hs
    by_cases h : 1 ≤ n ∧ s ≤ 2 ^ n
    · obtain ⟨K, h1, h2, h3, h4⟩ := ih h.1 h.2
      exact ⟨K, h1, by omega, h3, h4⟩
    · refine ⟨n + 1, by omega, Nat.le_refl _, hs, fun j h1 h2 => ?_⟩
      have hn : 2 ^ n < s := by omega
      exact Nat.lt_of_le_of_lt (Nat.pow_le_pow_right (by decide) (by omega)) hn

set_option maxHeartbeats 2000000 in
theorem wideLog_ok (la lb : Nat) (ha : la ≤ 262144) (hb : lb ≤ 262144) (h0 : 0 < la + lb) : ∃ k : Nat, k ≤ 20 ∧ (k ≠ 0 → 18 ≤ k ∧ 2 * (la + lb) ≤ 2 ^ k) ∧
    ∀ w, Calls Tagg.prog 90 #[.int .i64 la, .int .i64 lb] w fun e w' => e = .returned (.int .u8 (k : Int)) ∧ w' = w := by
  obtain ⟨K, hK1, hK2, hK3, hK4⟩ := least_log (2 * (la + lb)) 20 (by decide) (by omega)
  obtain ⟨M, hM⟩ : ∃ M, M = la * lb := ⟨_, rfl⟩
  obtain ⟨Z, hZ⟩ : ∃ Z, Z = 2 ^ K := ⟨_, rfl⟩
  obtain ⟨k, hk⟩ : ∃ k, k = if M < 10000 * Z then 0 else K := ⟨_, rfl⟩
  refine ⟨k, by rw [hk]; split <;> omega, ?_, fun w => ?_⟩
  · intro hk0
    have hge : ¬ M < 10000 * Z := by intro h; rw [if_pos h] at hk; exact hk0 hk
    rw [if_neg hge] at hk
    subst hk
    refine ⟨?_, hK3⟩
    have hs : ¬ la + lb ≤ 65536 := fun h => hge (by rw [hM]; exact wide_small la lb Z h (by rw [hZ]; exact hK3) h0)
    rcases Nat.lt_or_ge k 18 with h | h
    · have := Nat.pow_le_pow_right (n := 2) (by decide) (show k ≤ 17 by omega)
      omega
    · exact h
  · have i1 : (la : Int) ≤ 1048576 := by omega
    have i2 : (lb : Int) ≤ 1048576 := by omega
    have v1 : IntKind.i64.wrap ((la : Int) + (lb : Int)) = (la : Int) + (lb : Int) := IntWalk.i64_in _ ⟨by omega, by omega⟩
    have v2 : IntKind.i64.wrap (2 * ((la : Int) + (lb : Int))) = 2 * ((la : Int) + (lb : Int)) := IntWalk.i64_in _ ⟨by omega, by omega⟩
    have hM2 : M ≤ 68719476736 := by rw [hM]; exact Nat.le_trans (Nat.mul_le_mul ha hb) (by decide)
    have hZ2 : Z ≤ 1048576 := by rw [hZ]; exact Nat.le_trans (Nat.pow_le_pow_right (by decide) hK2) (by decide)
    have e2 : (la : Int) * (lb : Int) = (M : Int) := by rw [hM, Int.natCast_mul]
    have eZ : (2 : Int) ^ K = (Z : Int) := by rw [hZ, Int.natCast_pow]; rfl
    rw [← hZ] at hK3
    have hkH : Hid (k = if M < 10000 * Z then 0 else K) := hk
    have hKH : Hid (∀ j, 1 ≤ j → j < K → 2 ^ j < 2 * (la + lb)) := hK4
    clear hk hM hZ hK4
    go_enter Tagg.func90, Tagg.ntmps90
    go_wp2_with fail
    go_loopw [5] (fun vk wr => ∃ j : Nat, 1 ≤ j ∧ j ≤ K ∧ vk = .int .u8 (j : Int) ∧ wr = w) (fun vk _ => 20 - (intOf vk).toNat)
    case atStart => exact ⟨1, by omega, by omega, rfl, rfl⟩
    case round =>
      obtain ⟨j, hj1, hj2, rfl, rfl⟩ := hrel
      have k1 : (j : Int) ≤ 64 := by omega
      by_cases hlt : j < K
      · have hx := hKH.out j hj1 hlt
        obtain ⟨Y, hY⟩ : ∃ Y, Y = 2 ^ j := ⟨_, rfl⟩
        rw [← hY] at hx
        have e1 : (2 : Int) ^ j = (Y : Int) := by rw [hY, Int.natCast_pow]; rfl
        have v5 : IntKind.i64.wrap (Y : Int) = (Y : Int) := IntWalk.i64_in _ ⟨by omega, by omega⟩
        have j1 : (Y : Int) < 2 * ((la : Int) + (lb : Int)) := by omega
        clear hY
        go_wp2
        go_roundw
        case rel => exact ⟨j + 1, by omega, by omega, by go_num, by trivial⟩
        case measure => simp [intOf]; omega
      · have e : j = K := by omega
        subst e
        have j1 : 2 * ((la : Int) + (lb : Int)) ≤ (Z : Int) := by omega
        have v5 : IntKind.i64.wrap (Z : Int) = (Z : Int) := IntWalk.i64_in _ ⟨by omega, by omega⟩
        have v6 : IntKind.u64.wrap (M : Int) = (M : Int) := IntWalk.u64_in _ ⟨by omega, by omega⟩
        have v7 : IntKind.u64.wrap (10000 * (Z : Int)) = 10000 * (Z : Int) := IntWalk.u64_in _ ⟨by omega, by omega⟩
        have k2 : (j : Int) ≤ 22 := by omega
        by_cases hm : M < 10000 * Z
        · have e3 : (M : Int) < 10000 * (Z : Int) := by omega
          have e4 : k = 0 := by rw [hkH.out, if_pos hm]
          subst e4
          go_wp2
          go_ret
          exact ⟨rfl, rfl⟩
        · have e3 : 10000 * (Z : Int) ≤ (M : Int) := by omega
          have e4 : k = j := by rw [hkH.out, if_neg hm]
          subst e4
          go_wp2
          go_ret
          exact ⟨rfl, rfl⟩

theorem GBox.made (w : World) (xb n R C rt : Nat) : GBox (w.alloc (.cells #[.slice (some ⟨xb, 0, none⟩) n n, .int .i64 (R : Int), .int .i64 (C : Int), .int .u32 (rt : Int)] 128)) w.heap.size xb n R C rt := Deep.blk_alloc_new _ _
theorem GBox.frozen {w : World} {hb xb n R C rt : Nat} (h : GBox w hb xb n R C rt) : w.frozen? ⟨hb, 0, none⟩ = false ∧ w.frozen? ⟨hb, 1, none⟩ = false ∧ w.frozen? ⟨hb, 2, none⟩ = false ∧ w.frozen? ⟨hb, 3, none⟩ = false := by
  unfold GBox at h; simp [World.frozen?, h]
theorem blk_set (w : World) (b i : Nat) (v : Value) {c : Array Value} {t : TypeId} {f : Nat × Nat} (h : w.heap[b]? = some (.cells c t f)) : (w.setCell ⟨b, i, none⟩ v).heap[b]? = some (.cells (c.setIfInBounds i v) t f) := by
  simp [World.setCell, Array.getElem?_modify, h]
theorem GBox.store {w : World} {hb xb n R C rt : Nat} (h : GBox w hb xb n R C rt) (yg : Nat) :
    GBox ((((w.setCell ⟨hb, 0, none⟩ (.slice (some ⟨yg, 0, none⟩) n n)).setCell ⟨hb, 1, none⟩ (.int .i64 (R : Int))).setCell ⟨hb, 2, none⟩ (.int .i64 (C : Int))).setCell ⟨hb, 3, none⟩ (.int .u32 (rt : Int))) hb yg n R C rt :=
  blk_set _ _ _ _ (blk_set _ _ _ _ (blk_set _ _ _ _ (blk_set _ _ _ _ h)))
theorem below_set4 {w w' : World} {B b : Nat} (h : Below B w w') (hB : B ≤ b) (v0 v1 v2 v3 : Value) :
    Below B w ((((w'.setCell ⟨b, 0, none⟩ v0).setCell ⟨b, 1, none⟩ v1).setCell ⟨b, 2, none⟩ v2).setCell ⟨b, 3, none⟩ v3) :=
  (((h.setCell hB _).setCell hB _).setCell hB _).setCell hB _
theorem blk_set4 (w : World) (b k : Nat) (hk : k ≠ b) (v0 v1 v2 v3 : Value) :
    ((((w.setCell ⟨b, 0, none⟩ v0).setCell ⟨b, 1, none⟩ v1).setCell ⟨b, 2, none⟩ v2).setCell ⟨b, 3, none⟩ v3).heap[k]? = w.heap[k]? := by
  rw [Deep.blk_setCell_other _ _ _ _ hk, Deep.blk_setCell_other _ _ _ _ hk, Deep.blk_setCell_other _ _ _ _ hk, Deep.blk_setCell_other _ _ _ _ hk]

set_option maxRecDepth 100000 in
set_option maxHeartbeats 4000000 in
theorem wide_ok (ka kb N R C np nq : Nat) (p q : Option Addr) (P Q : Nat → Int) (w : World) (hka4 : 4 ≤ ka) (hka : ka ≤ 11) (hkb4 : 4 ≤ kb) (hkb : kb ≤ 11) (hkk : (ka + kb) / 2 = ka) (hR : R = 2 ^ ka) (hC : C = 2 ^ kb) (hN : N = R * C) (hfit : 2 * (np + nq) ≤ N)
    (hp0 : 0 < np) (hq0 : 0 < nq) (hp2 : np ≤ 262144) (hq2 : nq ≤ 262144) (hx : Src w p np P) (hy : Src w q nq Q) (hs : Sep p q np nq P Q) :
    Calls Tagg.prog 91 #[.slice p np np, .slice q nq nq, .int .u8 ((ka + kb : Nat) : Int)] w fun e w' => ∃ v, e = .returned v ∧ NatOwn w' w.heap.size v (val P np * val Q nq) ∧ Below w.heap.size w w' := by
  have hle : 2 ^ ka ≤ 2 ^ 11 := Nat.pow_le_pow_right (by decide) hka
  have hle2 : 2 ^ kb ≤ 2 ^ 11 := Nat.pow_le_pow_right (by decide) hkb
  have hN2 : N ≤ 4194304 := by rw [hN]; exact Nat.le_trans (Nat.mul_le_mul (show R ≤ 2048 by omega) (show C ≤ 2048 by omega)) (by decide)
  have hys2 := hy.2.1
  have hG1 := newGrid_ok ka kb N R C np np p P w hka hkb hkk hR hC hN (by omega) hx.1 hx.2.1
  have hG2 := fun W hy => newGrid_ok ka kb N R C nq nq q Q W hka hkb hkk hR hC hN (by omega) hy hys2
  have hIn := fun hb xb x W hne hg hx hxb => ginverse_ok ka kb hb xb N R C x W hka hR hkb hkb4 hC hN hne hg hx hxb
  obtain ⟨FX, hFX⟩ : ∃ FX, FX = fwdT ka kb R C (nib P np) := ⟨_, rfl⟩
  obtain ⟨FY, hFY⟩ : ∃ FY, FY = fwdT ka kb R C (nib Q nq) := ⟨_, rfl⟩
  obtain ⟨Z, hZ⟩ : ∃ Z, Z = nibC P Q np nq N := ⟨_, rfl⟩
  have hFXb : ∀ i, 0 ≤ FX i ∧ FX i < 998244353 := fun i => by rw [hFX]; exact fwd_bound _ _ _ _ _ _
  have hFYb : ∀ i, 0 ≤ FY i ∧ FY i < 998244353 := fun i => by rw [hFY]; exact fwd_bound _ _ _ _ _ _
  have hnbx : ∀ i, i < N → 0 ≤ nib P np i ∧ nib P np i < 998244353 := fun i _ => by have := nib_bound P np hx.2.1 i; omega
  have hnby : ∀ i, i < N → 0 ≤ nib Q nq i ∧ nib Q nq i < 998244353 := fun i _ => by have := nib_bound Q nq hys2 i; omega
  have hFw1 := fun hb xb W hne hg hx => gforward_ok ka kb hb xb N R C (nib P np) W hka hR hkb hkb4 hC hN hne hg hx hnbx
  have hFw2 := fun hb xb W hne hg hx => gforward_ok ka kb hb xb N R C (nib Q nq) W hka hR hkb hkb4 hC hN hne hg hx hnby
  simp only [← hFX] at hFw1
  simp only [← hFY] at hFw2
  have hinv : ∀ i, i < N → invT ka kb R C (fun i => FX i * FY i % 998244353) i = Z i := fun i hi => by
    rw [inv_fwd ka kb R C (nibC P Q np nq N) _ (by omega) (by omega) (by omega) hR hC (fun j hj => by rw [hFX, hFY, prod_fwd ka kb R C np nq P Q (by omega) hR hC (by rw [← hN]; exact hfit) j, hN]) i (by rw [← hN]; exact hi), hZ]
    have hb := nibC_bound P Q np nq N i hx.2.1 hys2 (by omega) hp2
    exact Int.emod_eq_of_lt hb.1 hb.2
  have hZb : ∀ i, 0 ≤ Z i ∧ Z i < 998244353 := fun i => by rw [hZ]; exact nibC_bound P Q np nq N i hx.2.1 hys2 (by omega) hp2
  obtain ⟨V, hV⟩ : ∃ V, V = val P np * val Q nq := ⟨_, rfl⟩
  have hVZ : V = val (pairC Z) (np + nq) := by rw [hV, hZ, pair_val P Q np nq N hfit]
  have hV0 : 0 ≤ V ∧ V < P8 (np + nq) := by
    have h1 := val_bound hx.2.1
    have h2 := val_bound hys2
    rw [hV]
    refine ⟨Int.mul_nonneg h1.1 h2.1, ?_⟩
    have h3 : val P np * val Q nq < P8 np * P8 nq := Int.lt_of_le_of_lt (Int.mul_le_mul_of_nonneg_left (Int.le_of_lt h2.2) h1.1) (Int.mul_lt_mul_of_pos_right h1.2 (P8_pos nq))
    have h4 : P8 np * P8 nq = P8 (np + nq) := by unfold P8; rw [Nat.pow_add, Int.natCast_mul]
    rw [← h4]; exact h3
  rw [← hV]
  obtain ⟨k, hk⟩ : ∃ k, k = ka + kb := ⟨_, rfl⟩
  rw [← hk] at hG1 ⊢
  simp only [← hk] at hG2 hFw1 hFw2 hIn
  generalize rootN k = rt at *
  have hFXH : Hid (FX = fwdT ka kb R C (nib P np)) := hFX
  have hFYH : Hid (FY = fwdT ka kb R C (nib Q nq)) := hFY
  have hVH : Hid (V = val (pairC Z) (np + nq)) := hVZ
  have hmk := run_make_row' (P := Tagg.prog) 30 5 (.int .u8 0) 1 Tagg.underlying30 Tagg.info5 rfl .i64 .i64 (np + nq) (by omega) (by omega)
  rw [show ((np + nq : Nat) : Int) = (np : Int) + (nq : Int) by simp] at hmk
  clear hle hle2 hR hC hN hk hkk hV hVZ hFX hFY hZ
  go_enter Tagg.func91, Tagg.ntmps91
  go_wp2_with fail
  with_reducible refine hG1.mono ?_
  rintro e w1 ⟨xg, rfl, hxg, hxr, hb1⟩
  clear hG1
  go_wp2_with fail
  obtain ⟨X, eX⟩ : ∃ X, X = w1.alloc (.cells #[.slice (some ⟨xg, 0, none⟩) N N, .int .i64 (R : Int), .int .i64 (C : Int), .int .u32 (rt : Int)] 128) := ⟨_, rfl⟩
  obtain ⟨hb, ehb⟩ : ∃ hb, hb = w1.heap.size := ⟨_, rfl⟩
  have hGX : GBox X hb xg N R C rt := by rw [eX, ehb]; exact GBox.made _ _ _ _ _ _
  have hxl := hxr.lt
  have hne : hb ≠ xg := by omega
  have hxX : X.rowIs xg 126 N (fun i => .int .u32 (nib P np i)) := by rw [eX]; exact hxr.of_block (Deep.blk_alloc_lt _ _ _ hxl)
  have hbX : Below w.heap.size w X := by rw [eX]; exact hb1.alloc hb1.size _
  have hhb : w.heap.size ≤ hb := by rw [ehb]; exact hb1.size
  rw [← ehb, ← eX]
  clear eX ehb hxr hb1 hxl
  clear w1
  have hF := hFw1 hb xg X hne hGX hxX
  clear hFw1
  with_reducible refine hF.mono ?_
  rintro e w2 ⟨⟨v, rfl⟩, hx2, hg2⟩
  have hB2 : GBox w2 hb xg N R C rt := hGX.grown hg2 hne
  have hb2 : Below w.heap.size w w2 := hbX.grown hg2 hbX.size (fun k hk => by injection hk with hk; omega)
  clear hF hGX hxX hbX hg2
  clear X
  obtain ⟨c0, c1, c2, c3⟩ := hB2.cells
  go_wp2_with fail
  obtain ⟨X, eX⟩ : ∃ X, X = w2.alloc (.cells #[.slice (some ⟨xg, 0, none⟩) N N, .int .i64 (R : Int), .int .i64 (C : Int), .int .u32 (rt : Int)] 128) := ⟨_, rfl⟩
  obtain ⟨yb, eyb⟩ : ∃ yb, yb = w2.heap.size := ⟨_, rfl⟩
  have hGY : GBox X yb xg N R C rt := by rw [eX, eyb]; exact GBox.made _ _ _ _ _ _
  have hGX : GBox X hb xg N R C rt := by rw [eX]; exact (Deep.blk_alloc_lt _ _ _ hB2.lt).trans hB2
  have hyne : yb ≠ hb ∧ yb ≠ xg := by have := hB2.lt; have := hx2.lt; omega
  have hxX : X.rowIs xg 126 N (fun i => .int .u32 (FX i)) := by rw [eX]; exact hx2.of_block (Deep.blk_alloc_lt _ _ _ hx2.lt)
  have hbX : Below w.heap.size w X := by rw [eX]; exact hb2.alloc hb2.size _
  have hyb : w.heap.size ≤ yb := by rw [eyb]; exact hb2.size
  rw [← eyb, ← eX]
  clear eX eyb hx2 hb2 hB2 c0 c1 c2 c3
  clear w2
  have hS := sameMem_ok p q np nq P Q X hp0 hq0 (hx.below hbX) (hy.below hbX) hs
  with_reducible refine hS.mono ?_
  rintro e w3 ⟨sm, rfl, hsm, hb3, hsz3⟩
  have hGY3 := hGY.below hb3
  have hGX3 := hGX.below hb3
  have hx3 := hxX.of_block (hb3.block xg hxX.lt)
  have hbw3 : Below w.heap.size w w3 := hbX.trans (hb3.mono hbX.size)
  have hy3 := hy.below hbw3
  clear hS hGY hGX hxX hbX hb3 hsz3
  clear X
  clear hx hy hs
  go_upto_if 21 with fail
  go_cut [8] (fun v wx => ∃ yb yg : Nat, v = .pointer (some ⟨yb, 0, none⟩) ∧ w.heap.size ≤ yb ∧ w.heap.size ≤ yg ∧ yb ≠ hb ∧ yb ≠ xg ∧ (yg = xg → FY = FX) ∧ hb ≠ yg ∧ GBox wx hb xg N R C rt ∧ GBox wx yb yg N R C rt ∧ wx.rowIs xg 126 N (fun i => .int .u32 (FX i)) ∧ wx.rowIs yg 126 N (fun i => .int .u32 (FY i)) ∧ Below w.heap.size w wx)
  case first =>
    cases sm with
    | true =>
      obtain ⟨rfl, rfl⟩ := hsm rfl
      have hEq : FY = FX := by rw [hFXH.out, hFYH.out]
      have hfin : Hid (∃ yb' yg : Nat, yb = yb' ∧ w.heap.size ≤ yb' ∧ w.heap.size ≤ yg ∧ yb' ≠ hb ∧ yb' ≠ xg ∧ (yg = xg → FY = FX) ∧ hb ≠ yg ∧ GBox w3 hb xg N R C rt ∧ GBox w3 yb' yg N R C rt ∧ w3.rowIs xg 126 N (fun i => .int .u32 (FX i)) ∧ w3.rowIs yg 126 N (fun i => .int .u32 (FY i)) ∧ Below w.heap.size w w3) :=
        ⟨yb, xg, rfl, hyb, hxg, hyne.1, hyne.2, fun _ => hEq, hne, hGX3, hGY3, hx3, by rw [hEq]; exact hx3, hbw3⟩
      clear hsm hG2 hFw2 hIn hGX3 hGY3 hx3 hbw3 hy3 hmk hFXb hFYb hnbx hnby hinv hZb hV0 hEq
      go_wp2
      go_meet
      obtain ⟨yb', yg, rfl, h⟩ := hfin.out
      exact ⟨_, yg, rfl, h⟩
    | false =>
      have hN2 := hG2 w3 hy3.1
      clear hsm hG2 hIn hmk hFXb hFYb hnbx hnby hinv hZb hV0
      go_wp2_with fail
      with_reducible refine hN2.mono ?_
      rintro e w4 ⟨yg, rfl, hyg, hyr, hb4⟩
      clear hN2
      have hygw : w.heap.size ≤ yg := Nat.le_trans hbw3.size hyg
      have hyyg : yb ≠ yg ∧ hb ≠ yg ∧ xg ≠ yg := by have := hGX3.lt; have := hGY3.lt; have := hx3.lt; omega
      have hGY4 := hGY3.below hb4
      have hGX4 := hGX3.below hb4
      have hx4 := hx3.of_block (hb4.block xg hx3.lt)
      have hbw4 : Below w.heap.size w w4 := hbw3.trans (hb4.mono hbw3.size)
      clear hGY3 hGX3 hx3 hbw3 hb4 hy3 hyg
      obtain ⟨c0, c1, c2, c3⟩ := hGY4.cells
      obtain ⟨f0, f1, f2, f3⟩ := hGY4.frozen
      go_wp2_with fail
      obtain ⟨X, eX⟩ : ∃ X, X = ((((w4.setCell ⟨yb, 0, none⟩ (.slice (some ⟨yg, 0, none⟩) N N)).setCell ⟨yb, 1, none⟩ (.int .i64 (R : Int))).setCell ⟨yb, 2, none⟩ (.int .i64 (C : Int))).setCell ⟨yb, 3, none⟩ (.int .u32 (rt : Int))) := ⟨_, rfl⟩
      have hGY : GBox X yb yg N R C rt := by rw [eX]; exact hGY4.store yg
      have hGX : GBox X hb xg N R C rt := by rw [eX]; exact (blk_set4 _ _ _ (Ne.symm hyne.1) _ _ _ _).trans hGX4
      have hxX : X.rowIs xg 126 N (fun i => .int .u32 (FX i)) := by rw [eX]; exact hx4.of_block (blk_set4 _ _ _ (Ne.symm hyne.2) _ _ _ _)
      have hyX : X.rowIs yg 126 N (fun i => .int .u32 (nib Q nq i)) := by rw [eX]; exact hyr.of_block (blk_set4 _ _ _ (Ne.symm hyyg.1) _ _ _ _)
      have hbX : Below w.heap.size w X := by rw [eX]; exact below_set4 hbw4 hyb _ _ _ _
      rw [← eX]
      clear eX hx4 hyr hbw4 hGX4 hGY4 c0 c1 c2 c3 f0 f1 f2 f3
      clear w4
      have hF := hFw2 yb yg X hyyg.1 hGY hyX
      clear hFw2
      with_reducible refine hF.mono ?_
      rintro e w5 ⟨⟨v5, rfl⟩, hy5, hg5⟩
      have hfin : Hid (∃ yb' yg : Nat, yb = yb' ∧ w.heap.size ≤ yb' ∧ w.heap.size ≤ yg ∧ yb' ≠ hb ∧ yb' ≠ xg ∧ (yg = xg → FY = FX) ∧ hb ≠ yg ∧ GBox w5 hb xg N R C rt ∧ GBox w5 yb' yg N R C rt ∧ w5.rowIs xg 126 N (fun i => .int .u32 (FX i)) ∧ w5.rowIs yg 126 N (fun i => .int .u32 (FY i)) ∧ Below w.heap.size w w5) :=
        ⟨yb, yg, rfl, hyb, hygw, hyne.1, hyne.2, fun h => absurd h.symm hyyg.2.2, hyyg.2.1, hGX.grown hg5 hyyg.2.1, hGY.grown hg5 hyyg.1, hxX.of_block (hg5.block xg hxX.lt (by simpa using hyyg.2.2)), hy5, hbX.grown hg5 hbX.size (fun k hk => by injection hk with hk; omega)⟩
      clear hF hGX hGY hxX hyX hbX hy5 hg5
      go_wp2
      go_meet
      obtain ⟨yb', yg, rfl, h⟩ := hfin.out
      exact ⟨_, yg, rfl, h⟩
  case rest =>
    clear hsm hG2 hFw2 hGX3 hGY3 hx3 hbw3 hy3 hyne hyb hnbx hnby
    obtain ⟨yb, yg, rfl, hyb, hyg, hy1, hy2, hEq, hhy, hGX, hGY, hxr, hyr, hbw⟩ := hcut
    have hInv := fun W hg hx => hIn hb xg (fun i => FX i * FY i % 998244353) W hne hg hx (fun i _ => by omega)
    clear hIn
    go_wp2_with fail
    go_loopw [9] (fun vi wr => ∃ t : Nat, t ≤ N ∧ vi = .int .i64 (t : Int) ∧ wc.grownBy wr (some xg) ∧ wr.rowIs xg 126 N (fun i => .int .u32 (if i < t then FX i * FY i % 998244353 else FX i))) (fun vi _ => N - (intOf vi).toNat)
    case atStart => exact ⟨0, by omega, rfl, ⟨rfl, rfl, rfl, Nat.le_refl _, fun _ _ _ => rfl⟩, hxr.congr fun t _ => by rw [if_neg (Nat.not_lt_zero _)]⟩
    case round =>
      obtain ⟨t, ht, rfl, hgr, hrw⟩ := hrel
      have hBX := hGX.grown hgr hne
      have hBY := hGY.grown hgr hy2
      obtain ⟨c0, c1, c2, c3⟩ := hBX.cells
      obtain ⟨d0, d1, d2, d3⟩ := hBY.cells
      by_cases htl : t < N
      · have cX : wr.cell? ⟨xg, t, none⟩ = some (.int .u32 (FX t)) := by rw [hrw.cell htl, if_neg (Nat.lt_irrefl t)]
        have cF := hrw.frozen t
        have cY : wr.cell? ⟨yg, t, none⟩ = some (.int .u32 (FY t)) := by
          by_cases e : yg = xg
          · rw [hEq e]; rw [e]; exact cX
          · exact (World.cell?_of_block (hgr.block yg hyr.lt (by simpa using e))).trans (hyr.cell htl)
        have bX := hFXb t
        have bY := hFYb t
        have i1 : (t : Int) < N := by omega
        have hM := mulMod_ok (FX t) (FY t) bX.1 bX.2 bY.1 bY.2
        have hnext : Hid (∀ W', W' = (wr.setCell ⟨xg, t, none⟩ (.int .u32 (FX t * FY t % 998244353))).drew → wc.grownBy W' (some xg) ∧ W'.rowIs xg 126 N (fun i => .int .u32 (if i < t + 1 then FX i * FY i % 998244353 else FX i))) := by
          show ∀ W', _ → _
          rintro W' rfl
          exact ⟨grown_drew (grown_set hgr 0 _ _), row_up32 (F := fun i => FX i * FY i % 998244353) (G := FX) hrw⟩
        clear hrw hgr hBX hBY hGX hGY hxr hyr hbw hInv hFXb hFYb hinv hZb hV0 hmk hEq
        go_wp2_with fail
        go_region_with (go_at_call 110; with_reducible refine (hM _).mono ?_; rintro e w1 ⟨rfl, rfl⟩)
        all_goals go_wp2
        all_goals exact ⟨⟨t + 1, by omega, by go_num, hnext.out _ rfl⟩, by simp [intOf]; omega⟩
      · have e : t = N := by omega
        subst e
        have hrw' : wr.rowIs xg 126 t (fun i => .int .u32 (FX i * FY i % 998244353)) := hrw.congr fun i hi => by rw [if_pos hi]
        have hbw2 : Below w.heap.size w wr := hbw.grown hgr hbw.size (fun k hk => by injection hk with hk; omega)
        have hI := hInv wr hBX hrw'
        clear hrw hrw' hgr hGX hGY hBY hxr hyr hbw hInv hFXb hFYb d0 d1 d2 d3
        go_wp2_with fail
        with_reducible refine hI.mono ?_
        rintro e w2 ⟨⟨v2, rfl⟩, hx2, hg2⟩
        have hB2 := hBX.grown hg2 hne
        have hx2' : w2.rowIs xg 126 t (fun i => .int .u32 (Z i)) := hx2.congr fun i hi => by rw [hinv i hi]
        have hb2 : Below w.heap.size w w2 := hbw2.grown hg2 hbw2.size (fun k hk => by injection hk with hk; omega)
        clear hI hBX hx2 hg2 hbw2 c0 c1 c2 c3 hinv hEq
        clear wr
        have vL : IntKind.i64.wrap ((np : Int) + (nq : Int)) = (np : Int) + (nq : Int) := IntWalk.i64_in _ ⟨by omega, by omega⟩
        go_wp2_with fail
        generalize eX : w2.alloc _ = X
        have hbX : Below w2.heap.size w2 X := by rw [← eX]; exact (Below.refl _ _).alloc (Nat.le_refl _) _
        have hrX : X.rowIs w2.heap.size 5 (np + nq) (fun _ => .int .u8 0) := by rw [← eX]; exact made_at rfl _ _ _
        clear eX hmk
        have hgX : w2.grownBy X (some w2.heap.size) := grown_of_below hbX
        obtain ⟨g, hg⟩ : ∃ g, g = w2.heap.size := ⟨_, rfl⟩
        rw [← hg] at hrX hgX ⊢
        have hgH : Hid (g = w2.heap.size) := hg
        have hgne : hb ≠ g ∧ xg ≠ g := by have := hB2.lt; have := hx2'.lt; omega
        clear hg hbX
        obtain ⟨L, hL⟩ : ∃ L, L = np + nq := ⟨_, rfl⟩
        have eL : (np : Int) + (nq : Int) = (L : Int) := by omega
        rw [← hL] at hrX hV0
        have hVL : Hid (V = val (pairC Z) L) := by rw [hL]; exact hVH
        clear hVH
        rw [← hL]
        have hL2 : 2 * L ≤ t ∧ L ≤ 524288 := by omega
        have hpb : ∀ i, i < L → 0 ≤ pairC Z i ∧ pairC Z i < 36028797018963968 := fun i _ => by unfold pairC; have := hZb (2 * i); have := hZb (2 * i + 1); omega
        have hpe : ∀ i, pairC Z i = Z (2 * i) + Z (2 * i + 1) * 16 := fun _ => rfl
        have hcb := cyN_bound (pairC Z) L hpb
        generalize pairC Z = c at *
        clear hL vL eL hpb
        go_loopw [11, 12] (fun ov i w5 => ∃ t : Nat, t ≤ L ∧ i = .int .i64 (t : Int) ∧ ov = .int .u64 (cyN c L t / P8 t) ∧ w2.grownBy w5 (some g) ∧ w5.rowIs g 5 L (fun j => .int .u8 (if j < t then dg8 V j else 0))) (fun _ i _ => L - (intOf i).toNat)
        case atStart => exact ⟨0, by omega, rfl, by show _ = Value.int .u64 ((0 : Int) / P8 0); rw [P8_zero]; rfl, hgX, hrX.congr fun j _ => by rw [if_neg (by omega)]⟩
        case round =>
          clear hrX hgX
          obtain ⟨s, hs, rfl, rfl, hgr, hrw⟩ := hrel
          have dgt := cy_digit c L s
          have ovr := cy_over c L s
          have hbd := hcb s
          rw [← hVL.out] at dgt
          have hBr := hB2.grown hgr hgne.1
          obtain ⟨c0, c1, c2, c3⟩ := hBr.cells
          have hxr : wr.rowIs xg 126 t (fun i => .int .u32 (Z i)) := hx2'.of_block (hgr.block xg hx2'.lt (by simpa using hgne.2))
          by_cases hsl : s < L
          · rw [if_pos hsl, hpe] at dgt ovr
            have cA := hxr.cell (i := 2 * s) (by omega)
            have cB := hxr.cell (i := 2 * s + 1) (by omega)
            have zA := hZb (2 * s)
            have zB := hZb (2 * s + 1)
            have cR := hrw.cell (i := s) (by omega)
            have cF := hrw.frozen s
            have hup := row_up8 (F := dg8 V) (G := fun _ => 0) hrw
            have i1 : (s : Int) < L := by omega
            have i2 : 2 * (s : Int) < t := by omega
            have i3 : 2 * (s : Int) + 1 < t := by omega
            have i4 : (2 * (s : Int)).toNat = 2 * s := by omega
            have i5 : (2 * (s : Int) + 1).toNat = 2 * s + 1 := by omega
            have v1 : IntKind.i64.wrap (2 * (s : Int)) = 2 * (s : Int) := IntWalk.i64_in _ ⟨by omega, by omega⟩
            have v2 : IntKind.i64.wrap (2 * (s : Int) + 1) = 2 * (s : Int) + 1 := IntWalk.i64_in _ ⟨by omega, by omega⟩
            have hnext : Hid (∀ d W', W' = (wr.drewN d).setCell ⟨g, s, none⟩ (.int .u8 (dg8 V s)) → w2.grownBy W' (some g) ∧ W'.rowIs g 5 L (fun j => .int .u8 (if j < s + 1 then dg8 V j else 0))) := by
              show ∀ d W', _ → _
              rintro d W' rfl
              exact ⟨grown_set hgr d _ _, hup⟩
            obtain ⟨OV, hOV⟩ : ∃ OV, OV = cyN c L (s + 1) / P8 (s + 1) := ⟨_, rfl⟩
            rw [← hOV] at ovr
            have hOVH : Hid (OV = cyN c L (s + 1) / P8 (s + 1)) := hOV
            clear hxr hrw hgr hup hOV hV0 hB2 hx2' hBr hZb hpe hcb hb2
            generalize cyN c L s / P8 s = OL at *
            generalize Z (2 * s) = ZA at *
            generalize Z (2 * s + 1) = ZB at *
            have dgt' : IntKind.u8.wrap (OL + (ZA + ZB * 16)) = dg8 V s := dgt
            have w1 : IntKind.u64.wrap (ZB * 16) = ZB * 16 := IntWalk.u64_in _ ⟨by omega, by omega⟩
            have w2' : IntKind.u64.wrap (ZA + ZB * 16) = ZA + ZB * 16 := IntWalk.u64_in _ ⟨by omega, by omega⟩
            have w3 : IntKind.u64.wrap (OL + (ZA + ZB * 16)) = OL + (ZA + ZB * 16) := IntWalk.u64_in _ ⟨by omega, by omega⟩
            clear dgt
            go_wp2_with fail
            go_quiet (fail)
            go_wp2
            exact ⟨⟨s + 1, by omega, by go_num, by rw [hOVH.out], hnext.out _ _ rfl⟩, by simp [intOf]; omega⟩
          · have e : s = L := by omega
            subst e
            have hrow := hrw.congr (g := fun j => .int .u8 (dg8 V j)) (fun j hj => by rw [if_pos hj])
            have hgW : w.heap.size ≤ g := by have := hgH.out; have := hb2.size; omega
            have hbel : Below w.heap.size w wr := hb2.grown hgr hb2.size (fun k hk => by injection hk with hk; omega)
            have hT := strip89 (some ⟨g, 0, none⟩) s s (dg8 V) wr (Nat.le_refl _) (by omega) (Sl.of_row hrow)
            have hown := natOwn_cut (B := w.heap.size) hgW hV0.1 hV0.2 hrow
            clear hxr hrw hgr hV0 hB2 hx2' hBr hZb hpe hcb hb2 hrow dgt ovr
            generalize cyN c s s / P8 s = OV at *
            go_wp2_with fail
            with_reducible refine hT.mono ?_
            rintro e w6 ⟨rfl, rfl⟩
            go_wp2
            go_ret
            exact ⟨_, rfl, hown, hbel⟩

theorem wideC_all : WideC 262144 := fun np nq h1 h2 h3 => by
  obtain ⟨k, hk, hk0, hL⟩ := wideLog_ok np nq (by omega) (by omega) (by omega)
  refine ⟨k, by omega, hL, fun h p q P Q w hx hy hs => ?_⟩
  obtain ⟨h18, hfit⟩ := hk0 h
  have e : k / 2 + (k - k / 2) = k := by omega
  have hN : 2 ^ k = 2 ^ (k / 2) * 2 ^ (k - k / 2) := by rw [← Nat.pow_add, e]
  have hW := wide_ok (k / 2) (k - k / 2) (2 ^ k) (2 ^ (k / 2)) (2 ^ (k - k / 2)) np nq p q P Q w (by omega) (by omega) (by omega) (by omega) (by rw [e]) rfl rfl hN hfit (by omega) (by omega) (by omega) (by omega) hx hy hs
  rw [e] at hW
  exact hW
end Go.Proofs.Ygctag
