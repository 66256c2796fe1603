import Derived.Test.YgctagPassW
namespace Go.Proofs.Ygctag
open Go.RowKit

theorem zc152 : Tagg.zeroCells152 = (List.replicate 4096 (Value.int .u32 0)).toArray := by kernel_rfl
theorem row_rep (w : World) (n : Nat) (t : TypeId) : (w.alloc (.cells (List.replicate n (Value.int .u32 0)).toArray t)).rowIs w.heap.size t n (fun _ => .int .u32 0) := by
  refine ⟨_, Deep.blk_alloc_new w _, by simp, fun i hi => ?_⟩
  simp [hi]

theorem dft_mod_bound (F : Nat → Int) (W : Int) (n j : Nat) : 0 ≤ dft F W n j % 998244353 ∧ dft F W n j % 998244353 < 998244353 := by omega

set_option maxRecDepth 100000 in
set_option maxHeartbeats 2000000 in
theorem transform_ok (k g N off n cap : Nat) (F f : Nat → Int) (W : Int) (w : World) (hk : k ≤ 11) (hn : n = 2 ^ k) (hW0 : 0 ≤ W) (hW : W < 998244353) (hneg : 1 ≤ k → Eqm (W ^ 2 ^ (k - 1)) (-1)) (hcap : n ≤ cap)
    (hx : Vec w g N off n F f) (hF : ∀ i, i < n → 0 ≤ F i ∧ F i < 998244353) :
    Calls Tagg.prog 125 #[.slice (some ⟨g, off, none⟩) n cap, .int .i64 k, .int .u32 W] w fun e w' => e = .returned (.tuple #[]) ∧ Vec w' g N off n (fun j => dft F W n j % 998244353) f ∧ w.grownBy w' (some g) := by
  have hgl := hx.lt
  have hle : 2 ^ k ≤ 2 ^ 11 := Nat.pow_le_pow_right (by decide) hk
  have hP := fun w' rb hf T hx hne h1 h2 hr => passes_ok k g N off n cap rb hf T F f (fun _ => 0) W w' hk hn hW0 hW hneg hcap hx hF hne h1 h2 hr
  have hn2 : n ≤ 2048 := by omega
  clear hn hle hneg
  by_cases h32 : n ≤ 32
  · have h32' : (n : Int) ≤ 32 := by omega
    go_enter Tagg.func125, Tagg.ntmps125
    go_wp2_with fail
    generalize eX : w.alloc _ = X
    have hrX : X.rowIs w.heap.size 149 64 (fun _ => .int .u32 0) := by rw [← eX]; exact row_rep w 64 149
    have hbX : Below w.heap.size w X := by rw [← eX]; exact (Below.refl _ _).alloc (Nat.le_refl _) _
    clear eX
    have hvX := hx.below hbX
    have hP1 := hP X.drew w.heap.size 16 149 hvX (by omega) (by omega) (by omega) hrX
    rw [show 2 * 16 = 32 from rfl] at hP1
    clear hP hvX hrX hF
    go_region_with (go_at_call 131; with_reducible refine hP1.mono ?_; rintro e w3 ⟨rfl, hv3, hg3⟩)
    have hgr : w.grownBy w3 (some g) := ⟨hg3.os.trans hbX.os, hg3.tape.trans hbX.tape, hg3.output.trans hbX.output, Nat.le_trans hbX.size hg3.size, fun i hi hne => (hg3.block i (Nat.lt_of_lt_of_le hi hbX.size) (by simpa using hne) (by omega)).trans (hbX.block i hi)⟩
    clear hP1 hg3 hbX
    go_wp2
    refine bodyPost_ret (v := .tuple #[]) (by simp [results, Tagg.results125, go_sem]) rfl ?_
    exact ⟨rfl, hv3, hgr⟩
  · have h32' : (32 : Int) < n := by omega
    go_enter Tagg.func125, Tagg.ntmps125
    go_wp2_with fail
    generalize eX : w.alloc _ = X
    have hrX : X.rowIs w.heap.size 152 4096 (fun _ => .int .u32 0) := by rw [← eX]; rw [zc152]; exact row_rep w 4096 152
    have hbX : Below w.heap.size w X := by rw [← eX]; exact (Below.refl _ _).alloc (Nat.le_refl _) _
    clear eX
    have hvX := hx.below hbX
    have hP1 := hP X.drew w.heap.size 1024 152 hvX (by omega) (by omega) (by omega) hrX
    rw [show 2 * 1024 = 2048 from rfl] at hP1
    clear hP hvX hrX hF
    go_region_with (go_at_call 131; with_reducible refine hP1.mono ?_; rintro e w3 ⟨rfl, hv3, hg3⟩)
    have hgr : w.grownBy w3 (some g) := ⟨hg3.os.trans hbX.os, hg3.tape.trans hbX.tape, hg3.output.trans hbX.output, Nat.le_trans hbX.size hg3.size, fun i hi hne => (hg3.block i (Nat.lt_of_lt_of_le hi hbX.size) (by simpa using hne) (by omega)).trans (hbX.block i hi)⟩
    clear hP1 hg3 hbX
    go_wp2
    go_end0
    exact ⟨rfl, hv3, hgr⟩

theorem vec_sl {w : World} {g N off n : Nat} {F f : Nat → Int} (h : Vec w g N off n F f) : Sl w (some ⟨g, off, none⟩) n (fun i => .int .u32 (F i)) := fun _ hi => ⟨g, off, rfl, h.cell hi⟩

set_option maxRecDepth 100000 in
set_option maxHeartbeats 2000000 in
theorem forward_ok (k g N off n cap : Nat) (F f : Nat → Int) (w : World) (hk : k ≤ 11) (hn : n = 2 ^ k) (hcap : n ≤ cap) (hx : Vec w g N off n F f) (hF : ∀ i, i < n → 0 ≤ F i ∧ F i < 998244353) :
    Calls Tagg.prog 112 #[.slice (some ⟨g, off, none⟩) n cap] w fun e w' => e = .returned (.bool true) ∧ Vec w' g N off n (fun j => dft F (rootN k) n j % 998244353) f ∧ w.grownBy w' (some g) := by
  have hle : 2 ^ k ≤ 2 ^ 11 := Nat.pow_le_pow_right (by decide) hk
  have hL := level_ok k n hk hn
  have hB := fun w hx => isBelow_ok (some ⟨g, off, none⟩) n cap F w hx hF (by omega)
  have hR := root_ok k (by omega)
  have hT := fun w hx => transform_ok k g N off n cap F f (rootN k) w hk hn (by omega) (by have := rootN_lt k; omega) (fun h => by
    have := root_neg (k - 1) (by omega)
    rw [show k - 1 + 1 = k by omega] at this
    exact this) hcap hx hF
  clear hn hle
  have hk8 : IntKind.u8.wrap (k : Int) = (k : Int) := IntWalk.u8_in _ ⟨by omega, by omega⟩
  go_enter Tagg.func112, Tagg.ntmps112
  go_wp2_with fail
  with_reducible refine (hL _).mono ?_
  rintro e w1 ⟨rfl, rfl⟩
  go_wp2_with fail
  with_reducible refine (hB _ (vec_sl hx)).mono ?_
  rintro e w1 ⟨rfl, rfl⟩
  go_wp2_with fail
  with_reducible refine (hR _).mono ?_
  rintro e w1 ⟨rfl, rfl⟩
  go_wp2_with fail
  with_reducible refine (hT _ hx).mono ?_
  rintro e w2 ⟨rfl, hv, hg⟩
  clear hL hB hR hT
  go_wp2
  go_ret
  exact ⟨rfl, hv, hg⟩

set_option maxRecDepth 100000 in
set_option maxHeartbeats 2000000 in
theorem inverse_gen (k g N off n cap rt R V : Nat) (F f : Nat → Int) (w : World) (hk : k ≤ 11) (hn : n = 2 ^ k) (hcap : n ≤ cap) (hx : Vec w g N off n F f) (hF : ∀ i, i < n → 0 ≤ F i ∧ F i < 998244353)
    (hR0 : ∀ w, Calls Tagg.prog 116 #[.int .u8 k] w fun e w' => e = .returned (.int .u32 (rt : Nat)) ∧ w' = w)
    (hI : ∀ w, Calls Tagg.prog 122 #[.int .u32 rt] w fun e w' => e = .returned (.int .u32 (R : Nat)) ∧ w' = w)
    (hI2 : ∀ w, Calls Tagg.prog 122 #[.int .u32 n] w fun e w' => e = .returned (.int .u32 (V : Nat)) ∧ w' = w)
    (hRl : R < 998244353) (hVl : V < 998244353) (hneg : 1 ≤ k → Eqm ((R : Int) ^ 2 ^ (k - 1)) (-1)) :
    Calls Tagg.prog 121 #[.slice (some ⟨g, off, none⟩) n cap] w fun e w' => e = .returned (.bool true) ∧ Vec w' g N off n (fun j => (dft F R n j * V) % 998244353) f ∧ w.grownBy w' (some g) := by
  have hle : 2 ^ k ≤ 2 ^ 11 := Nat.pow_le_pow_right (by decide) hk
  have hL := level_ok k n hk hn
  have hB := fun w hx => isBelow_ok (some ⟨g, off, none⟩) n cap F w hx hF (by omega)
  have hT := fun w hx => transform_ok k g N off n cap F f R w hk hn (by omega) (by omega) hneg hcap hx hF
  have hn2 : n ≤ 2048 := by omega
  clear hn hle hneg
  have hFc := fun w => factorOf_ok V (by omega) (by omega) w
  have hk8 : IntKind.u8.wrap (k : Int) = (k : Int) := IntWalk.u8_in _ ⟨by omega, by omega⟩
  have hn32 : IntKind.u32.wrap (n : Int) = (n : Int) := IntWalk.u32_in _ ⟨by omega, by omega⟩
  go_enter Tagg.func121, Tagg.ntmps121
  go_wp2_with fail
  with_reducible refine (hL _).mono ?_
  rintro e w1 ⟨rfl, rfl⟩
  go_wp2_with fail
  with_reducible refine (hB _ (vec_sl hx)).mono ?_
  rintro e w1 ⟨rfl, rfl⟩
  go_wp2_with fail
  with_reducible refine (hR0 _).mono ?_
  rintro e w1 ⟨rfl, rfl⟩
  go_wp2_with fail
  with_reducible refine (hI _).mono ?_
  rintro e w1 ⟨rfl, rfl⟩
  go_wp2_with fail
  with_reducible refine (hT _ hx).mono ?_
  rintro e w2 ⟨rfl, hv, hg⟩
  clear hL hB hR0 hT hI hx hF
  go_wp2_with fail
  with_reducible refine (hI2 _).mono ?_
  rintro e w3 ⟨rfl, rfl⟩
  go_wp2_with fail
  with_reducible refine (hFc _).mono ?_
  rintro e w4 ⟨rfl, hb4⟩
  clear hI2 hFc
  have hv4 := hv.below hb4
  have hg4 := grown_below hg hb4
  clear hv hg hb4
  go_wp2_with fail
  generalize eX : w4.alloc _ = X
  have hbX : Below w4.heap.size w4 X := by rw [← eX]; exact (Below.refl _ _).alloc (Nat.le_refl _) _
  have p0 : X.heap[w4.heap.size]? = some (.cells #[.int .u32 (V : Int), .int .u32 (rat V)] 145 (0, 0)) := by rw [← eX]; exact Deep.blk_alloc_new w4 _
  have hvX := hv4.below hbX
  have hgX := grown_below hg4 hbX
  have hpg : w4.heap.size ≠ g := by have := hv4.lt; omega
  have hlX : w4.heap.size < X.heap.size := by rw [← eX]; simp
  clear eX hbX hv4 hg4
  generalize w4.heap.size = p at *
  have hDb := fun j => dft_mod_bound F R n j
  have hfin : ∀ j, tms V (dft F R n j % 998244353) % 998244353 = dft F R n j * V % 998244353 := fun j => by
    obtain ⟨b0, b1⟩ := hDb j
    have h := (tms_bound V (dft F R n j % 998244353) (by omega) (by omega) b0 (by omega)).2.2
    exact (Eqm.iff_emod _ _).1 (h.trans ((Eqm.emod _).mul (Eqm.refl _)))
  have hfinH : Hid _ := hfin
  clear hfin
  obtain ⟨D, hD⟩ : ∃ D : Nat → Int, D = fun j => dft F R n j % 998244353 := ⟨_, rfl⟩
  have hDb' : ∀ j, 0 ≤ D j ∧ D j < 998244353 := fun j => by rw [hD]; exact hDb j
  rw [← hD] at hvX
  go_loopw [6] (fun vi wr => ∃ i : Nat, i ≤ n ∧ vi = .int .i64 (i : Int) ∧ X.grownBy wr (some g) ∧ Vec wr g N off n (fun j => if j < i then tms V (D j) % 998244353 else D j) f) (fun vi _ => n - (intOf vi).toNat)
  case atStart => exact ⟨0, by omega, rfl, ⟨rfl, rfl, rfl, Nat.le_refl _, fun _ _ _ => rfl⟩, hvX.congr fun i _ => by rw [if_neg (by omega)]⟩
  case round =>
    clear hvX
    obtain ⟨i, hi, rfl, hgj, hv⟩ := hrel
    by_cases hin : i < n
    · have pb := (hgj.block p hlX (by simpa using hpg)).trans p0
      have q0 : wr.cell? ⟨p, 0, none⟩ = some (.int .u32 (V : Int)) := by simp [World.cell?, pb]
      have q1 : wr.cell? ⟨p, 1, none⟩ = some (.int .u32 (rat V)) := by simp [World.cell?, pb]
      obtain ⟨b0, b1⟩ := hDb' i
      have c1 := hv.cell (j := i) hin
      rw [if_neg (Nat.lt_irrefl i)] at c1
      have f1 := hv.frozen (off + i)
      have hT := fun w => times_ok V (D i) (by omega) (by omega) b0 (by omega) w
      obtain ⟨t0, t1, -⟩ := tms_bound V (D i) (by omega) (by omega) b0 (by omega)
      have hFo := fun w => fold_ok (tms V (D i)) t0 t1 w
      have i1 : (i : Int) < n := by omega
      have hnext : Hid (∀ W2 : World, Below wr.heap.size wr W2 → ∀ W', W' = W2.setCell ⟨g, off + i, none⟩ (.int .u32 (tms V (D i) % 998244353)) → X.grownBy W' (some g) ∧ Vec W' g N off n (fun j => if j < i + 1 then tms V (D j) % 998244353 else D j) f) := by
        show ∀ W2 : World, _ → ∀ W', _ → _
        rintro W2 hb W' rfl
        refine ⟨grown_set (grown_below hgj hb) 0 _ _, ((hv.below hb).set hin _).congr fun m hm => ?_⟩
        unfold upd
        by_cases e : m = i
        · subst e; rw [if_pos rfl, if_pos (by omega)]
        · rw [if_neg e]
          show (if m < i then tms V (D m) % 998244353 else D m) = _
          by_cases e2 : m < i
          · rw [if_pos e2, if_pos (by omega)]
          · rw [if_neg e2, if_neg (by omega)]
      clear hv hgj hD hDb hDb' pb p0
      generalize tms V (D i) % 998244353 = Z at *
      go_wp2_with fail
      go_region_with (first
        | (go_at_call 130; with_reducible refine (hT _).mono ?_; rintro e w2 ⟨rfl, hb2⟩; obtain ⟨g1, g2⟩ := bcell (below_of_drew hb2); have c1' := (g1 _ _ (cell_lt c1)).trans c1; have f1' := (g2 _ _ (cell_lt c1)).trans f1)
        | (go_at_call 129; with_reducible refine (hFo _).mono ?_; rintro e w3 ⟨rfl, rfl⟩))
      all_goals (
        have hn1 := hnext.out _ (below_of_drew hb2)
        clear hT hFo hb2 c1 f1 c1' f1' g1 g2 q0 q1 hnext
        go_wp2
        exact ⟨⟨i + 1, by omega, by go_num, hn1 _ rfl⟩, by simp [intOf]; omega⟩)
    · have e : i = n := by omega
      subst e
      have hv2 := hv.congr (G := fun j => dft F R i j * V % 998244353) (fun j hj => by rw [if_pos hj, hD]; exact hfinH.out j)
      have hg2 := hgX.trans hgj
      clear hv hgj hgX p0 hD hDb hDb' hfinH
      go_wp2
      go_ret
      exact ⟨rfl, hv2, hg2⟩

theorem inverse_ok (k g N off n cap : Nat) (F f : Nat → Int) (w : World) (hk : k ≤ 11) (hn : n = 2 ^ k) (hcap : n ≤ cap) (hx : Vec w g N off n F f) (hF : ∀ i, i < n → 0 ≤ F i ∧ F i < 998244353) :
    Calls Tagg.prog 121 #[.slice (some ⟨g, off, none⟩) n cap] w fun e w' => e = .returned (.bool true) ∧ Vec w' g N off n (fun j => (dft F (irootN k) n j * invN k) % 998244353) f ∧ w.grownBy w' (some g) := by
  have hle : 2 ^ k ≤ 2 ^ 11 := Nat.pow_le_pow_right (by decide) hk
  have hI := invMod_ok (rootN k) (rootN_lt k)
  have hI2 := invMod_ok n (by omega)
  rw [← irootN.eq_1 k] at hI
  rw [hn, ← invN.eq_1 k, ← hn] at hI2
  exact inverse_gen k g N off n cap (rootN k) (irootN k) (invN k) F f w hk hn hcap hx hF (root_ok k (by omega)) hI hI2 (irootN_lt k) (invN_lt k) (fun h => by
    have := iroot_neg (k - 1) (by omega)
    rw [show k - 1 + 1 = k by omega] at this
    exact this)
end Go.Proofs.Ygctag
