import Derived.Test.YgctagCwG
namespace Go.Proofs.Ygctag
open Go.RowKit

theorem Tagg.info2'' : (Tagg.prog.info? 2).map (fun i => (i.zero, i.size, i.bytes)) = some (some (.int .i64 0), 1, 8) := by kernel_rfl

set_option maxRecDepth 100000 in
set_option maxHeartbeats 4000000 in
theorem roundAll64 (rg L cap m : Nat) (Z : Nat → Cb) (c : Nat → Int) (w : World) (hm1 : 1 ≤ m) (hmL : m ≤ L) (hL : L ≤ 1024) (hZ : ∀ i, i < L → ∃ x, Num (Z i).1 x ∧ ab (x - (c i : Rat)) ≤ 1 / 8) (hZ2 : ∀ i, i < L → (Z i).2 = 0) (hc : ∀ i, (c i).natAbs ≤ 1125899906842624) (hc0 : ∀ i, m ≤ i → c i = 0)
    (hr : w.rowIs rg 90 L (fun i => cpv (Z i))) :
    Calls Tagg.prog 64 #[.slice (some ⟨rg, 0, none⟩) L cap, .int .i64 (m : Int)] w fun e w' => ∃ g, e = .returned (.tuple #[.slice (some ⟨g, 0, none⟩) m m, .bool true]) ∧ g = w.heap.size ∧ w'.rowIs g 2 m (fun i => .int .i64 (c i)) ∧ Below w.heap.size w w' := by
  have hmk := run_make_row' (P := Tagg.prog) 23 2 (.int .i64 0) 8 Tagg.underlying23 Tagg.info2'' rfl .i64 .i64 m (by omega) (by omega)
  have i1 : (0 : Int) ≤ (m : Int) := by omega
  have i2 : (m : Int) ≤ L := by omega
  have i3 : (0 : Int) < (m : Int) := by omega
  have n1 : ¬ L < m := by omega
  have n2 : 0 < m := by omega
  have n3 : ¬ (m : Int) < 0 := by omega
  have n4 : ¬ (L : Int) < (m : Int) := by omega
  have hq0 := quarter100 zero_num (by rw [ab_of_nonneg (by decide)]; decide +kernel)
  go_enter Tagg.func64, Tagg.ntmps64
  go_wp2_with fail
  generalize eX : w.alloc _ = X
  have hbX : Below w.heap.size w X := by rw [← eX]; exact (Below.refl _ _).alloc (Nat.le_refl _) _
  have hrX : X.rowIs w.heap.size 2 m (fun _ => .int .i64 0) := by rw [← eX]; exact made_at rfl _ _ _
  clear eX hmk
  have hgX : X.grownBy X (some w.heap.size) := ⟨rfl, rfl, rfl, Nat.le_refl _, fun _ _ _ => rfl⟩
  obtain ⟨g, hgg⟩ : ∃ g, g = w.heap.size := ⟨_, rfl⟩
  rw [← hgg] at hrX hgX ⊢
  have hne : rg ≠ g := by have := hr.lt; omega
  have hgH : Hid (g = w.heap.size) := hgg
  have hrr := hr.of_block (hbX.block rg hr.lt)
  clear hgg hr
  go_loopw [5, 6] (fun vs vi wr => ∃ q : Nat, q ≤ L ∧ vi = .int .i64 (q : Int) ∧ vs = .bool true ∧ X.grownBy wr (some g) ∧ wr.rowIs g 2 m (fun i => .int .i64 (if i < q then c i else 0))) (fun _ vi _ => L - (intOf vi).toNat)
  case atStart => exact ⟨0, by omega, rfl, rfl, hgX, hrX.congr fun j _ => by rw [if_neg (Nat.not_lt_zero _)]⟩
  case round =>
    clear hrX hgX
    obtain ⟨q, hq, rfl, rfl, hgr, hrw⟩ := hrel
    by_cases hqL : q < L
    · have cR : wr.cell? ⟨rg, q, none⟩ = some (cpv (Z q)) := (World.cell?_of_block (hgr.block rg hrr.lt (by simpa using hne))).trans (hrr.cell hqL)
      obtain ⟨x, hx, hxc⟩ := hZ q hqL
      obtain ⟨bq, hqa⟩ := quarter_any hx
      have hz2 := hZ2 q hqL
      have j1 : (q : Int) < L := by omega
      unfold cpv at cR
      rw [hz2] at cR
      by_cases hqm : q < m
      · have hN := nearest101 (c q) hx (hc q) hxc
        have j2 : (q : Int) < m := by omega
        have cC := hrw.cell (i := q) hqm
        have cF := hrw.frozen q
        have hup : (wr.setCell ⟨g, q, none⟩ (.int .i64 (c q))).rowIs g 2 m (fun i => .int .i64 (if i < q + 1 then c i else 0)) := (hrw.set q _).congr fun i hi => by
          by_cases h1 : i = q
          · subst h1; rw [if_pos rfl, if_pos (Nat.lt_succ_self _)]
          · rw [if_neg h1]
            by_cases h2 : i < q
            · rw [if_pos h2, if_pos (by omega)]
            · rw [if_neg h2, if_neg (by omega)]
        have hnext : Hid (∀ W', W' = (wr.setCell ⟨g, q, none⟩ (.int .i64 (c q))) → X.grownBy W' (some g) ∧ W'.rowIs g 2 m (fun i => .int .i64 (if i < q + 1 then c i else 0))) := by
          show ∀ W', _ → _
          rintro W' rfl
          exact ⟨grown_set hgr 0 _ _, hup⟩
        have cR2 : (wr.setCell ⟨g, q, none⟩ (.int .i64 (c q))).cell? ⟨rg, q, none⟩ = some (.complex .f64 (Z q).1 0) := (World.cell?_of_block (Deep.blk_setCell_other _ _ _ _ (by simpa using hne))).trans cR
        clear hrw hgr hup hZ hZ2 hc hc0 hrr hx hxc hz2 hbX
        generalize (Z q).1 = z at *
        generalize c q = cq at *
        go_wp2_with fail
        with_reducible refine (hqa _).mono ?_
        rintro e w1 ⟨rfl, rfl⟩
        go_wp2_with fail
        with_reducible refine (hN _).mono ?_
        rintro e w1 ⟨rfl, rfl⟩
        go_wp2_with fail
        with_reducible refine (hq0 _).mono ?_
        rintro e w1 ⟨rfl, rfl⟩
        go_wp2
        go_roundw
        case rel => exact ⟨q + 1, by omega, by go_num, rfl, hnext.out _ rfl⟩
        case measure => simp [intOf]; omega
      · have j2 : (m : Int) ≤ q := by omega
        have hc00 := hc0 q (by omega)
        rw [hc00] at hxc
        have hqt := quarter100 hx (by
          rw [show ((0 : Int) : Rat) = 0 from rfl] at hxc
          have e : x - 0 = x := by grind
          rw [e] at hxc
          grind)
        have hfin : Hid (wr.rowIs g 2 m (fun i => .int .i64 (if i < q + 1 then c i else 0))) := hrw.congr fun i hi => by
          by_cases h2 : i < q
          · rw [if_pos h2, if_pos (by omega)]
          · omega
        clear hrw hZ hZ2 hc hc0 hrr hx hxc hz2 hbX hqa hc00
        generalize (Z q).1 = z at *
        go_wp2_with fail
        with_reducible refine (hqt _).mono ?_
        rintro e w1 ⟨rfl, rfl⟩
        go_wp2_with fail
        with_reducible refine (hq0 _).mono ?_
        rintro e w1 ⟨rfl, rfl⟩
        go_wp2
        go_roundw
        case rel => exact ⟨q + 1, by omega, by go_num, rfl, hgr, hfin.out⟩
        case measure => simp [intOf]; omega
    · have e : q = L := by omega
      subst e
      have hrow : wr.rowIs g 2 m (fun i => .int .i64 (c i)) := hrw.congr fun i hi => by rw [if_pos (by omega)]
      have hbel : Below w.heap.size w wr := hbX.grown hgr hbX.size (fun t ht => by injection ht with ht; have := hgH.out; omega)
      clear hrw hZ hZ2 hc hc0 hrr hbX
      go_wp2
      go_ret2
      exact ⟨g, rfl, hgH.out, hrow, hbel⟩

/-- Short enough, and every digit balanced. -/
def balB (A : Nat → Int) (la : Nat) : Prop := la ≤ 512 ∧ ∀ i, i < la → (A i).natAbs ≤ 32768

set_option maxHeartbeats 1000000 in
theorem tooMuch57 (a : Option Addr) (la cap : Nat) (A : Nat → Int) (w : World) (hla : la ≤ 1000000) (hA : ∀ i, i < la → -2147483648 ≤ A i ∧ A i ≤ 2147483647) (ha : Sl w a la fun i => .int .i32 (A i)) (r : Bool) (hr : r = false ↔ balB A la) :
    Calls Tagg.prog 57 #[.slice a la cap] w fun e w' => e = .returned (.bool r) ∧ w' = w := by
  have hyes : Hid (¬ balB A la → r = true) := fun h => by
    cases r
    · exact absurd (hr.1 rfl) h
    · rfl
  have hnot : Hid (balB A la → r = false) := fun h => hr.2 h
  clear hr
  by_cases hl : la ≤ 512
  · have i0 : (la : Int) ≤ 512 := by omega
    go_enter Tagg.func57, Tagg.ntmps57
    go_wp2_with fail
    go_loopw [3] (fun vi wr => ∃ q : Nat, q ≤ la ∧ vi = .int .i64 (q : Int) ∧ (∀ i, i < q → (A i).natAbs ≤ 32768) ∧ wr = w) (fun vi _ => la - (intOf vi).toNat)
    case atStart => exact ⟨0, by omega, rfl, fun i hi => absurd hi (Nat.not_lt_zero i), rfl⟩
    case round =>
      obtain ⟨q, hq, rfl, hall, rfl⟩ := hrel
      have hallH : Hid (∀ i, i < q → (A i).natAbs ≤ 32768) := hall
      clear hall
      by_cases hql : q < la
      · obtain ⟨b, o, rfl, hc⟩ := ha q hql
        obtain ⟨r0, r1⟩ := hA q hql
        have i1 : (q : Int) < la := by omega
        clear ha
        by_cases h1 : 32768 < A q
        · obtain rfl := hyes.out (fun h => by have := h.2 q hql; omega)
          clear hA
          go_wp2
          go_ret
          exact ⟨rfl, rfl⟩
        · have h1' : A q ≤ 32768 := by omega
          by_cases h2 : A q < -32768
          · obtain rfl := hyes.out (fun h => by have := h.2 q hql; omega)
            clear hA
            go_wp2
            go_ret
            exact ⟨rfl, rfl⟩
          · have h2' : -32768 ≤ A q := by omega
            have hall2 : Hid (∀ i, i < q + 1 → (A i).natAbs ≤ 32768) := fun i hi => by
              by_cases e : i = q
              · subst e; omega
              · exact hallH.out i (by omega)
            clear hA
            go_wp2
            exact ⟨⟨q + 1, by omega, by go_num, hall2.out, by trivial⟩, by simp [intOf]; omega⟩
      · have e : q = la := by omega
        subst e
        clear hA ha
        obtain rfl := hnot.out ⟨hl, hallH.out⟩
        go_wp2
        go_ret
        exact ⟨rfl, rfl⟩
  · have i0 : (512 : Int) < la := by omega
    obtain rfl := hyes.out (fun h => hl h.1)
    go_enter Tagg.func57, Tagg.ntmps57
    go_wp2
    go_ret
    exact ⟨rfl, rfl⟩

set_option maxHeartbeats 1000000 in
theorem balanced16 (a : Option Addr) (la cap : Nat) (A : Nat → Int) (w : World) (hla : la ≤ 1000000) (hA : ∀ i, i < la → -2147483648 ≤ A i ∧ A i ≤ 2147483647) (ha : Sl w a la fun i => .int .i32 (A i)) (r : Bool) (hr : r = true ↔ balB A la) :
    Calls Tagg.prog 16 #[.slice a la cap] w fun e w' => e = .returned (.bool r) ∧ w' = w := by
  have hyes : Hid (balB A la → r = true) := fun h => hr.2 h
  have hnot : Hid (¬ balB A la → r = false) := fun h => by
    cases r
    · rfl
    · exact absurd (hr.1 rfl) h
  clear hr
  go_enter Tagg.func16, Tagg.ntmps16
  go_wp2_with fail
  go_loopw [3] (fun vi wr => ∃ q : Nat, q ≤ la ∧ vi = .int .i64 (q : Int) ∧ (∀ i, i < q → (A i).natAbs ≤ 32768) ∧ wr = w) (fun vi _ => la - (intOf vi).toNat)
  case atStart => exact ⟨0, by omega, rfl, fun i hi => absurd hi (Nat.not_lt_zero i), rfl⟩
  case round =>
    obtain ⟨q, hq, rfl, hall, rfl⟩ := hrel
    have hallH : Hid (∀ i, i < q → (A i).natAbs ≤ 32768) := hall
    clear hall
    by_cases hql : q < la
    · obtain ⟨b, o, rfl, hc⟩ := ha q hql
      obtain ⟨r0, r1⟩ := hA q hql
      have i1 : (q : Int) < la := by omega
      clear ha
      by_cases h1 : 32768 < A q
      · obtain rfl := hnot.out (fun h => by have := h.2 q hql; omega)
        clear hA
        go_wp2
        go_ret
        exact ⟨rfl, rfl⟩
      · have h1' : A q ≤ 32768 := by omega
        by_cases h2 : A q < -32768
        · obtain rfl := hnot.out (fun h => by have := h.2 q hql; omega)
          clear hA
          go_wp2
          go_ret
          exact ⟨rfl, rfl⟩
        · have h2' : -32768 ≤ A q := by omega
          have hall2 : Hid (∀ i, i < q + 1 → (A i).natAbs ≤ 32768) := fun i hi => by
            by_cases e : i = q
            · subst e; omega
            · exact hallH.out i (by omega)
          clear hA
          go_wp2
          exact ⟨⟨q + 1, by omega, by go_num, hall2.out, by trivial⟩, by simp [intOf]; omega⟩
    · have e : q = la := by omega
      subst e
      clear hA ha
      by_cases hl : q ≤ 512
      · have i0 : (q : Int) ≤ 512 := by omega
        obtain rfl := hyes.out ⟨hl, hallH.out⟩
        go_wp2
        go_ret
        exact ⟨by simp, rfl⟩
      · have i0 : (512 : Int) < q := by omega
        obtain rfl := hnot.out (fun h => hl h.1)
        go_wp2
        go_ret
        exact ⟨by simp; omega, rfl⟩

theorem levels58 (K m : Nat) (hK1 : 1 ≤ K) (hK : K ≤ 11) (hm : m ≤ 2 ^ K) (hlow : ∀ j, 1 ≤ j → j < K → 2 ^ j < m) (w : World) : Calls Tagg.prog 58 #[.int .i64 (m : Int)] w fun e w' => e = .returned (.int .u8 (K : Int)) ∧ w' = w := by
  have hle : 2 ^ K ≤ 2 ^ 11 := Nat.pow_le_pow_right (by decide) hK
  have hm2 : m ≤ 2048 := by omega
  have hmH : Hid (m ≤ 2 ^ K) := hm
  have hlowH : Hid (∀ j, 1 ≤ j → j < K → 2 ^ j < m) := hlow
  clear hm hlow hle
  go_enter Tagg.func58, Tagg.ntmps58
  go_wp2_with fail
  go_loopw [3] (fun v wr => ∃ j : Nat, 1 ≤ j ∧ j ≤ K ∧ v = .int .u8 (j : Int) ∧ wr = w) (fun v _ => K - (intOf v).toNat)
  case atStart => exact ⟨1, by omega, by omega, rfl, rfl⟩
  case round =>
    obtain ⟨j, hj1, hj, rfl, rfl⟩ := hrel
    obtain ⟨Z, hZ⟩ : ∃ Z, Z = 2 ^ j := ⟨_, rfl⟩
    have hZle : Z ≤ 2048 := by rw [hZ]; exact Nat.le_trans (Nat.pow_le_pow_right (by decide) (show j ≤ 11 by omega)) (by decide)
    have e1 : (2 : Int) ^ j = (Z : Int) := by rw [hZ, Int.natCast_pow]; rfl
    have v5 : IntKind.i64.wrap (Z : Int) = (Z : Int) := IntWalk.i64_in _ ⟨by omega, by omega⟩
    have k1 : (j : Int) ≤ 64 := by omega
    by_cases hjk : j = K
    · subst hjk
      have e2 : (m : Int) ≤ (Z : Int) := by have := hmH.out; omega
      clear hZ
      go_wp2
      go_ret
      exact ⟨rfl, rfl⟩
    · have e2 : (Z : Int) < (m : Int) := by have := hlowH.out j hj1 (by omega); omega
      clear hZ
      go_wp2
      exact ⟨⟨j + 1, by omega, by omega, by go_num, by trivial⟩, by simp [intOf]; omega⟩
end Go.Proofs.Ygctag
