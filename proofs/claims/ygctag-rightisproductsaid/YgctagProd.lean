import Derived.Test.YgctagNttF
import Derived.Test.YgctagConvP
import Derived.Lib.SliceRun
namespace Go.Proofs.Ygctag
open Go.RowKit

theorem row_fill {b n : Nat} {t : TypeId} (z : Value) : ∀ (m o : Nat) (w : World) (f : Nat → Value), w.rowIs b t n f → (w.setCells b o (List.replicate m z)).rowIs b t n (fun j => if o ≤ j ∧ j < o + m then z else f j) ∧ w.grownBy (w.setCells b o (List.replicate m z)) (some b)
  | 0, o, w, f, h => ⟨h.congr fun j _ => by rw [if_neg (by omega)], grown_refl w _⟩
  | m + 1, o, w, f, h => by
    obtain ⟨h1, h2⟩ := row_fill z m (o + 1) (w.setCell ⟨b, o, none⟩ z) _ (h.set o z)
    rw [List.replicate_succ]
    refine ⟨h1.congr fun j _ => ?_, (grownBy_set w b o z).trans h2⟩
    by_cases e1 : o + 1 ≤ j ∧ j < o + 1 + m
    · rw [if_pos e1, if_pos (by omega)]
    · rw [if_neg e1]
      by_cases e2 : j = o
      · rw [if_pos e2, if_pos (by omega)]
      · rw [if_neg e2, if_neg (by omega)]

theorem zero42 (w : World) : (zeroValue 42).run Tagg.prog w = .ok (.int .u64 0) w := by
  have h : (Tagg.prog.info? 42).map (·.zero) = some (some (.int .u64 0)) := by kernel_rfl
  cases hi : Tagg.prog.info? 42 with
  | none => rw [hi] at h; cases h
  | some i =>
    rw [hi] at h
    have hz : i.zero = some (.int .u64 0) := by simpa using h
    simp [zeroValue, typeInfo, hi, hz]

/-- 'clear(sums)'. -/
theorem clear_sums {w : World} {sb n : Nat} {S : Nat → Value} (hn : 0 < n) (h : w.rowIs sb 42 n S) : ∃ w2, (∀ ty, (Builtin.clear_ #[57] ty #[.slice (some ⟨sb, 0, none⟩) n n]).run Tagg.prog w = .ok (.tuple #[]) w2) ∧ w2.rowIs sb 42 n (fun _ => .int .u64 0) ∧ w.grownBy w2 (some sb) := by
  obtain ⟨h1, h2⟩ := row_fill (.int .u64 0) n 0 w S h
  refine ⟨_, fun ty => Lib.run_clear_slice w 57 42 ty (.int .u64 0) Tagg.underlying57 zero42 rfl rfl sb 0 n n hn (fun j hj => ?_) (fun j _ => ?_), h1.congr fun j hj => by rw [if_pos (by omega)], h2⟩
  · rw [Nat.zero_add, h.cell hj]; rfl
  · rw [Nat.zero_add]; exact h.frozen j

/-- The sum of the products at point j, of the pairs lo .. lo + c - 1. -/
def prS (X Y : Nat → Int) (n lo m j c : Nat) : Int := sumI (fun t => X ((lo + t) * n + j) * Y ((m - (lo + t)) * n + j)) c

theorem row_up64 {w : World} {b n q : Nat} {t : TypeId} {F G : Nat → Int} (h : w.rowIs b t n (fun j => .int .u64 (if j < q then F j else G j))) :
    (w.setCell ⟨b, q, none⟩ (.int .u64 (F q))).rowIs b t n (fun j => .int .u64 (if j < q + 1 then F j else G j)) := by
  refine (h.set q _).congr fun i hi => ?_
  by_cases h1 : i = q
  · subst h1; rw [if_pos rfl, if_pos (by omega)]
  · rw [if_neg h1]
    by_cases h2 : i < q
    · rw [if_pos h2, if_pos (by omega)]
    · rw [if_neg h2, if_neg (by omega)]
theorem grown_cell2 {W W' : World} {g b o : Nat} {v : Value} (h : W.grownBy W' (some g)) (hne : b ≠ g) (hc : W.cell? ⟨b, o, none⟩ = some v) : W'.cell? ⟨b, o, none⟩ = some v := by
  rw [World.cell?_of_block (h.block b (cell_lt hc) (by simpa using hne))]; exact hc

set_option maxRecDepth 100000 in
set_option maxHeartbeats 4000000 in
theorem products_ok (sb n lo hi m : Nat) (S : Nat → Value) (xb xo nx yb yo ny capx capy : Nat) (X Y : Nat → Int) (w : World) (hn0 : 0 < n) (hn : n ≤ 2048) (hlh : lo < hi) (hhi : hi * n ≤ nx) (hm1 : hi ≤ m + 1) (hm2 : (m - lo + 1) * n ≤ ny)
    (hmb : m ≤ 1000000000) (hnx : nx ≤ 1000000000) (hny : ny ≤ 1000000000) (hcx : nx ≤ capx) (hcy : ny ≤ capy) (hs : w.rowIs sb 42 n S)
    (hx : Sl w (some ⟨xb, xo, none⟩) nx fun i => .int .u32 (X i)) (hy : Sl w (some ⟨yb, yo, none⟩) ny fun i => .int .u32 (Y i)) (hxs : xb ≠ sb) (hys : yb ≠ sb)
    (hX : ∀ i, i < nx → 0 ≤ X i ∧ X i < 998244353) (hY : ∀ i, i < ny → 0 ≤ Y i ∧ Y i < 998244353) :
    Calls Tagg.prog 113 #[.slice (some ⟨sb, 0, none⟩) n n, .slice (some ⟨xb, xo, none⟩) nx capx, .slice (some ⟨yb, yo, none⟩) ny capy, .int .i64 lo, .int .i64 hi, .int .i64 m] w fun e w' =>
      e = .returned (.tuple #[]) ∧ w'.rowIs sb 42 n (fun j => .int .u64 (prS X Y n lo m j (hi - lo) % 998244353)) ∧ w.grownBy w' (some sb) := by
  obtain ⟨w2, hclr, hr2, hg2⟩ := clear_sums hn0 hs
  go_enter Tagg.func113, Tagg.ntmps113
  go_wp2_with fail
  clear hclr hs
  go_loopw [13] (fun vi wr => ∃ (i : Nat) (R : Nat → Int), lo ≤ i ∧ i ≤ hi ∧ vi = .int .i64 (i : Int) ∧ w.grownBy wr (some sb) ∧ wr.rowIs sb 42 n (fun j => .int .u64 (R j)) ∧
    (∀ j, j < n → Eqm (R j) (prS X Y n lo m j (i - lo)) ∧ 0 ≤ R j ∧ R j < 998244353 + ((i - lo) % 16 : Nat) * 996491788296388609 ∧ (i = hi → R j < 998244353))) (fun vi _ => hi - (intOf vi).toNat)
  case atStart => exact ⟨lo, fun _ => 0, by omega, by omega, rfl, hg2, hr2, fun j _ => ⟨by rw [Nat.sub_self]; exact Eqm.refl _, Int.le_refl 0, by rw [Nat.sub_self]; show (0 : Int) < _; decide, fun _ => by show (0 : Int) < _; decide⟩⟩
  case round =>
    clear hr2 hg2
    obtain ⟨i, R, hi1, hi2, rfl, hgr, hrw, hR⟩ := hrel
    by_cases hih : i < hi
    · obtain ⟨z1, hz1⟩ : ∃ z, z = i * n := ⟨_, rfl⟩
      obtain ⟨mi, hmi⟩ : ∃ mi, mi = m - i := ⟨_, rfl⟩
      obtain ⟨z2, hz2⟩ : ∃ z, z = mi * n := ⟨_, rfl⟩
      have e1 : (i : Int) * (n : Int) = (z1 : Int) := by rw [hz1, Int.natCast_mul]
      have e2 : (m : Int) - (i : Int) = (mi : Int) := by omega
      have e3 : (mi : Int) * (n : Int) = (z2 : Int) := by rw [hz2, Int.natCast_mul]
      have b1 : z1 + n ≤ nx := by
        have : (i + 1) * n ≤ hi * n := Nat.mul_le_mul_right _ hih
        rw [Nat.add_mul, Nat.one_mul, ← hz1] at this
        omega
      have b2 : z2 + n ≤ ny := by
        have : (mi + 1) * n ≤ (m - lo + 1) * n := Nat.mul_le_mul_right _ (by omega)
        rw [Nat.add_mul, Nat.one_mul, ← hz2] at this
        omega
      have hstep : ∀ j, prS X Y n lo m j (i + 1 - lo) = prS X Y n lo m j (i - lo) + X (z1 + j) * Y (z2 + j) := fun j => by
        rw [show i + 1 - lo = (i - lo) + 1 by omega]
        show sumI _ (i - lo) + X ((lo + (i - lo)) * n + j) * Y ((m - (lo + (i - lo))) * n + j) = _
        rw [show lo + (i - lo) = i by omega, ← hmi, ← hz1, ← hz2]
        rfl
      have hstepH : Hid _ := hstep
      have i1 : (z1 : Int) + n ≤ capx := by omega
      have i2 : (z2 : Int) + n ≤ capy := by omega
      have i3 : ((z1 : Int) + n).toNat = z1 + n := by omega
      have i4 : ((z2 : Int) + n).toNat = z2 + n := by omega
      have i5 : (i : Int) < hi := by omega
      have i6 : ¬ n = 0 := by omega
      have v1 : IntKind.i64.wrap (z1 : Int) = (z1 : Int) := IntWalk.i64_in _ ⟨by omega, by omega⟩
      have v2 : IntKind.i64.wrap (z2 : Int) = (z2 : Int) := IntWalk.i64_in _ ⟨by omega, by omega⟩
      have v3 : IntKind.i64.wrap ((z1 : Int) + n) = (z1 : Int) + n := IntWalk.i64_in _ ⟨by omega, by omega⟩
      have v4 : IntKind.i64.wrap ((z2 : Int) + n) = (z2 : Int) + n := IntWalk.i64_in _ ⟨by omega, by omega⟩
      have v5 : IntKind.i64.wrap (mi : Int) = (mi : Int) := IntWalk.i64_in _ ⟨by omega, by omega⟩
      clear hstep hz1 hz2 hmi hhi hm2
      go_upto_region 5 with fail
      go_cut [14, 15] (fun u v wx => u = .slice (some ⟨xb, xo + z1, none⟩) n n ∧ v = .slice (some ⟨yb, yo + z2, none⟩) n n ∧ ∃ d, wx = wr.drewN d)
      case first =>
        clear hrw hgr hR hX hY hx hy hstepH
        go_quiet (fail)
        go_wp2_with fail
        go_meet
        exact ⟨rfl, rfl, _, rfl⟩
      case rest =>
        obtain ⟨rfl, rfl, d, rfl⟩ := hcut
        have hxr : ∀ j, j < n → w.cell? ⟨xb, xo + z1 + j, none⟩ = some (.int .u32 (X (z1 + j))) := fun j hj => by
          obtain ⟨b, o, e, c⟩ := hx (z1 + j) (by omega)
          cases e
          rw [Nat.add_assoc]
          exact c
        have hyr : ∀ j, j < n → w.cell? ⟨yb, yo + z2 + j, none⟩ = some (.int .u32 (Y (z2 + j))) := fun j hj => by
          obtain ⟨b, o, e, c⟩ := hy (z2 + j) (by omega)
          cases e
          rw [Nat.add_assoc]
          exact c
        have hb : ∀ j, j < n → 0 ≤ X (z1 + j) * Y (z2 + j) ∧ X (z1 + j) * Y (z2 + j) ≤ 996491786299899904 := fun j hj => by
          obtain ⟨x0, x1⟩ := hX (z1 + j) (by omega)
          obtain ⟨y0, y1⟩ := hY (z2 + j) (by omega)
          refine ⟨Int.mul_nonneg x0 y0, ?_⟩
          have h1 : X (z1 + j) * Y (z2 + j) ≤ 998244352 * Y (z2 + j) := Int.mul_le_mul_of_nonneg_right (by omega) y0
          omega
        have hgr1 : w.grownBy (wr.drewN d) (some sb) := ⟨hgr.os, hgr.tape, hgr.output, hgr.size, hgr.block⟩
        have hrw1 := row_draws hrw d
        generalize wr.drewN d = wd at *
        have hxb : ∀ j, j < n → 0 ≤ X (z1 + j) ∧ X (z1 + j) < 998244353 := fun j hj => hX _ (by omega)
        have hyb : ∀ j, j < n → 0 ≤ Y (z2 + j) ∧ Y (z2 + j) < 998244353 := fun j hj => hY _ (by omega)
        clear hrw hgr e1 e2 e3 i1 i2 i3 i4 v1 v2 v3 v4 v5 hx hy hX hY
        obtain ⟨XY, hXY⟩ : ∃ XY : Nat → Int, XY = fun j => X (z1 + j) * Y (z2 + j) := ⟨_, rfl⟩
        have hXYe : ∀ j, X (z1 + j) * Y (z2 + j) = XY j := fun j => by rw [hXY]
        have hRb : ∀ j, j < n → 0 ≤ R j ∧ R j < 998244353 + 15 * 996491788296388609 := fun j hj => by
          obtain ⟨-, b, c, -⟩ := hR j hj
          have : (((i - lo) % 16 : Nat) : Int) ≤ 15 := by omega
          exact ⟨b, by omega⟩
        go_upto_block 2 with fail
        go_cut [16] (fun _ wx => w.grownBy wx (some sb) ∧ wx.rowIs sb 42 n (fun j => .int .u64 (R j + XY j)))
        case first =>
          clear hR hstepH
          go_wp2_with fail
          go_loopw [16] (fun vj w5 => ∃ j : Nat, j ≤ n ∧ vj = .int .i64 (j : Int) ∧ w.grownBy w5 (some sb) ∧ w5.rowIs sb 42 n (fun t => .int .u64 (if t < j then R t + XY t else R t))) (fun vj _ => n - (intOf vj).toNat)
          case atStart => exact ⟨0, by omega, rfl, hgr1, hrw1.congr fun t _ => by rw [if_neg (by omega)]⟩
          case round =>
            clear hgr1 hrw1
            obtain ⟨j, hj, rfl, hg5, hr5⟩ := hrel
            by_cases hjn : j < n
            · have cx := grown_cell2 hg5 hxs (hxr j hjn)
              have cy := grown_cell2 hg5 hys (hyr j hjn)
              have cs := hr5.cell (i := j) hjn
              rw [if_neg (Nat.lt_irrefl j)] at cs
              have fs := hr5.frozen j
              obtain ⟨p0, p1⟩ := hb j hjn
              obtain ⟨r0, r1⟩ := hRb j hjn
              obtain ⟨x0, x1⟩ := hxb j hjn
              obtain ⟨y0, y1⟩ := hyb j hjn
              have hnext : Hid (∀ W', W' = (wr.setCell ⟨sb, j, none⟩ (.int .u64 (R j + XY j))).drew → w.grownBy W' (some sb) ∧ W'.rowIs sb 42 n (fun t => .int .u64 (if t < j + 1 then R t + XY t else R t))) := by
                show ∀ W', _ → _
                rintro W' rfl
                exact ⟨grown_drew (grown_set hg5 0 _ _), row_up64 (F := fun t => R t + XY t) (G := R) hr5⟩
              have i1 : (j : Int) < n := by omega
              have hxy := hXYe j
              rw [hxy] at p0 p1
              have v1 : IntKind.u64.wrap (X (z1 + j) * Y (z2 + j)) = XY j := by rw [hxy]; exact IntWalk.u64_in _ ⟨by omega, by omega⟩
              have v2 : IntKind.u64.wrap (R j + XY j) = R j + XY j := IntWalk.u64_in _ ⟨by omega, by omega⟩
              clear hxr hyr hb hRb hxb hyb hXYe hXY hr5 hg5 hxy
              go_wp2_with fail
              go_region
              go_wp2
              exact ⟨⟨j + 1, by omega, by go_num, hnext.out _ rfl⟩, by simp [intOf]; omega⟩
            · have e : j = n := by omega
              subst e
              have hrow := hr5.congr (g := fun t => .int .u64 (R t + XY t)) (fun t ht => by rw [if_pos ht])
              clear hr5 hb hRb hxb hyb hxr hyr
              go_wp2_with fail
              go_meet
              exact ⟨hg5, hrow⟩
        case rest =>
          obtain ⟨hg3, hr3⟩ := hcut
          obtain ⟨t, ht⟩ : ∃ t, t = i - lo := ⟨_, rfl⟩
          have e4 : (i : Int) - (lo : Int) = (t : Int) := by omega
          have e5 : IntKind.i64.wrap (t : Int) = (t : Int) := IntWalk.i64_in _ ⟨by omega, by omega⟩
          have hst := hstepH.out
          have hQ : ∀ j, j < n → Eqm (R j + XY j) (prS X Y n lo m j (i + 1 - lo)) ∧ 0 ≤ R j + XY j ∧ R j + XY j < 998244353 + ((t % 16 : Nat) + 1) * 996491788296388609 := fun j hj => by
            obtain ⟨a, b, c, -⟩ := hR j hj
            obtain ⟨p0, p1⟩ := hb j hj
            rw [hXYe j] at p0 p1
            rw [hst j, hXYe j]
            refine ⟨a.add (Eqm.refl _), by omega, ?_⟩
            rw [← ht] at c
            rw [Int.add_mul]
            omega
          have hQH : Hid _ := hQ
          clear hR hb hRb hxb hyb hxr hyr hst hstepH hXYe hXY hQ hgr1 hrw1
          by_cases hred : t % 16 = 15 ∨ i + 1 = hi
          · have hcond : ((t : Int) % 16 == 15) = true ∨ ((t : Int) % 16 == 15) = false ∧ ((i : Int) == (hi : Int) - 1) = true := by
              by_cases h15 : t % 16 = 15
              · left; simp; omega
              · right; simp; omega
            have htH : Hid (t = i - lo) := ht
            have hredH : Hid (t % 16 = 15 ∨ i + 1 = hi) := hred
            clear ht hred
            go_upto_region 10 with fail
            go_cut [95] (fun v wx => v = .bool true ∧ wc = wx)
            case first =>
              clear hr3 hg3 hQH
              rcases hcond with h | ⟨h, h'⟩
              · go_wp2
                go_meet
                exact ⟨rfl, rfl⟩
              · go_wp2
                go_meet
                exact ⟨rfl, rfl⟩
            case rest =>
              obtain ⟨rfl, rfl⟩ := hcut
              clear hcond e4 e5
              go_wp2_with fail
              go_loopw [17] (fun vj w5 => ∃ j : Nat, j ≤ n ∧ vj = .int .i64 (j : Int) ∧ w.grownBy w5 (some sb) ∧ w5.rowIs sb 42 n (fun t => .int .u64 (if t < j then (R t + XY t) % 998244353 else R t + XY t))) (fun vj _ => n - (intOf vj).toNat)
              case atStart => exact ⟨0, by omega, rfl, hg3, hr3.congr fun t _ => by rw [if_neg (by omega)]⟩
              case round =>
                clear hg3 hr3
                obtain ⟨j, hj, rfl, hg5, hr5⟩ := hrel
                by_cases hjn : j < n
                · have cs := hr5.cell (i := j) hjn
                  rw [if_neg (Nat.lt_irrefl j)] at cs
                  have fs := hr5.frozen j
                  obtain ⟨-, r0, r1⟩ := hQH.out j hjn
                  have r2 : R j + XY j < 18446744073709551616 := by
                    have h16 : (((t % 16 : Nat) : Int) + 1) * 996491788296388609 ≤ 16 * 996491788296388609 := Int.mul_le_mul_of_nonneg_right (by omega) (by decide)
                    omega
                  have hnext : Hid (∀ W', W' = wr.setCell ⟨sb, j, none⟩ (.int .u64 ((R j + XY j) % 998244353)) → w.grownBy W' (some sb) ∧ W'.rowIs sb 42 n (fun t => .int .u64 (if t < j + 1 then (R t + XY t) % 998244353 else R t + XY t))) := by
                    show ∀ W', _ → _
                    rintro W' rfl
                    exact ⟨grown_set hg5 0 _ _, row_up64 (F := fun t => (R t + XY t) % 998244353) (G := fun t => R t + XY t) hr5⟩
                  have i1 : (j : Int) < n := by omega
                  clear hr5 hg5 hQH r1
                  generalize R j + XY j = Z at *
                  go_wp2
                  exact ⟨⟨j + 1, by omega, by go_num, hnext.out _ rfl⟩, by simp [intOf]; omega⟩
                · have e : j = n := by omega
                  subst e
                  have hrow := hr5.congr (g := fun t => .int .u64 ((R t + XY t) % 998244353)) (fun t ht => by rw [if_pos ht])
                  clear hr5
                  go_wp2
                  go_roundw
                  case rel => exact ⟨i + 1, fun t => (R t + XY t) % 998244353, by omega, by omega, by go_num, hg5, hrow, fun t ht => by
                    obtain ⟨a, -, -⟩ := hQH.out t ht
                    have b0 : 0 ≤ (R t + XY t) % 998244353 := Int.emod_nonneg _ (by decide)
                    have b1 : (R t + XY t) % 998244353 < 998244353 := Int.emod_lt_of_pos _ (by decide)
                    refine ⟨(Eqm.emod _).trans a, b0, ?_, fun _ => b1⟩
                    have : 0 ≤ (((i + 1 - lo) % 16 : Nat) : Int) * 996491788296388609 := Int.mul_nonneg (by omega) (by decide)
                    exact Int.lt_of_lt_of_le b1 (by omega)⟩
                  case measure => simp [intOf]; omega
          · have h1 : ((t : Int) % 16 == 15) = false := by simp; omega
            have h2 : ((i : Int) == (hi : Int) - 1) = false := by simp; omega
            have htH : Hid (t = i - lo) := ht
            clear ht
            go_wp2
            go_roundw
            case rel => exact ⟨i + 1, fun j => R j + XY j, by omega, by omega, by go_num, hg3, hr3, fun j hj => by
              obtain ⟨a, b, c⟩ := hQH.out j hj
              refine ⟨a, b, ?_, fun e => by omega⟩
              have : (i + 1 - lo) % 16 = t % 16 + 1 := by have := htH.out; omega
              rw [this, Int.natCast_add]
              exact c⟩
            case measure => simp [intOf]; omega
    · have e : i = hi := by omega
      subst e
      have hrow := hrw.congr (g := fun j => .int .u64 (prS X Y n lo m j (i - lo) % 998244353)) (fun j hj => by
        obtain ⟨a, b, c, d⟩ := hR j hj
        have := (Eqm.iff_emod _ _).1 a
        rw [← this, Int.emod_eq_of_lt b (d rfl)])
      clear hrw hR hX hY hx hy
      go_wp2
      go_end0
      exact ⟨rfl, hrow, hgr⟩
end Go.Proofs.Ygctag
