import Derived.Test.YgctagAddB
import Derived.Test.YgctagConvQ
namespace Go.Proofs.Ygctag
open Go.RowKit

theorem Tagg.info126 : (Tagg.prog.info? 126).map (fun i => (i.zero, i.size, i.bytes)) = some (some (.int .u32 0), 1, 4) := by kernel_rfl
theorem Tagg.info42' : (Tagg.prog.info? 42).map (fun i => (i.zero, i.size, i.bytes)) = some (some (.int .u64 0), 1, 8) := by kernel_rfl
theorem Tagg.info2' : (Tagg.prog.info? 2).map (fun i => (i.zero, i.size, i.bytes)) = some (some (.int .i64 0), 1, 8) := by kernel_rfl

/-- The transforms of the blocks xs 0 .. xs (nb - 1), one after the other. -/
def Tr (xs : Nat → Nat → Int) (k n : Nat) (i : Nat) : Int := dft (xs (i / n)) (rootN k) n (i % n) % 998244353

theorem two_made (X : World) (z1 z2 : Value) (t1 t2 : TypeId) (n : Nat) : ((X.alloc (.cells (madeCells #[z1] n) t1)).alloc (.cells (madeCells #[z2] n) t2)).drew.rowIs X.heap.size t1 n (fun _ => z1) ∧
    ((X.alloc (.cells (madeCells #[z1] n) t1)).alloc (.cells (madeCells #[z2] n) t2)).drew.rowIs (X.heap.size + 1) t2 n (fun _ => z2) ∧ Below X.heap.size X ((X.alloc (.cells (madeCells #[z1] n) t1)).alloc (.cells (madeCells #[z2] n) t2)).drew := by
  refine ⟨World.rowIs.alloc (World.rowIs_made X z1 n t1) _, made_at (by simp) z2 n t2, ?_⟩
  have h := ((Below.refl X.heap.size X).alloc (Nat.le_refl _) (.cells (madeCells #[z1] n) t1)).alloc (by simp) (.cells (madeCells #[z2] n) t2)
  exact ⟨h.os, h.tape, h.output, h.size, h.block⟩

theorem VecC.of_row {w : World} {g n : Nat} {F f : Nat → Int} (h : w.rowIs g 2 n (fun i => .int .i64 (F i))) : VecC w g n 0 n F f :=
  ⟨by omega, h.congr fun i hi => by unfold splice; rw [if_pos (by omega), Nat.sub_zero]⟩

theorem Tr_at (xs : Nat → Nat → Int) (k n i j : Nat) (hj : j < n) : Tr xs k n (i * n + j) = dft (xs i) (rootN k) n j % 998244353 := by
  unfold Tr
  rw [Nat.mul_comm i n, Nat.mul_add_div (by omega), Nat.div_eq_of_lt hj, Nat.add_zero, Nat.mul_add_mod, Nat.mod_eq_of_lt hj]

/-- What one group adds. -/
def grp (xs ys : Nat → Nat → Int) (n i m c l : Nat) : Int := sumI (fun t => cv (xs (i + t)) (ys (m - (i + t))) n l) c

theorem grp_evl (xs ys : Nat → Nat → Int) (z : Int) (h i m c : Nat) (hX0 : ∀ i p, h ≤ p → xs i p = 0) (hY0 : ∀ i p, h ≤ p → ys i p = 0) :
    evl (grp xs ys (2 * h) i m c) z (2 * h) = sumI (fun t => evl (xs (i + t)) z (2 * h) * evl (ys (m - (i + t))) z (2 * h)) c := by
  have e := evl_sum (fun t l => cv (xs (i + t)) (ys (m - (i + t))) (2 * h) l) z (2 * h) c
  have e2 : evl (grp xs ys (2 * h) i m c) z (2 * h) = evl (fun s => sumI (fun i_1 => (fun t l => cv (xs (i + t)) (ys (m - (i + t))) (2 * h) l) i_1 s) c) z (2 * h) := rfl
  rw [e2, e]
  exact sumI_congr fun t _ => evl_cv _ _ z h (hX0 _) (hY0 _)

theorem prM_add (A B : Nat → Int) (lo i e m : Nat) (h1 : lo ≤ i) (h2 : i ≤ e) : prM A B lo e m = prM A B lo i m + sumI (fun t => A (i + t) * B (m - (i + t))) (e - i) := by
  unfold prM
  rw [show e - lo = (i - lo) + (e - i) by omega, sumI_split]
  congr 1
  exact sumI_congr fun t _ => by rw [show lo + (i - lo + t) = i + t by omega]

set_option maxRecDepth 100000 in
set_option maxHeartbeats 4000000 in
theorem convolve_ok (k h xb nx yb ny capx capy : Nat) (xs ys : Nat → Nat → Int) (z : Int) (w : World) (hk : k ≤ 9) (hh : h = 2 ^ k) (hx0 : 0 < nx) (hy0 : 0 < ny) (hnx : nx ≤ 1024) (hny : ny ≤ 1024) (hcx : nx * (2 * h) ≤ capx) (hcy : ny * (2 * h) ≤ capy)
    (hX : ∀ i p, 0 ≤ xs i p ∧ xs i p ≤ 255) (hY : ∀ i p, 0 ≤ ys i p ∧ ys i p ≤ 255) (hX0 : ∀ i p, h ≤ p → xs i p = 0) (hY0 : ∀ i p, h ≤ p → ys i p = 0)
    (hx : w.rowIs xb 126 (nx * (2 * h)) (fun i => .int .u32 (Tr xs (k + 1) (2 * h) i))) (hy : w.rowIs yb 126 (ny * (2 * h)) (fun i => .int .u32 (Tr ys (k + 1) (2 * h) i))) :
    Calls Tagg.prog 94 #[.slice (some ⟨xb, 0, none⟩) (nx * (2 * h) : Nat) capx, .slice (some ⟨yb, 0, none⟩) (ny * (2 * h) : Nat) capy, .int .i64 h] w fun e w' => ∃ (cb : Nat) (cc : Nat → Int), e = .returned (.slice (some ⟨cb, 0, none⟩) ((nx + ny) * h) ((nx + ny) * h)) ∧ w.heap.size ≤ cb ∧
      w'.rowIs cb 2 ((nx + ny) * h) (fun i => .int .i64 (cc i)) ∧ (∀ i, i < (nx + ny) * h → 0 ≤ cc i ∧ cc i < 36028797018963968) ∧ evl cc z ((nx + ny) * h) = evl (fun i => evl (xs i) z (2 * h)) (z ^ h) nx * evl (fun i => evl (ys i) z (2 * h)) (z ^ h) ny ∧ Below w.heap.size w w' := by
  have hle : 2 ^ k ≤ 2 ^ 9 := Nat.pow_le_pow_right (by decide) hk
  have hh5 : h ≤ 512 := by omega
  have hh0 : 0 < h := by rw [hh]; exact Nat.two_pow_pos k
  have hH : Hid (h = 2 ^ k) := hh
  obtain ⟨n, hn⟩ : ∃ n, n = 2 * h := ⟨_, rfl⟩
  rw [← hn] at hx hy hcx hcy
  obtain ⟨Lx, hLx⟩ : ∃ L, L = nx * n := ⟨_, rfl⟩
  obtain ⟨Ly, hLy⟩ : ∃ L, L = ny * n := ⟨_, rfl⟩
  obtain ⟨Lc, hLc⟩ : ∃ L, L = (nx + ny) * h := ⟨_, rfl⟩
  rw [← hn, ← hLx, ← hLy, ← hLc]
  rw [← hLx] at hx hcx
  rw [← hLy] at hy hcy
  have bx : Lx ≤ 1048576 := by rw [hLx]; have : nx * n ≤ 1024 * 1024 := Nat.mul_le_mul hnx (by omega); omega
  have by' : Ly ≤ 1048576 := by rw [hLy]; have : ny * n ≤ 1024 * 1024 := Nat.mul_le_mul hny (by omega); omega
  have bc : Lc ≤ 1048576 := by rw [hLc]; have : (nx + ny) * h ≤ 2048 * 512 := Nat.mul_le_mul (by omega) hh5; omega
  have e1 : 2 * (h : Int) = (n : Int) := by omega
  have e2 : (Lx : Int) / (n : Int) = (nx : Int) := by rw [hLx, Int.natCast_mul, Int.mul_ediv_cancel _ (by omega)]
  have e3 : (Ly : Int) / (n : Int) = (ny : Int) := by rw [hLy, Int.natCast_mul, Int.mul_ediv_cancel _ (by omega)]
  have e4 : ((nx : Int) + (ny : Int)) * (h : Int) = (Lc : Int) := by rw [hLc, Int.natCast_mul, Int.natCast_add]
  have hmk1 := run_make_row' (P := Tagg.prog) 23 2 (.int .i64 0) 8 Tagg.underlying23 Tagg.info2' rfl .i64 .i64 Lc (by omega) (by omega)
  have hmk2 := run_make_row' (P := Tagg.prog) 57 42 (.int .u64 0) 8 Tagg.underlying57 Tagg.info42' rfl .i64 .i64 n (by omega) (by omega)
  have hmk3 := run_make_row' (P := Tagg.prog) 117 126 (.int .u32 0) 4 Tagg.underlying117 Tagg.info126 rfl .i64 .i64 n (by omega) (by omega)
  have hnH : Hid (n = 2 * h) := hn
  have hLxH : Hid (Lx = nx * n) := hLx
  have hLyH : Hid (Ly = ny * n) := hLy
  have hLcH : Hid (Lc = (nx + ny) * h) := hLc
  have n0 : 0 < n := by omega
  have n1 : n ≤ 1024 := by omega
  have n2 : ((n : Int) == 0) = false := by simp; omega
  have n3 : ¬ (n : Int) = 0 := by omega
  have v1 : IntKind.i64.wrap (n : Int) = (n : Int) := IntWalk.i64_in _ ⟨by omega, by omega⟩
  have v2 : IntKind.i64.wrap (nx : Int) = (nx : Int) := IntWalk.i64_in _ ⟨by omega, by omega⟩
  have v3 : IntKind.i64.wrap (ny : Int) = (ny : Int) := IntWalk.i64_in _ ⟨by omega, by omega⟩
  have v4 : IntKind.i64.wrap (Lc : Int) = (Lc : Int) := IntWalk.i64_in _ ⟨by omega, by omega⟩
  clear hh hle hn hLx hLy hLc
  go_enter Tagg.func94, Tagg.ntmps94
  go_upto_region 2 with fail
  go_cut [8, 9] (fun a b wx => a = .int .i64 (nx : Int) ∧ b = .int .i64 (ny : Int) ∧ ∃ d, wx = w.drewN d)
  case first =>
    clear hx hy hmk1 hmk2 hmk3
    go_quiet (fail)
    go_wp2_with fail
    go_meet
    exact ⟨rfl, rfl, _, rfl⟩
  case rest =>
    obtain ⟨rfl, rfl, d, rfl⟩ := hcut
    have hx1 := row_draws hx d
    have hy1 := row_draws hy d
    have hbel : Below w.heap.size w (w.drewN d) := ⟨rfl, rfl, rfl, Nat.le_refl _, fun _ _ => rfl⟩
    clear e2 e3 v2 v3
    generalize w.drewN d = w1 at *
    go_wp2_with fail
    generalize eX : w1.alloc _ = X
    have hcX : X.rowIs w1.heap.size 2 Lc (fun _ => .int .i64 0) := by rw [← eX]; exact made_at rfl _ _ _
    have hbX : Below w1.heap.size w1 X := by rw [← eX]; exact (Below.refl _ _).alloc (Nat.le_refl _) _
    have hxX := hx1.of_block (hbX.block xb hx1.lt)
    have hyX := hy1.of_block (hbX.block yb hy1.lt)
    have lx := hx1.lt
    have ly := hy1.lt
    have lX : w1.heap.size < X.heap.size := hcX.lt
    have hcb : w.heap.size ≤ w1.heap.size := hbel.size
    have hbel2 := hbel.trans (hbX.mono hbel.size)
    clear eX hx1 hy1 hbel hbX hmk1
    generalize w1.heap.size = cb at *
    go_cut [11, 12] (fun s b wx => ∃ sb bb : Nat, s = .slice (some ⟨sb, 0, none⟩) n n ∧ b = .slice (some ⟨bb, 0, none⟩) n n ∧ sb ≠ bb ∧ cb < sb ∧ cb < bb ∧ wx.rowIs sb 42 n (fun _ => .int .u64 0) ∧ wx.rowIs bb 126 n (fun _ => .int .u32 0) ∧ Below X.heap.size X wx)
    case first =>
      clear hxX hyX hcX hX hY hX0 hY0
      go_region
      · obtain ⟨m1, m2, m3⟩ := two_made X (.int .u64 0) (.int .u32 0) 42 126 n
        go_wp2_with fail
        go_meet
        exact ⟨_, _, rfl, rfl, by omega, by omega, by omega, m1, m2, m3⟩
      · obtain ⟨m1, m2, m3⟩ := two_made X (.int .u32 0) (.int .u64 0) 126 42 n
        go_wp2_with fail
        go_meet
        exact ⟨_, _, rfl, rfl, by omega, by omega, by omega, m2, m1, m3⟩
    case rest =>
      obtain ⟨sb, bb, rfl, rfl, hsb, hcs, hcbb, hrs, hrb, hbc⟩ := hcut
      have hxc := hxX.of_block (hbc.block xb hxX.lt)
      have hyc := hyX.of_block (hbc.block yb hyX.lt)
      have hcc := hcX.of_block (hbc.block cb hcX.lt)
      have hbw := hbel2.trans (hbc.mono hbel2.size)
      clear hxX hyX hcX hbc hmk2 hmk3 hbel2 v1 v4 n2 n3 e1 e4
      have hxw : xb < w.heap.size ∧ yb < w.heap.size := by have := hx.lt; have := hy.lt; exact ⟨by omega, by omega⟩
      obtain ⟨EX, hEX⟩ : ∃ EX : Nat → Int, EX = fun i => evl (xs i) z (2 * h) := ⟨_, rfl⟩
      obtain ⟨EY, hEY⟩ : ∃ EY : Nat → Int, EY = fun i => evl (ys i) z (2 * h) := ⟨_, rfl⟩
      obtain ⟨zh, hzh⟩ : ∃ zh, zh = z ^ h := ⟨_, rfl⟩
      go_wp2_with fail
      go_loopw [13] (fun vm wr => ∃ (m : Nat) (cc B : Nat → Int) (S : Nat → Value), m + 1 ≤ nx + ny ∧ vm = .int .i64 (m : Int) ∧ wr.rowIs cb 2 Lc (fun i => .int .i64 (cc i)) ∧ wr.rowIs sb 42 n S ∧ wr.rowIs bb 126 n (fun i => .int .u32 (B i)) ∧
        (∀ i, i < Lc → 0 ≤ cc i ∧ cc i ≤ ((m * nx : Nat) : Int) * 998244353) ∧ evl cc z Lc = sumI (fun t => prM EX EY (t + 1 - ny) (min nx (t + 1)) t * zh ^ t) m ∧ Below w.heap.size w wr) (fun vm _ => nx + ny - (intOf vm).toNat)
      case atStart => exact ⟨0, fun _ => 0, fun _ => 0, _, by omega, rfl, hcc, hrs, hrb, fun i _ => ⟨Int.le_refl 0, by show (0 : Int) ≤ _; rw [Nat.zero_mul]; decide⟩, by
        show evl (fun _ => 0) z Lc = 0
        unfold evl
        rw [sumI_congr (g := fun _ => 0) (fun i _ => Int.zero_mul _), sumI_zero], hbw⟩
      case round =>
        clear hcc hrs hrb hbw hxc hyc
        obtain ⟨m, cc, B, S, hm, rfl, hcc, hrs, hrb, hcb1, hev, hbw⟩ := hrel
        by_cases hmn : m + 1 < nx + ny
        · obtain ⟨lo, hlo⟩ : ∃ lo, lo = m + 1 - ny := ⟨_, rfl⟩
          obtain ⟨hi, hhi⟩ : ∃ hi, hi = min nx (m + 1) := ⟨_, rfl⟩
          have i1 : (m : Int) < (nx : Int) + (ny : Int) - 1 := by omega
          go_upto_if 49 with fail
          go_cut [14] (fun v wx => v = .int .i64 (lo : Int) ∧ wr = wx)
          case first =>
            clear hcc hrs hrb hcb1 hev hbw hx hy hX hY hX0 hY0 hEX hEY hzh
            by_cases hmy : ny ≤ m
            · have j1 : (ny : Int) ≤ m := by omega
              have j2 : (m : Int) - ny + 1 = (lo : Int) := by omega
              clear hlo hhi
              go_wp2
              go_meet
              exact ⟨rfl, rfl⟩
            · have j1 : (m : Int) < ny := by omega
              have j2 : (lo : Int) = 0 := by omega
              clear hlo hhi
              go_wp2
              go_meet
              exact ⟨by rw [j2], rfl⟩
          case rest =>
            obtain ⟨rfl, rfl⟩ := hcut
            go_upto_if 57 with fail
            go_cut [15] (fun v wx => v = .int .i64 (hi : Int) ∧ wr = wx)
            case first =>
              clear hcc hrs hrb hcb1 hev hbw hx hy hX hY hX0 hY0 hEX hEY hzh
              by_cases hmy : m + 1 < nx
              · have j1 : (m : Int) + 1 < nx := by omega
                have j2 : (m : Int) + 1 = (hi : Int) := by omega
                clear hlo hhi
                go_wp2
                go_meet
                exact ⟨rfl, rfl⟩
              · have j1 : (nx : Int) ≤ (m : Int) + 1 := by omega
                have j2 : (hi : Int) = nx := by omega
                clear hlo hhi
                go_wp2
                go_meet
                exact ⟨by rw [j2], rfl⟩
            case rest =>
              obtain ⟨rfl, rfl⟩ := hcut
              have hloH : Hid (lo = m + 1 - ny) := hlo
              have hhiH : Hid (hi = min nx (m + 1)) := hhi
              have a1 : lo < hi := by omega
              have a2 : hi ≤ nx := by omega
              have a3 : hi ≤ m + 1 := by omega
              have a4 : m - lo + 1 ≤ ny := by omega
              obtain ⟨E0, hE0⟩ : ∃ E0, E0 = sumI (fun t => prM EX EY (t + 1 - ny) (min nx (t + 1)) t * zh ^ t) m := ⟨_, rfl⟩
              rw [← hE0] at hev
              clear hlo hhi
              go_wp2_with fail
              go_loopw [16] (fun vi w6 => ∃ (i cur : Nat) (cc B : Nat → Int) (S : Nat → Value), lo ≤ i ∧ cur = min i hi ∧ i ≤ hi + 29 ∧ vi = .int .i64 (i : Int) ∧ w6.rowIs cb 2 Lc (fun t => .int .i64 (cc t)) ∧ w6.rowIs sb 42 n S ∧ w6.rowIs bb 126 n (fun t => .int .u32 (B t)) ∧
                (∀ t, t < Lc → 0 ≤ cc t ∧ cc t ≤ ((m * nx + (cur - lo) : Nat) : Int) * 998244353) ∧ evl cc z Lc = E0 + prM EX EY lo cur m * zh ^ m ∧ Below w.heap.size w w6) (fun vi _ => hi + 29 - (intOf vi).toNat)
              case atStart => exact ⟨lo, lo, cc, B, S, by omega, by omega, by omega, rfl, hcc, hrs, hrb, by rw [Nat.sub_self]; exact hcb1, by rw [hev]; unfold prM; rw [Nat.sub_self]; show E0 = E0 + 0 * _; rw [Int.zero_mul, Int.add_zero], hbw⟩
              case round =>
                clear hcc hrs hrb hcb1 hev hbw cc B S
                obtain ⟨i, cur, cc, B, S, hi1, hcur, hi2, rfl, hcc, hrs, hrb, hcb1, hev, hbw⟩ := hrel
                by_cases hih : i < hi
                · have hcur2 : cur = i := by omega
                  subst hcur2
                  clear hcur
                  obtain ⟨en, hen⟩ : ∃ en, en = min (cur + 29) hi := ⟨_, rfl⟩
                  have i2 : (cur : Int) < hi := by omega
                  go_upto_if 70 with fail
                  go_cut [17] (fun v wx => v = .int .i64 (en : Int) ∧ wr = wx)
                  case first =>
                    clear hcc hrs hrb hcb1 hev hbw hx hy hX hY hX0 hY0 hEX hEY hzh
                    by_cases hmy : hi < cur + 29
                    · have j1 : (hi : Int) < (cur : Int) + 29 := by omega
                      have j2 : (en : Int) = hi := by omega
                      clear hen
                      go_wp2
                      go_meet
                      exact ⟨by rw [j2], rfl⟩
                    · have j1 : (cur : Int) + 29 ≤ hi := by omega
                      have j2 : (cur : Int) + 29 = (en : Int) := by omega
                      clear hen
                      go_wp2
                      go_meet
                      exact ⟨by rw [j2], rfl⟩
                  case rest =>
                    obtain ⟨rfl, rfl⟩ := hcut
                    have b1 : cur < en := by omega
                    have b2 : en ≤ hi := by omega
                    have b3 : en - cur ≤ 29 := by omega
                    have hxr : wr.rowIs xb 126 Lx (fun i => .int .u32 (Tr xs (k + 1) n i)) := hx.of_block (hbw.block xb hx.lt)
                    have hyr : wr.rowIs yb 126 Ly (fun i => .int .u32 (Tr ys (k + 1) n i)) := hy.of_block (hbw.block yb hy.lt)
                    have hxw := hx.lt
                    have hyw := hy.lt
                    have hbT : ∀ xs i, 0 ≤ Tr xs (k + 1) n i ∧ Tr xs (k + 1) n i < 998244353 := fun xs i => dft_mod_bound _ _ _ _
                    have m1 : en * n ≤ Lx := by rw [hLxH.out]; exact Nat.mul_le_mul_right _ (by omega)
                    have m2 : (m - cur + 1) * n ≤ Ly := by rw [hLyH.out]; exact Nat.mul_le_mul_right _ (by omega)
                    have hPr := products_ok sb n cur en m S xb 0 Lx yb 0 Ly capx capy (Tr xs (k + 1) n) (Tr ys (k + 1) n) wr n0 (by omega) b1 m1 (by omega) m2 (by omega) (by omega) (by omega) hcx hcy hrs (Sl.of_row hxr) (Sl.of_row hyr) (by omega) (by omega) (fun i _ => hbT xs i) (fun i _ => hbT ys i)
                    have henH : Hid (en = min (cur + 29) hi) := hen
                    obtain ⟨o, ho⟩ : ∃ o, o = m * h := ⟨_, rfl⟩
                    have o1 : (m : Int) * (h : Int) = (o : Int) := by rw [ho, Int.natCast_mul]
                    have o2 : o + n ≤ Lc := by
                      have : (m + 2) * h ≤ (nx + ny) * h := Nat.mul_le_mul_right _ (by omega)
                      rw [Nat.add_mul, ← ho] at this
                      rw [hLcH.out, hnH.out]
                      exact this
                    clear m1 m2 hen
                    go_wp2_with fail
                    with_reducible refine hPr.mono ?_
                    rintro e w7 ⟨rfl, hr7, hg7⟩
                    clear hPr hrs hxr hyr
                    have hc7 := hcc.of_block (hg7.block cb hcc.lt (by simp; omega))
                    have hb7 := hrb.of_block (hg7.block bb hrb.lt (by simp; omega))
                    have hw7 : Below w.heap.size w w7 := ⟨hg7.os.trans hbw.os, hg7.tape.trans hbw.tape, hg7.output.trans hbw.output, Nat.le_trans hbw.size hg7.size, fun q hq => (hg7.block q (Nat.lt_of_lt_of_le hq hbw.size) (by simp; omega)).trans (hbw.block q hq)⟩
                    clear hcc hrb hg7 hbw
                    have hvc : VecC w7 cb Lc (0 + o) n (fun j => cc (o + j)) (splice 0 Lc cc (fun _ => 0)) := (VecC.of_row hc7).part o2
                    rw [Nat.zero_add] at hvc
                    have hCb : ∀ j, j < n → 0 ≤ cc (o + j) ∧ cc (o + j) ≤ 1152921504606846976 := fun j hj => by
                      obtain ⟨c0, c1⟩ := hcb1 (o + j) (by omega)
                      refine ⟨c0, ?_⟩
                      have q1 : m * nx ≤ 2048 * 1024 := Nat.mul_le_mul (by omega) hnx
                      omega
                    have hS7 : ∀ j, j < n → 0 ≤ prS (Tr xs (k + 1) n) (Tr ys (k + 1) n) n cur m j (en - cur) % 998244353 ∧ prS (Tr xs (k + 1) n) (Tr ys (k + 1) n) n cur m j (en - cur) % 998244353 < 998244353 := fun j _ => ⟨Int.emod_nonneg _ (by decide), Int.emod_lt_of_pos _ (by decide)⟩
                    have hAB := fun w hc hb hs => addBack_ok (k + 1) n cb Lc o bb sb n (fun j => cc (o + j)) (splice 0 Lc cc (fun _ => 0)) B (fun j => prS (Tr xs (k + 1) n) (Tr ys (k + 1) n) n cur m j (en - cur) % 998244353) w (by omega) (by rw [hnH.out, hH.out, Nat.pow_succ']) hc hb hs (by omega) (by omega) hCb hS7
                    have hAB1 := hAB w7 hvc hb7 hr7
                    have hDex : ∀ l, l < n → dft (fun j => prS (Tr xs (k + 1) n) (Tr ys (k + 1) n) n cur m j (en - cur) % 998244353) (irootN (k + 1)) n l * invN (k + 1) % 998244353 = grp xs ys n cur m (en - cur) l := fun l hl => by
                      have hnn := hnH.out
                      have := back_exact k h (en - cur) (by omega) hH.out b3 (fun t => xs (cur + t)) (fun t => ys (m - (cur + t))) (fun i p => hX _ p) (fun i p => hY _ p) (fun i p hp => hX0 _ p hp) (fun i p hp => hY0 _ p hp) hh5 (fun j => prS (Tr xs (k + 1) n) (Tr ys (k + 1) n) n cur m j (en - cur) % 998244353) (fun j hj => by
                        refine (Eqm.emod _).trans ?_
                        unfold prS
                        refine sumI_eqm fun t ht => ?_
                        rw [Tr_at xs (k + 1) n _ j (by rw [hnn]; exact hj), Tr_at ys (k + 1) n _ j (by rw [hnn]; exact hj), ← hnn]
                        exact (Eqm.emod _).mul (Eqm.emod _)) l (by rw [← hnn]; exact hl)
                      rw [← hnn] at this
                      exact this
                    have i3 : (o : Int) + n ≤ Lc := by omega
                    have i4 : ((o : Int) + n).toNat = o + n := by omega
                    have i5 : ¬ n = 0 := by omega
                    have v1 : IntKind.i64.wrap (o : Int) = (o : Int) := IntWalk.i64_in _ ⟨by omega, by omega⟩
                    have v2 : IntKind.i64.wrap ((o : Int) + n) = (o : Int) + n := IntWalk.i64_in _ ⟨by omega, by omega⟩
                    have hDH : Hid _ := hDex
                    have hoH : Hid (o = m * h) := ho
                    clear hAB hvc hb7 hCb hS7 hDex ho
                    go_wp2_with fail
                    with_reducible refine hAB1.mono ?_
                    rintro e w8 ⟨rfl, hv8, ⟨B8, hrb8⟩, hg8⟩
                    have hrs8 := hr7.of_block (hg8.block sb hr7.lt (by omega) (by omega))
                    have hw8 : Below w.heap.size w w8 := ⟨hg8.os.trans hw7.os, hg8.tape.trans hw7.tape, hg8.output.trans hw7.output, Nat.le_trans hw7.size hg8.size, fun q hq => (hg8.block q (Nat.lt_of_lt_of_le hq hw7.size) (by omega) (by omega)).trans (hw7.block q hq)⟩
                    have hv9 := hv8.congr (G := fun j => cc (o + j) + grp xs ys n cur m (en - cur) j) (fun j hj => by rw [hDH.out j hj])
                    have hv10 : VecC w8 cb Lc 0 Lc (splice o n (fun j => cc (o + j) + grp xs ys n cur m (en - cur) j) cc) (fun _ => 0) := VecC.whole (by rw [Nat.zero_add]; exact hv9) o2 (by omega)
                    have hcc8 : w8.rowIs cb 2 Lc (fun t => .int .i64 (splice o n (fun j => cc (o + j) + grp xs ys n cur m (en - cur) j) cc t)) := hv10.2.congr fun t ht => by
                      show Value.int .i64 (splice 0 Lc _ _ t) = _
                      rw [splice.eq_1 0 Lc]
                      rw [if_pos (by omega), Nat.sub_zero]
                    have hgb : ∀ j, j < n → 0 ≤ grp xs ys n cur m (en - cur) j ∧ grp xs ys n cur m (en - cur) j < 998244353 := fun j hj => by
                      rw [← hDH.out j hj]; exact ⟨Int.emod_nonneg _ (by decide), Int.emod_lt_of_pos _ (by decide)⟩
                    have hcb8 : ∀ t, t < Lc → 0 ≤ splice o n (fun j => cc (o + j) + grp xs ys n cur m (en - cur) j) cc t ∧ splice o n (fun j => cc (o + j) + grp xs ys n cur m (en - cur) j) cc t ≤ ((m * nx + (en - lo) : Nat) : Int) * 998244353 := fun t ht => by
                      obtain ⟨c0, c1⟩ := hcb1 t ht
                      have hle : ((m * nx + (cur - lo) : Nat) : Int) + 1 ≤ ((m * nx + (en - lo) : Nat) : Int) := by omega
                      unfold splice
                      by_cases hin : o ≤ t ∧ t < o + n
                      · rw [if_pos hin]
                        obtain ⟨g0, g1⟩ := hgb (t - o) (by omega)
                        show 0 ≤ cc (o + (t - o)) + grp xs ys n cur m (en - cur) (t - o) ∧ cc (o + (t - o)) + grp xs ys n cur m (en - cur) (t - o) ≤ _
                        rw [show o + (t - o) = t by omega]
                        exact ⟨by omega, by omega⟩
                      · rw [if_neg hin]
                        exact ⟨c0, by omega⟩
                    have hev8 : evl (splice o n (fun j => cc (o + j) + grp xs ys n cur m (en - cur) j) cc) z Lc = E0 + prM EX EY lo en m * zh ^ m := by
                      rw [evl_add cc (grp xs ys n cur m (en - cur)) z o n Lc o2, hev, prM_add EX EY lo cur en m hi1 (by omega), hnH.out, grp_evl xs ys z h cur m (en - cur) hX0 hY0, hEX, hEY, hzh, hoH.out, ← Int.pow_mul, Nat.mul_comm h m, Int.add_mul]
                      generalize z ^ (m * h) = P1
                      generalize sumI _ (en - cur) = P2
                      generalize prM _ _ lo cur m = P3
                      grind
                    generalize splice o n (fun j => cc (o + j) + grp xs ys n cur m (en - cur) j) cc = cc8 at *
                    clear hAB1 hv8 hv9 hv10 hgb hcb1 hev hg8 hw7 hDH hc7 hr7 hX hY hX0 hY0 hEX hEY hx hy
                    go_wp2
                    exact ⟨⟨cur + 29, en, cc8, B8, _, by omega, henH.out, by omega, by go_num, hcc8, hrs8, hrb8, hcb8, hev8, hw8⟩, by simp [intOf]; omega⟩
                · have hcur2 : cur = hi := by omega
                  subst hcur2
                  have i2 : (cur : Int) ≤ i := by omega
                  have hev2 : evl cc z Lc = sumI (fun t => prM EX EY (t + 1 - ny) (min nx (t + 1)) t * zh ^ t) (m + 1) := by
                    rw [hev, hE0]
                    show _ = sumI _ m + prM EX EY (m + 1 - ny) (min nx (m + 1)) m * zh ^ m
                    rw [← hloH.out, ← hhiH.out]
                  have hcb2 : ∀ t, t < Lc → 0 ≤ cc t ∧ cc t ≤ (((m + 1) * nx : Nat) : Int) * 998244353 := fun t ht => by
                    obtain ⟨c0, c1⟩ := hcb1 t ht
                    have : m * nx + (cur - lo) ≤ (m + 1) * nx := by rw [Nat.add_mul, Nat.one_mul]; omega
                    exact ⟨c0, by omega⟩
                  have hev2H : Hid _ := hev2
                  have hcb2H : Hid _ := hcb2
                  clear hev hcb1 hcur hev2 hcb2 hE0 hx hy hX hY hX0 hY0 hEX hEY hzh
                  go_wp2
                  go_roundw
                  case rel => exact ⟨m + 1, cc, B, S, by omega, by go_num, hcc, hrs, hrb, hcb2H.out, hev2H.out, hbw⟩
                  case measure => simp [intOf]; omega
        · have hmeq : m = nx + ny - 1 := by omega
          have i1 : (nx : Int) + (ny : Int) - 1 ≤ m := by omega
          have hfin : evl cc z Lc = evl EX zh nx * evl EY zh ny := by rw [hev, hmeq]; exact prM_all EX EY nx ny hx0 hy0 zh
          rw [hEX, hEY, hzh, ← hnH.out] at hfin
          have hcb2 : ∀ t, t < Lc → 0 ≤ cc t ∧ cc t < 36028797018963968 := fun t ht => by
            obtain ⟨c0, c1⟩ := hcb1 t ht
            have q1 : m * nx ≤ 2048 * 1024 := Nat.mul_le_mul (by omega) hnx
            exact ⟨c0, by omega⟩
          have hfinH : Hid _ := hfin
          have hcb2H : Hid _ := hcb2
          clear hev hcb1 hfin hcb2 hEX hEY hzh hx hy hX hY hX0 hY0 hmeq
          go_wp2
          go_ret
          exact ⟨cb, cc, rfl, hcb, hcc, hcb2H.out, hfinH.out, hbw⟩
end Go.Proofs.Ygctag
