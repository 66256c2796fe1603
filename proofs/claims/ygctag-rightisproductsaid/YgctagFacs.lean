import Derived.Test.YgctagBfly
namespace Go.Proofs.Ygctag
open Go.RowKit

/-- w^j modulo P. -/
def wpw (w : Int) (j : Nat) : Int := w ^ j % 998244353
theorem wpw_bound (w : Int) (j : Nat) : 0 ≤ wpw w j ∧ wpw w j < 998244353 ∧ Eqm (wpw w j) (w ^ j) := by
  unfold wpw; exact ⟨by omega, by omega, Eqm.emod _⟩
/-- Cells of a row of factors: the first n filled. -/
def facC (w : Int) (ro n : Nat) (C : Nat → Int) (i : Nat) : Int :=
  if ro ≤ i ∧ i < ro + 2 * n then (if (i - ro) % 2 = 0 then wpw w ((i - ro) / 2) else rat (wpw w ((i - ro) / 2))) else C i

theorem facC_set (w : Int) (ro n : Nat) (C : Nat → Int) (i : Nat) :
    (if i = ro + n * 2 + 1 then rat (wpw w n) else if i = ro + n * 2 then wpw w n else facC w ro n C i) = facC w ro (n + 1) C i := by
  unfold facC
  by_cases h1 : i = ro + n * 2 + 1
  · subst h1
    rw [if_pos rfl, if_pos (by omega), if_neg (by omega)]
    congr 2; omega
  · rw [if_neg h1]
    by_cases h2 : i = ro + n * 2
    · subst h2
      rw [if_pos rfl, if_pos (by omega), if_pos (by omega)]
      congr 1; omega
    · rw [if_neg h2]
      by_cases h3 : ro ≤ i ∧ i < ro + 2 * n
      · have h4 : ro ≤ i ∧ i < ro + 2 * (n + 1) := ⟨h3.1, by omega⟩
        rw [if_pos h3, if_pos h4]
      · have h4 : ¬ (ro ≤ i ∧ i < ro + 2 * (n + 1)) := by omega
        rw [if_neg h3, if_neg h4]

theorem wpw_mul (w : Int) (a b : Nat) : tms (wpw w a) (wpw w b) % 998244353 = wpw w (a + b) := by
  obtain ⟨a0, a1, a2⟩ := wpw_bound w a
  obtain ⟨b0, b1, b2⟩ := wpw_bound w b
  obtain ⟨-, -, h⟩ := tms_bound (wpw w a) (wpw w b) a0 a1 b0 (by omega)
  have h2 := h.trans (b2.mul a2)
  rw [← Int.pow_add, Nat.add_comm b a] at h2
  exact (Eqm.iff_emod _ _).1 h2
theorem wpw_sq (w : Int) (a : Nat) : wpw w a * wpw w a % 998244353 = wpw w (2 * a) := by
  obtain ⟨a0, a1, a2⟩ := wpw_bound w a
  have h2 := a2.mul a2
  rw [← Int.pow_add, ← Nat.two_mul] at h2
  exact (Eqm.iff_emod _ _).1 h2
theorem wpw_zero (w : Int) : wpw w 0 = 1 := by unfold wpw; rw [Int.pow_zero]; rfl
theorem wpw_one (w : Int) (h0 : 0 ≤ w) (h : w < 998244353) : wpw w 1 = w := by unfold wpw; rw [Int.pow_succ, Int.pow_zero, Int.one_mul]; omega

theorem grown_of_below {w w' : World} {g : Option Nat} (h : Below w.heap.size w w') : w.grownBy w' g := ⟨h.os, h.tape, h.output, h.size, fun k hk _ => h.block k hk⟩
theorem row_fac {w : World} {rb ro n NN : Nat} {T : TypeId} {C : Nat → Int} {W : Int} (h : w.rowIs rb T NN (fun i => .int .u32 (facC W ro n C i))) :
    ((w.setCell ⟨rb, ro + n * 2, none⟩ (.int .u32 (wpw W n))).setCell ⟨rb, ro + n * 2 + 1, none⟩ (.int .u32 (rat (wpw W n)))).rowIs rb T NN (fun i => .int .u32 (facC W ro (n + 1) C i)) := by
  refine ((h.set _ _).set _ _).congr fun i _ => ?_
  rw [← facC_set]
  by_cases h1 : i = ro + n * 2 + 1
  · rw [if_pos h1, if_pos h1]
  · rw [if_neg h1, if_neg h1]
    by_cases h2 : i = ro + n * 2
    · rw [if_pos h2, if_pos h2]
    · rw [if_neg h2, if_neg h2]

set_option maxRecDepth 100000 in
set_option maxHeartbeats 2000000 in
theorem factors_ok (rb ro m NN cap k : Nat) (T : TypeId) (C : Nat → Int) (W : Int) (w : World) (hk : k ≤ 10) (hm : m = 2 ^ k ∨ m = 0) (hW0 : 0 ≤ W) (hW : W < 998244353)
    (hrow : w.rowIs rb T NN (fun i => .int .u32 (C i))) (hfit : ro + 2 * m ≤ NN) :
    Calls Tagg.prog 133 #[.slice (some ⟨rb, ro, none⟩) m cap, .int .u32 W] w fun e w' => e = .returned (.tuple #[]) ∧ w'.rowIs rb T NN (fun i => .int .u32 (facC W ro m C i)) ∧ w.grownBy w' (some rb) := by
  have hF1 := fun w => factorOf_ok 1 (by decide) (by decide) w
  have hle : 2 ^ k ≤ 2 ^ 10 := Nat.pow_le_pow_right (by decide) hk
  have hm2 : m ≤ 1024 := by omega
  by_cases hm0 : m = 0
  · subst hm0
    go_enter Tagg.func133, Tagg.ntmps133
    go_wp2
    go_loopw [4] (fun v wr => v = .int .i64 1 ∧ w = wr) (fun _ _ => 0)
    case atStart => exact ⟨rfl, rfl⟩
    case round =>
      obtain ⟨rfl, rfl⟩ := hrel
      have hrow' := hrow.congr (g := fun i => .int .u32 (facC W ro 0 C i)) (fun i _ => by unfold facC; rw [if_neg (by omega)])
      clear hrow
      go_wp2
      go_end0
      exact ⟨rfl, hrow', ⟨rfl, rfl, rfl, Nat.le_refl _, fun _ _ _ => rfl⟩⟩
  · have hmp : (0 : Int) < m := by omega
    go_enter Tagg.func133, Tagg.ntmps133
    go_wp2_with fail
    with_reducible refine (hF1 _).mono ?_
    rintro e w1 ⟨rfl, hb1⟩
    have hrow1 : w1.rowIs rb T NN (fun i => .int .u32 (facC W ro 0 C i)) := (hrow.of_block (hb1.block rb hrow.lt)).congr (fun i _ => by unfold facC; rw [if_neg (by omega)])
    have c0 := hrow1.cell (i := ro) (by omega)
    have c1 := hrow1.cell (i := ro + 1) (by omega)
    have f0 := hrow1.frozen ro
    have f1 := hrow1.frozen (ro + 1)
    have hrow2 := row_fac hrow1
    rw [wpw_zero, Nat.zero_mul, Nat.add_zero] at hrow2
    have hg2 : ∀ a b, w.grownBy ((w1.setCell ⟨rb, ro, none⟩ a).setCell ⟨rb, ro + 1, none⟩ b) (some rb) := fun a b => grown_set (grown_set (grown_of_below hb1) 0 _ _) 0 _ _
    have hall : Hid (w.grownBy ((w1.setCell ⟨rb, ro, none⟩ (.int .u32 1)).setCell ⟨rb, ro + 1, none⟩ (.int .u32 (rat 1))) (some rb) ∧ ((w1.setCell ⟨rb, ro, none⟩ (.int .u32 1)).setCell ⟨rb, ro + 1, none⟩ (.int .u32 (rat 1))).rowIs rb T NN (fun i => .int .u32 (facC W ro (0 + 1) C i))) := ⟨hg2 _ _, hrow2⟩
    clear hrow2 hg2 hrow hrow1 hb1
    go_wp2_with fail
    generalize (w1.setCell ⟨rb, ro, none⟩ (.int .u32 1)).setCell ⟨rb, ro + 1, none⟩ (.int .u32 (rat 1)) = X at *
    clear c0 c1 f0 f1 w1 hF1
    go_loopw [1, 4] (fun vw vn wr => ∃ s n : Nat, vn = .int .i64 n ∧ n = 2 ^ s ∧ n ≤ m ∧ vw = .int .u32 (wpw W n) ∧ w.grownBy wr (some rb) ∧ wr.rowIs rb T NN (fun i => .int .u32 (facC W ro n C i))) (fun _ vn _ => m - (intOf vn).toNat)
    case atStart => exact ⟨0, 1, rfl, rfl, by omega, by rw [wpw_one W hW0 hW], hall.out.1, hall.out.2⟩
    case round =>
      clear hall
      obtain ⟨s, n, rfl, hns, hnm, rfl, hgr, hrw⟩ := hrel
      by_cases hlt : n < m
      · have hn0 : 0 < n := by rw [hns]; exact Nat.two_pow_pos s
        have hn2 : 2 * n ≤ m := by
          have hmk : m = 2 ^ k := by omega
          rw [hmk, hns] at hlt ⊢
          have hsk : s < k := (Nat.pow_lt_pow_iff_right (by decide)).1 hlt
          rw [← Nat.pow_succ']
          exact Nat.pow_le_pow_right (by decide) (by omega)
        obtain ⟨a0, a1, -⟩ := wpw_bound W n
        have hFn := fun w => factorOf_ok (wpw W n) a0 a1 w
        have hM := fun w => mulMod_ok (wpw W n) (wpw W n) a0 a1 a0 a1 w
        rw [wpw_sq] at hM
        have hlt' : (n : Int) < m := by omega
        have hHs : Hid (2 * n = 2 ^ (s + 1)) := by show 2 * n = 2 ^ (s + 1); rw [Nat.pow_succ', hns]
        clear hns hm
        go_wp2_with fail
        with_reducible refine (hFn _).mono ?_
        rintro e w1 ⟨rfl, hb1⟩
        have hrow1 := hrw.of_block (hb1.block rb hrw.lt)
        have hg1 := grown_below hgr hb1
        clear hrw hgr hFn hb1
        go_wp2_with fail
        generalize eX : w1.alloc _ = X1
        have hbX : Below w1.heap.size w1 X1 := by rw [← eX]; exact (Below.refl _ _).alloc (Nat.le_refl _) _
        have p0 : X1.heap[w1.heap.size]? = some (.cells #[.int .u32 (wpw W n), .int .u32 (rat (wpw W n))] 145 (0, 0)) := by rw [← eX]; exact Deep.blk_alloc_new w1 _
        have hrX := hrow1.of_block (hbX.block rb hrow1.lt)
        have hgX := grown_below hg1 hbX
        have hprb : w1.heap.size ≠ rb := by have := hrow1.lt; omega
        have hlX : w1.heap.size < X1.heap.size := by rw [← eX]; simp
        clear eX hbX hrow1 hg1
        generalize w1.heap.size = p at *
        go_loopw [6] (fun vj wr => ∃ j : Nat, j ≤ n ∧ vj = .int .i64 j ∧ X1.grownBy wr (some rb) ∧ wr.rowIs rb T NN (fun i => .int .u32 (facC W ro (n + j) C i))) (fun vj _ => n - (intOf vj).toNat)
        case atStart => exact ⟨0, by omega, rfl, ⟨rfl, rfl, rfl, Nat.le_refl _, fun _ _ _ => rfl⟩, hrX⟩
        case round =>
          clear hrX
          obtain ⟨j, hj, rfl, hgj, hrj⟩ := hrel
          by_cases hjn : j < n
          · have pb := (hgj.block p hlX (by simpa using hprb)).trans p0
            have q0 : wr.cell? ⟨p, 0, none⟩ = some (.int .u32 (wpw W n)) := by simp [World.cell?, pb]
            have q1 : wr.cell? ⟨p, 1, none⟩ = some (.int .u32 (rat (wpw W n))) := by simp [World.cell?, pb]
            obtain ⟨b0, b1, -⟩ := wpw_bound W j
            obtain ⟨d0, d1, -⟩ := wpw_bound W (n + j)
            have c0 : wr.cell? ⟨rb, ro + j * 2, none⟩ = some (.int .u32 (wpw W j)) := by
              rw [hrj.cell (i := ro + j * 2) (by omega)]
              unfold facC
              rw [if_pos (by omega), if_pos (by omega)]
              congr 3; omega
            have s1 := hrj.cell (i := ro + (n + j) * 2) (by omega)
            have s2 := hrj.cell (i := ro + (n + j) * 2 + 1) (by omega)
            have f1 := hrj.frozen (ro + (n + j) * 2)
            have f2 := hrj.frozen (ro + (n + j) * 2 + 1)
            have hT := fun w => times_ok (wpw W n) (wpw W j) a0 a1 b0 (by omega) w
            obtain ⟨t0, t1, -⟩ := tms_bound (wpw W n) (wpw W j) a0 a1 b0 (by omega)
            have hFo := fun w => fold_ok (tms (wpw W n) (wpw W j)) t0 t1 w
            rw [wpw_mul] at hFo
            have hFa := fun w => factorOf_ok (wpw W (n + j)) d0 d1 w
            have i1 : (j : Int) < n := by omega
            have i2 : (j : Int) < m := by omega
            have i3 : (n : Int) + j < m := by omega
            have i4 : 0 ≤ (n : Int) + j := by omega
            have i5 : ((n : Int) + j).toNat = n + j := by omega
            have i6 : IntKind.i64.wrap ((n : Int) + j) = (n : Int) + j := IntWalk.i64_in _ ⟨by omega, by omega⟩
            have hrj' : Hid _ := hrj
            clear hM hrj hHs
            go_wp2_with fail
            go_region_with (first
              | (go_at_call 130; with_reducible refine (hT _).mono ?_; rintro e w2 ⟨rfl, hb2⟩)
              | (go_at_call 129; with_reducible refine (hFo _).mono ?_; rintro e w3 ⟨rfl, rfl⟩)
              | (go_at_call 128; with_reducible refine (hFa _).mono ?_; rintro e w4 ⟨rfl, hb4⟩; obtain ⟨g1, g2⟩ := bcell (below_of_drew (hb2.trans (hb4.mono hb2.size))); have s1' := (g1 _ _ (cell_lt s1)).trans s1; have s2' := (g1 _ _ (cell_lt s2)).trans s2; have f1' := (g2 _ _ (cell_lt s1)).trans f1; have f2' := (g2 _ _ (cell_lt s2)).trans f2))
            all_goals (
              have hb24 := below_of_drew (hb2.trans (hb4.mono hb2.size))
              have hrj2 : wr.rowIs rb T NN (fun i => .int .u32 (facC W ro (n + j) C i)) := hrj'.out
              have hr4 := row_fac (hrj2.of_block (hb24.block rb hrj2.lt))
              have hg4 := fun a b => grown_set (grown_set (grown_below hgj hb24) 0 (ro + (n + j) * 2) a) 0 (ro + (n + j) * 2 + 1) b
              clear hT hFo hFa hb2 hb4 hb24 s1 s2 f1 f2 s1' s2' f1' f2' g1 g2 c0 q0 q1 pb
              go_wp2
              exact ⟨⟨j + 1, by omega, by go_num, hg4 _ _, hr4⟩, by simp [intOf]; omega⟩)
          · have e : j = n := by omega
            subst e
            have hg2 := hgX.trans hgj
            clear hgX hgj p0
            go_wp2_with fail
            with_reducible refine (hM _).mono ?_
            rintro e w2 ⟨rfl, rfl⟩
            go_wp2
            go_roundw
            case rel => exact ⟨s + 1, 2 * j, by go_num, hHs.out, by omega, rfl, hg2, by rw [Nat.two_mul]; exact hrj⟩
            case measure => simp [intOf]; omega
      · have e : n = m := by omega
        subst e
        go_wp2
        go_end0
        exact ⟨rfl, hrw, hgr⟩
end Go.Proofs.Ygctag
