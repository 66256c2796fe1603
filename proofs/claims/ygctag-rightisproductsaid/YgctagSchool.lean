import Derived.Test.YgctagNatX
namespace Go.Proofs.Ygctag
open Go.RowKit
attribute [local go_sem] eql30 neq30

theorem val_upd (O : Nat → Int) (p : Nat) (v : Int) (n : Nat) (hp : p < n) : val (upd O p v) n = val O n + (v - O p) * P8 p := by
  induction n with
  | zero => omega
  | succ n ih =>
    rw [val_succ, val_succ]
    by_cases e : p = n
    · subst e
      have : val (upd O p v) p = val O p := by
        unfold val evl
        exact sumI_congr fun i hi => by rw [upd_ne O v (by omega)]
      rw [this, upd_same, Int.sub_mul]; omega
    · rw [ih (by omega), upd_ne O v (by omega)]; omega

theorem natOwn_row {w : World} {B g N : Nat} {O : Nat → Int} (hB : B ≤ g) (hb : Bytes O N) (hr : w.rowIs g 5 N (fun i => .int .u8 (O i))) : NatOwn w B (cutV (some ⟨g, 0, none⟩) (trimLen O N)) (val O N) := by
  exact ⟨g, _, N, hB, rfl, lenIs_trim hb, fun _ => hr.congr fun i hi => by rw [val_digit hb i hi], trimLen_le _ _⟩

theorem natOwn_nil (w : World) (B : Nat) : NatOwn w B (.slice none 0 0) 0 := ⟨B, 0, 0, Nat.le_refl _, rfl, ⟨Int.le_refl 0, by rw [P8_zero]; decide, fun h => absurd h (by decide)⟩, fun h => absurd h (by decide), Nat.le_refl _⟩

set_option maxRecDepth 100000 in
set_option maxHeartbeats 4000000 in
theorem school_ok (a b : Option Addr) (la ca lb cb : Nat) (A B : Nat → Int) (w : World) (hca : la ≤ ca) (hcb : lb ≤ cb) (hla : la ≤ 1000000) (hlb : lb ≤ 1000000) (hca2 : ca ≤ 9223372036854775807) (hcb2 : cb ≤ 9223372036854775807)
    (hx : Sl w a la fun i => .int .u8 (A i)) (hy : Sl w b lb fun i => .int .u8 (B i)) (hA : Bytes A la) (hB : Bytes B lb) :
    Calls Tagg.prog 25 #[.slice a la ca, .slice b lb cb] w fun e w' => ∃ v, e = .returned v ∧ NatOwn w' w.heap.size v (val A la * val B lb) ∧ Below w.heap.size w w' := by
  have hS1 := strip66 a la ca A w hca hca2 hx
  have hS2 := strip66 b lb cb B w hcb hcb2 hy
  have ta := trimLen_le A la
  have tb := trimLen_le B lb
  have vA := val_trim A la
  have vB := val_trim B lb
  have hx' := hx.take ta
  have hy' := hy.take tb
  have hA' : Bytes A (trimLen A la) := fun i hi => hA i (by omega)
  have hB' : Bytes B (trimLen B lb) := fun i hi => hB i (by omega)
  rw [← vA, ← vB]
  clear vA vB hx hy hA hB
  generalize trimLen A la = na at *
  generalize trimLen B lb = nb at *
  go_enter Tagg.func25, Tagg.ntmps25
  go_wp2_with fail
  with_reducible refine hS1.mono ?_
  rintro e w1 ⟨rfl, rfl⟩
  go_wp2_with fail
  with_reducible refine hS2.mono ?_
  rintro e w2 ⟨rfl, rfl⟩
  clear hS1 hS2
  by_cases ha0 : na = 0
  · subst ha0
    rw [cutV_zero]
    have hz : val A 0 * val B nb = 0 := by show 0 * _ = (0 : Int); rw [Int.zero_mul]
    go_wp2
    go_ret
    exact ⟨_, rfl, by rw [hz]; exact natOwn_nil _ _, Below.refl _ _⟩
  · by_cases hb0 : nb = 0
    · subst hb0
      rw [cutV_pos ha0, cutV_zero]
      have hz : val A na * val B 0 = 0 := by show _ * 0 = (0 : Int); rw [Int.mul_zero]
      have h1 : ((na : Int) == 0) = false := by simp; omega
      go_wp2
      go_ret
      exact ⟨_, rfl, by rw [hz]; exact natOwn_nil _ _, Below.refl _ _⟩
    · rw [cutV_pos ha0, cutV_pos hb0]
      have h1 : ((na : Int) == 0) = false := by simp; omega
      have h2 : ((nb : Int) == 0) = false := by simp; omega
      obtain ⟨N, hN⟩ : ∃ N, N = na + nb := ⟨_, rfl⟩
      have eN : (na : Int) + (nb : Int) = (N : Int) := by omega
      have hmk := run_make_row' (P := Tagg.prog) 30 5 (.int .u8 0) 1 Tagg.underlying30 Tagg.info5 rfl .i64 .i64 N (by omega) (by omega)
      obtain ⟨ab, ao, rfl, -⟩ := hx' 0 (by omega)
      obtain ⟨bb, bo, rfl, -⟩ := hy' 0 (by omega)
      have hNH : Hid (N = na + nb) := hN
      have hNle : N ≤ 2000000 := by omega
      clear hN
      go_wp2_with fail
      generalize eX : w2.alloc _ = X
      have hbX : Below w2.heap.size w2 X := by rw [← eX]; exact (Below.refl _ _).alloc (Nat.le_refl _) _
      have hrX : X.rowIs w2.heap.size 5 N (fun _ => .int .u8 0) := by rw [← eX]; exact made_at rfl _ _ _
      clear eX hmk
      have hgX : w2.grownBy X (some w2.heap.size) := grown_of_below hbX
      obtain ⟨g, hg⟩ : ∃ g, g = w2.heap.size := ⟨_, rfl⟩
      rw [← hg] at hrX hgX ⊢
      have hgH : Hid (g = w2.heap.size) := hg
      have lab : ab < g := by obtain ⟨b', o', e', c'⟩ := hx' 0 (by omega); cases e'; have := cell_lt c'; dsimp only at this; omega
      have lbb : bb < g := by obtain ⟨b', o', e', c'⟩ := hy' 0 (by omega); cases e'; have := cell_lt c'; dsimp only at this; omega
      obtain ⟨VB, hVB⟩ : ∃ VB, VB = val B nb := ⟨_, rfl⟩
      clear hg hbX
      go_loopw [6] (fun vi wr => ∃ (i : Nat) (O : Nat → Int), i ≤ na ∧ vi = .int .i64 (i : Int) ∧ w2.grownBy wr (some g) ∧ wr.rowIs g 5 N (fun t => .int .u8 (O t)) ∧ Bytes O N ∧ (∀ t, i + nb ≤ t → O t = 0) ∧ val O N = val A i * VB) (fun vi _ => na - (intOf vi).toNat)
      case atStart => exact ⟨0, fun _ => 0, by omega, rfl, hgX, hrX, fun t _ => ⟨Int.le_refl 0, by show (0 : Int) ≤ 255; decide⟩, fun _ _ => rfl, by
        show val (fun _ => 0) N = 0 * VB
        rw [Int.zero_mul]; unfold val evl
        rw [sumI_congr (g := fun _ => 0) (fun i _ => Int.zero_mul _), sumI_zero]⟩
      case round =>
        clear hrX hgX
        obtain ⟨i, O, hi, rfl, hgr, hr, hOb, hO0, hOv⟩ := hrel
        by_cases hin : i < na
        · obtain ⟨b', o', e', ca'⟩ := hx' i hin
          cases e'
          obtain ⟨a0, a1⟩ := hA' i hin
          have i1 : (i : Int) < na := by omega
          go_wp2_with fail
          go_loopw [7, 8] (fun vc vj wr => ∃ (j : Nat) (cr : Int) (O : Nat → Int), j ≤ nb ∧ vj = .int .i64 (j : Int) ∧ vc = .int .u32 cr ∧ 0 ≤ cr ∧ cr ≤ 255 ∧ w2.grownBy wr (some g) ∧ wr.rowIs g 5 N (fun t => .int .u8 (O t)) ∧ Bytes O N ∧ (∀ t, i + nb ≤ t → O t = 0) ∧
            val O N + cr * P8 (i + j) = val A i * VB + A i * P8 i * val B j) (fun _ vj _ => nb - (intOf vj).toNat)
          case atStart => exact ⟨0, 0, O, by omega, rfl, rfl, Int.le_refl 0, by decide, hgr, hr, hOb, hO0, by rw [hOv, Int.zero_mul, Int.add_zero]; show _ = _ + _ * (0 : Int); rw [Int.mul_zero, Int.add_zero]⟩
          case round =>
            clear hgr hr hOb hO0 hOv
            obtain ⟨j, cr, O, hj, rfl, rfl, cr0, cr1, hgr, hr, hOb, hO0, hOv⟩ := hrel
            by_cases hjn : j < nb
            · obtain ⟨b'', o'', e'', cb'⟩ := hy' j hjn
              cases e''
              obtain ⟨b0, b1⟩ := hB' j hjn
              have hijN : i + j < N := by have := hNH.out; omega
              obtain ⟨o0, o1⟩ := hOb (i + j) hijN
              have cA : wr.cell? ⟨ab, ao + i, none⟩ = some (.int .u8 (A i)) := grown_cell2 hgr (by omega) ca'
              have cB : wr.cell? ⟨bb, bo + j, none⟩ = some (.int .u8 (B j)) := grown_cell2 hgr (by omega) cb'
              have cO := hr.cell (i := i + j) hijN
              have fO := hr.frozen (i + j)
              obtain ⟨T, hT⟩ : ∃ T, T = A i * B j + O (i + j) + cr := ⟨_, rfl⟩
              have ab0 : 0 ≤ A i * B j := Int.mul_nonneg a0 b0
              have ab1 : A i * B j ≤ 65025 := by
                have : A i * B j ≤ 255 * B j := Int.mul_le_mul_of_nonneg_right a1 b0
                omega
              have hnext : Hid (∀ d W', W' = (wr.drewN d).setCell ⟨g, i + j, none⟩ (.int .u8 (T % 256)) → ∃ (O : Nat → Int), w2.grownBy W' (some g) ∧ W'.rowIs g 5 N (fun t => .int .u8 (O t)) ∧ Bytes O N ∧ (∀ t, i + nb ≤ t → O t = 0) ∧
                  val O N + T / 256 * P8 (i + (j + 1)) = val A i * VB + A i * P8 i * val B (j + 1)) := by
                show ∀ d W', _ → _
                rintro d W' rfl
                refine ⟨upd O (i + j) (T % 256), grown_set hgr d _ _, row_set (F := Value.int .u8) (row_draws hr d) (i + j) _, ?_, ?_, ?_⟩
                · intro t ht
                  unfold upd
                  split
                  · omega
                  · exact hOb t ht
                · intro t ht
                  rw [upd_ne O _ (by omega)]
                  exact hO0 t ht
                · rw [val_upd O _ _ N hijN, val_succ, show i + (j + 1) = i + j + 1 by omega, P8_succ, Int.mul_add, ← Int.add_assoc, ← hOv]
                  have ep : P8 (i + j) = P8 i * P8 j := by unfold P8; rw [Nat.pow_add, Int.natCast_mul]
                  have et : T / 256 * 256 = T - T % 256 := by omega
                  have : T / 256 * (P8 (i + j) * 256) = (T - T % 256) * P8 (i + j) := by rw [← et, Int.mul_assoc, Int.mul_comm 256]
                  rw [this, hT, ep]
                  generalize (A i * B j + O (i + j) + cr) % 256 = M
                  generalize val O N = V0
                  generalize O (i + j) = o
                  generalize P8 i = p
                  generalize P8 j = q
                  generalize A i = x
                  generalize B j = y
                  grind
              have i2 : (j : Int) < nb := by omega
              have i3 : (i : Int) + (j : Int) < N := by omega
              have i4 : ((i : Int) + (j : Int)).toNat = i + j := by omega
              have hTb : 0 ≤ T ∧ T < 65536 := by omega
              obtain ⟨t0, t1⟩ := hTb
              have v1 : IntKind.i64.wrap ((i : Int) + (j : Int)) = (i : Int) + (j : Int) := IntWalk.i64_in _ ⟨by omega, by omega⟩
              have v2 : IntKind.u32.wrap (A i * B j) = A i * B j := IntWalk.u32_in _ ⟨by omega, by omega⟩
              have v3 : IntKind.u32.wrap (A i * B j + O (i + j)) = A i * B j + O (i + j) := IntWalk.u32_in _ ⟨by omega, by omega⟩
              have v4 : IntKind.u32.wrap (A i * B j + O (i + j) + cr) = T := by rw [← hT]; exact IntWalk.u32_in _ ⟨by omega, by omega⟩
              have v5 : IntKind.u8.wrap T = T % 256 := rfl
              have v6 : A i * B j + O (i + j) + cr = T := hT.symm
              clear hr hgr hOb hO0 hOv hx' hy' hA' hB' hVB ca' cb' hT
              go_wp2_with fail
              go_quiet (fail)
              go_wp2_with fail
              obtain ⟨O2, k1, k2, k3, k4, k5⟩ := hnext.out nq _ rfl
              exact ⟨⟨j + 1, T / 256, O2, by omega, by go_num, rfl, by omega, by omega, k1, k2, k3, k4, k5⟩, by simp [intOf]; omega⟩
            · have hje : j = nb := by omega
              subst hje
              have hinN : i + j < N := by have := hNH.out; omega
              have cO := hr.cell (i := i + j) hinN
              have fO := hr.frozen (i + j)
              have hnext : Hid (∀ W', W' = wr.setCell ⟨g, i + j, none⟩ (.int .u8 cr) → ∃ (O : Nat → Int), w2.grownBy W' (some g) ∧ W'.rowIs g 5 N (fun t => .int .u8 (O t)) ∧ Bytes O N ∧ (∀ t, (i + 1) + j ≤ t → O t = 0) ∧ val O N = val A (i + 1) * VB) := by
                show ∀ W', _ → _
                rintro W' rfl
                refine ⟨upd O (i + j) cr, grown_set hgr 0 _ _, row_set (F := Value.int .u8) hr (i + j) _, ?_, ?_, ?_⟩
                · intro t ht
                  unfold upd
                  split
                  · omega
                  · exact hOb t ht
                · intro t ht
                  rw [upd_ne O _ (by omega)]
                  exact hO0 t (by omega)
                · rw [val_upd O _ _ N hinN, hO0 (i + j) (Nat.le_refl _), val_succ, Int.sub_zero, hOv, Int.add_mul, hVB]
              have i3 : (i : Int) + (j : Int) < N := by omega
              have i4 : ((i : Int) + (j : Int)).toNat = i + j := by omega
              have v1 : IntKind.i64.wrap ((i : Int) + (j : Int)) = (i : Int) + (j : Int) := IntWalk.i64_in _ ⟨by omega, by omega⟩
              clear hr hgr hOb hO0 hOv hx' hy' hA' hB' hVB ca'
              go_wp2
              obtain ⟨O2, k1, k2, k3, k4, k5⟩ := hnext.out _ rfl
              exact ⟨⟨i + 1, O2, by omega, by go_num, k1, k2, k3, k4, k5⟩, by simp [intOf]; omega⟩
        · have hie : i = na := by omega
          subst hie
          have hown := natOwn_row (B := w2.heap.size) (by have := hgH.out; omega) hOb hr
          rw [hOv, hVB] at hown
          have hbel : Below w2.heap.size w2 wr := ⟨hgr.os, hgr.tape, hgr.output, hgr.size, fun j hj => hgr.block j hj (by have := hgH.out; simp; omega)⟩
          have hT := strip66 (some ⟨g, 0, none⟩) N N O wr (Nat.le_refl _) (by omega) (Sl.of_row hr)
          clear hr hgr hOb hO0 hOv hx' hy' hA' hB'
          go_wp2_with fail
          with_reducible refine hT.mono ?_
          rintro e w6 ⟨rfl, rfl⟩
          clear hT
          go_wp2
          go_ret
          exact ⟨_, rfl, hown, hbel⟩
end Go.Proofs.Ygctag
