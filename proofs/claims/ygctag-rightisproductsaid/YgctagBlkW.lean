import Derived.Test.YgctagConvW
namespace Go.Proofs.Ygctag
open Go.RowKit

/-- Digit p of block i, of la digits A cut into blocks of h. -/
def blk (A : Nat → Int) (la h i p : Nat) : Int := if p < h ∧ i * h + p < la then A (i * h + p) else 0
/-- The blocks one after the other, each filled up to twice its length. -/
def rawF (A : Nat → Int) (la h i : Nat) : Int := blk A la h (i / (2 * h)) (i % (2 * h))

theorem raw_next (A : Nat → Int) (q h : Nat) (hh : 0 < h) (i : Nat) : upd (rawF A q h) (q / h * (2 * h) + q % h) (A q) i = rawF A (q + 1) h i := by
  have hm : q % h < h := Nat.mod_lt _ hh
  have hqd : q / h * h + q % h = q := by rw [Nat.mul_comm]; exact Nat.div_add_mod q h
  unfold upd
  by_cases e : i = q / h * (2 * h) + q % h
  · subst e
    rw [if_pos rfl]
    unfold rawF
    have e1 : (q / h * (2 * h) + q % h) / (2 * h) = q / h := by rw [Nat.mul_comm (q / h) (2 * h), Nat.mul_add_div (by omega), Nat.div_eq_of_lt (show q % h < 2 * h by omega), Nat.add_zero]
    have e2 : (q / h * (2 * h) + q % h) % (2 * h) = q % h := by rw [Nat.mul_comm (q / h) (2 * h), Nat.mul_add_mod, Nat.mod_eq_of_lt (show q % h < 2 * h by omega)]
    rw [e1, e2]
    unfold blk
    rw [if_pos ⟨hm, by omega⟩, hqd]
  · rw [if_neg e]
    unfold rawF blk
    by_cases h1 : i % (2 * h) < h ∧ i / (2 * h) * h + i % (2 * h) < q
    · rw [if_pos h1, if_pos ⟨h1.1, by omega⟩]
    · rw [if_neg h1]
      by_cases h2 : i % (2 * h) < h ∧ i / (2 * h) * h + i % (2 * h) < q + 1
      · exfalso
        have h3 : i / (2 * h) * h + i % (2 * h) = q := by omega
        apply e
        have d1 : q / h = i / (2 * h) := by rw [← h3, Nat.mul_comm (i / (2 * h)) h, Nat.mul_add_div hh, Nat.div_eq_of_lt h2.1, Nat.add_zero]
        have d2 : q % h = i % (2 * h) := by rw [← h3, Nat.mul_comm (i / (2 * h)) h, Nat.mul_add_mod, Nat.mod_eq_of_lt h2.1]
        rw [d1, d2, Nat.mul_comm (i / (2 * h)) (2 * h)]
        exact (Nat.div_add_mod i (2 * h)).symm
      · rw [if_neg h2]

theorem raw_zero (A : Nat → Int) (h i : Nat) : rawF A 0 h i = 0 := by unfold rawF blk; rw [if_neg (by omega)]

/-- The first b blocks transformed. -/
def trAt (A : Nat → Int) (la h k b i : Nat) : Int := if i < b * (2 * h) then Tr (blk A la h) k (2 * h) i else rawF A la h i

theorem trAt_next (A : Nat → Int) (la h k b s : Nat) (hh : 0 < h) (hs : s = b * (2 * h)) (i : Nat) :
    splice s (2 * h) (fun j => dft (blk A la h b) (rootN k) (2 * h) j % 998244353) (trAt A la h k b) i = trAt A la h k (b + 1) i := by
  have e : (b + 1) * (2 * h) = s + 2 * h := by rw [Nat.add_mul, Nat.one_mul, ← hs]
  unfold splice trAt
  rw [e, ← hs]
  by_cases h1 : s ≤ i ∧ i < s + 2 * h
  · rw [if_pos h1, if_pos h1.2]
    have hi : i = b * (2 * h) + (i - s) := by rw [← hs]; omega
    have := Tr_at (blk A la h) k (2 * h) b (i - s) (by omega)
    rw [← hi] at this
    exact this.symm
  · rw [if_neg h1]
    by_cases h2 : i < s
    · rw [if_pos h2, if_pos (by omega)]
    · rw [if_neg h2, if_neg (by omega)]

theorem blk_bound (A : Nat → Int) (la h i p : Nat) (hA : ∀ i, i < la → 0 ≤ A i ∧ A i ≤ 255) : 0 ≤ blk A la h i p ∧ blk A la h i p ≤ 255 := by
  unfold blk
  split
  · next hc => exact hA _ hc.2
  · exact ⟨by decide, by decide⟩
theorem blk_zero (A : Nat → Int) (la h i p : Nat) (hp : h ≤ p) : blk A la h i p = 0 := by unfold blk; rw [if_neg (by omega)]

set_option maxRecDepth 100000 in
set_option maxHeartbeats 4000000 in
theorem blocks_ok (k h la cap : Nat) (a : Option Addr) (A : Nat → Int) (w : World) (hk : k ≤ 9) (hh : h = 2 ^ k) (hla : 0 < la) (hla2 : la ≤ 262144) (hx : Sl w a la fun i => .int .u8 (A i)) (hA : ∀ i, i < la → 0 ≤ A i ∧ A i ≤ 255) :
    Calls Tagg.prog 92 #[.slice a la cap, .int .i64 h] w fun e w' => ∃ g, e = .returned (.slice (some ⟨g, 0, none⟩) ((la + h - 1) / h * (2 * h)) ((la + h - 1) / h * (2 * h))) ∧ w.heap.size ≤ g ∧
      w'.rowIs g 126 ((la + h - 1) / h * (2 * h)) (fun i => .int .u32 (Tr (blk A la h) (k + 1) (2 * h) i)) ∧ Below w.heap.size w w' := by
  have hle : 2 ^ k ≤ 2 ^ 9 := Nat.pow_le_pow_right (by decide) hk
  have hh5 : h ≤ 512 := by omega
  have hh0 : 0 < h := by rw [hh]; exact Nat.two_pow_pos k
  have hH : Hid (h = 2 ^ k) := hh
  obtain ⟨cn, hcn⟩ : ∃ cn, cn = (la + h - 1) / h := ⟨_, rfl⟩
  obtain ⟨L, hL⟩ : ∃ L, L = cn * (2 * h) := ⟨_, rfl⟩
  rw [← hcn, ← hL]
  have hcn1 : cn ≤ 262144 + 512 := by rw [hcn]; exact Nat.le_trans (Nat.div_le_self _ _) (by omega)
  have hcov : la ≤ cn * h := by
    have h1 : (la + h - 1) % h < h := Nat.mod_lt _ hh0
    have h2 := Nat.div_add_mod (la + h - 1) h
    rw [hcn, Nat.mul_comm]
    omega
  have hcnle : cn * h ≤ la + h - 1 := by rw [hcn]; exact Nat.div_mul_le_self _ _
  have hLb : L ≤ 1048576 := by
    have : cn * (2 * h) = 2 * (cn * h) := by rw [Nat.mul_left_comm]
    omega
  have e1 : ((la : Int) + (h : Int) - 1) / (h : Int) = (cn : Int) := by
    rw [hcn, Int.natCast_ediv]; congr 1; omega
  obtain ⟨n, hn⟩ : ∃ n, n = 2 * h := ⟨_, rfl⟩
  have hnH : Hid (n = 2 * h) := hn
  have en : 2 * (h : Int) = (n : Int) := by omega
  have n0 : 0 < n := by omega
  have n1 : n ≤ 1024 := by omega
  have e2 : (n : Int) * (cn : Int) = (L : Int) := by rw [hL, ← hn, Int.natCast_mul, Int.mul_comm]
  have vn : IntKind.i64.wrap (n : Int) = (n : Int) := IntWalk.i64_in _ ⟨by omega, by omega⟩
  clear hn
  have hmk := run_make_row' (P := Tagg.prog) 117 126 (.int .u32 0) 4 Tagg.underlying117 Tagg.info126 rfl .i64 .i64 L (by omega) (by omega)
  have n2 : ((h : Int) == 0) = false := by simp; omega
  have n3 : ¬ (h : Int) = 0 := by omega
  have v1 : IntKind.i64.wrap (cn : Int) = (cn : Int) := IntWalk.i64_in _ ⟨by omega, by omega⟩
  have v2 : IntKind.i64.wrap (L : Int) = (L : Int) := IntWalk.i64_in _ ⟨by omega, by omega⟩
  have hLH : Hid (L = cn * (2 * h)) := hL
  have hcovH : Hid (la ≤ cn * h) := hcov
  clear hh hle hcn hL hcnle hcov
  go_enter Tagg.func92, Tagg.ntmps92
  go_wp2_with fail
  generalize eX : w.alloc _ = X
  have hrX : X.rowIs w.heap.size 126 L (fun _ => .int .u32 0) := by rw [← eX]; exact made_at rfl _ _ _
  have hbX : Below w.heap.size w X := by rw [← eX]; exact (Below.refl _ _).alloc (Nat.le_refl _) _
  have hgX : w.grownBy X (some w.heap.size) := grown_of_below hbX
  have gd : Hid (w.heap.size ≥ w.heap.size) := Nat.le_refl _
  clear eX hmk e1 e2 v1 v2
  obtain ⟨g, hg⟩ : ∃ g, g = w.heap.size := ⟨_, rfl⟩
  rw [← hg] at hrX hgX ⊢
  have hgH : Hid (g = w.heap.size) := hg
  clear hg gd
  go_loopw [7] (fun vi wr => ∃ q : Nat, q ≤ la ∧ vi = .int .i64 (q : Int) ∧ w.grownBy wr (some g) ∧ wr.rowIs g 126 L (fun t => .int .u32 (rawF A q h t))) (fun vi _ => la - (intOf vi).toNat)
  case atStart => exact ⟨0, by omega, rfl, hgX, hrX.congr fun t _ => by rw [raw_zero]⟩
  case round =>
    clear hrX hgX hbX
    obtain ⟨q, hq, rfl, hgr, hr⟩ := hrel
    by_cases hql : q < la
    · obtain ⟨b, off, rfl, cc0⟩ := hx q hql
      have cc : wr.cell? ⟨b, off + q, none⟩ = some (.int .u8 (A q)) := grown_cell2 hgr (by have := cell_lt cc0; have := hgH.out; dsimp only at *; omega) cc0
      obtain ⟨a0, a1⟩ := hA q hql
      obtain ⟨qd, hqd⟩ : ∃ qd, qd = q / h := ⟨_, rfl⟩
      obtain ⟨qm, hqm⟩ : ∃ qm, qm = q % h := ⟨_, rfl⟩
      obtain ⟨ix, hix⟩ : ∃ ix, ix = qd * (2 * h) + qm := ⟨_, rfl⟩
      have d1 : (q : Int) / (h : Int) = (qd : Int) := by rw [hqd, Int.natCast_ediv]
      have d2 : (q : Int) % (h : Int) = (qm : Int) := by rw [hqm, Int.natCast_emod]
      have hixL : ix < L := by
        have hm : qm < h := by rw [hqm]; exact Nat.mod_lt _ hh0
        have hqd2 : qd < cn := by
          rw [hqd, Nat.div_lt_iff_lt_mul hh0]
          exact Nat.lt_of_lt_of_le hql hcovH.out
        have : (qd + 1) * (2 * h) ≤ cn * (2 * h) := Nat.mul_le_mul_right _ hqd2
        rw [Nat.add_mul, Nat.one_mul] at this
        rw [hLH.out, hix]
        omega
      obtain ⟨x2, hx2⟩ : ∃ x2, x2 = qd * 2 := ⟨_, rfl⟩
      obtain ⟨x3, hx3⟩ : ∃ x3, x3 = x2 * h := ⟨_, rfl⟩
      have d3 : (qd : Int) * 2 = (x2 : Int) := by omega
      have d4 : (x2 : Int) * (h : Int) = (x3 : Int) := by rw [hx3, Int.natCast_mul]
      have d5 : (x3 : Int) + (qm : Int) = (ix : Int) := by rw [hix, hx3, hx2, Nat.mul_assoc]; omega
      have bnd : x3 ≤ ix ∧ x2 ≤ x3 ∧ qd ≤ x2 := by
        refine ⟨by omega, ?_, by omega⟩
        rw [hx3]; exact Nat.le_mul_of_pos_right _ hh0
      obtain ⟨q1, q2, q3⟩ := bnd
      have hnext : Hid (∀ W', W' = (wr.setCell ⟨g, ix, none⟩ (.int .u32 (A q))).drew → w.grownBy W' (some g) ∧ W'.rowIs g 126 L (fun t => .int .u32 (rawF A (q + 1) h t))) := by
        show ∀ W', _ → _
        rintro W' rfl
        refine ⟨grown_drew (grown_set hgr 0 _ _), (row_set (F := Value.int .u32) hr ix (A q)).congr fun t _ => ?_⟩
        rw [hix, hqd, hqm, raw_next A q h hh0 t]
      have cI := hr.cell hixL
      have fI := hr.frozen ix
      have i1 : (q : Int) < la := by omega
      have i2 : (ix : Int) < L := by omega
      have v1 : IntKind.i64.wrap (qd : Int) = (qd : Int) := IntWalk.i64_in _ ⟨by omega, by omega⟩
      have v2 : IntKind.i64.wrap (x2 : Int) = (x2 : Int) := IntWalk.i64_in _ ⟨by omega, by omega⟩
      have v3 : IntKind.i64.wrap (x3 : Int) = (x3 : Int) := IntWalk.i64_in _ ⟨by omega, by omega⟩
      have v4 : IntKind.i64.wrap (ix : Int) = (ix : Int) := IntWalk.i64_in _ ⟨by omega, by omega⟩
      clear hqd hqm hix hx2 hx3 hr hgr cc0 hx hA
      go_wp2_with fail
      go_region
      go_wp2
      exact ⟨⟨q + 1, by omega, by go_num, hnext.out _ rfl⟩, by simp [intOf]; omega⟩
    · have e : q = la := by omega
      subst e
      clear hx
      go_wp2_with fail
      go_loopw [8] (fun vi wr => ∃ b s : Nat, b ≤ cn ∧ vi = .int .i64 (s : Int) ∧ s = b * n ∧ w.grownBy wr (some g) ∧ wr.rowIs g 126 L (fun t => .int .u32 (trAt A q h (k + 1) b t))) (fun vi _ => L - (intOf vi).toNat)
      case atStart => exact ⟨0, 0, by omega, rfl, by omega, hgr, hr.congr fun t _ => by unfold trAt; rw [if_neg (by omega)]⟩
      case round =>
        clear hgr hr
        obtain ⟨b, s, hb, rfl, hs, hgr, hr⟩ := hrel
        have hLn : L = cn * n := by rw [hLH.out, hnH.out]
        by_cases hbc : b < cn
        · have hsn : s + n ≤ L := by
            have : (b + 1) * n ≤ cn * n := Nat.mul_le_mul_right _ hbc
            rw [Nat.add_mul, Nat.one_mul, ← hs, ← hLn] at this
            exact this
          have hpart := ((Vec.of_row (f := fun _ => 0) hr).part hsn).congr (G := fun j => blk A q h b j) (fun j hj => by
            unfold trAt
            have hnn := hnH.out
            rw [if_neg (by rw [← hnn, ← hs]; omega)]
            unfold rawF
            rw [← hnn, hs, Nat.mul_comm b n, Nat.mul_add_div n0, Nat.div_eq_of_lt hj, Nat.add_zero, Nat.mul_add_mod, Nat.mod_eq_of_lt hj])
          rw [Nat.zero_add] at hpart
          have hF := fun w hx => forward_ok (k + 1) g L s n n (fun j => blk A q h b j) (splice 0 L (trAt A q h (k + 1) b) (fun _ => 0)) w (by omega) (by rw [hnH.out, hH.out, Nat.pow_succ']) (Nat.le_refl _) hx (fun j hj => by have := blk_bound A q h b j hA; omega)
          have hback : Hid (∀ w', Vec w' g L s n (fun j => dft (fun j => blk A q h b j) (rootN (k + 1)) n j % 998244353) (splice 0 L (trAt A q h (k + 1) b) (fun _ => 0)) → w'.rowIs g 126 L (fun t => .int .u32 (trAt A q h (k + 1) (b + 1) t))) := by
            show ∀ w', _ → _
            intro w' hv
            have hv2 : Vec w' g L 0 L (splice s n (fun j => dft (fun j => blk A q h b j) (rootN (k + 1)) n j % 998244353) (trAt A q h (k + 1) b)) (fun _ => 0) := Vec.whole (by rw [Nat.zero_add]; exact hv) hsn (by omega)
            refine hv2.2.congr fun t ht => ?_
            show Value.int .u32 (splice 0 L _ _ t) = _
            rw [splice.eq_1 0 L, if_pos (by omega), Nat.sub_zero, hnH.out]
            rw [trAt_next A q h (k + 1) b s hh0 (by rw [← hnH.out]; exact hs) t]
          have i1 : (s : Int) + n ≤ L := by omega
          have i2 : (s : Int) < L := by omega
          have i3 : ((s : Int) + n).toNat = s + n := by omega
          have i4 : ¬ n = 0 := by omega
          have v2 : IntKind.i64.wrap ((s : Int) + n) = (s : Int) + n := IntWalk.i64_in _ ⟨by omega, by omega⟩
          have hF1 := hF wr hpart
          have hsH : Hid (s = b * n) := hs
          clear hF hpart hr hs hLn
          go_wp2_with fail
          with_reducible refine hF1.mono ?_
          rintro e w3 ⟨rfl, hv3, hg3⟩
          have hr3 := hback.out w3 hv3
          have hg4 := hgr.trans hg3
          clear hv3 hg3 hF1 hback hgr
          go_wp2
          go_roundw
          case rel => exact ⟨b + 1, s + n, by omega, by go_num, by rw [hsH.out, Nat.add_mul, Nat.one_mul], hg4, hr3⟩
          case measure => simp [intOf]; omega
        · have hbe : b = cn := by omega
          subst hbe
          have hsL : s = L := by rw [hs, hLn]
          subst hsL
          have hrow := hr.congr (g := fun t => .int .u32 (Tr (blk A q h) (k + 1) (2 * h) t)) (fun t ht => by unfold trAt; rw [if_pos (by rw [← hnH.out, ← hs]; exact ht)])
          have hbel : Below w.heap.size w wr := ⟨hgr.os, hgr.tape, hgr.output, hgr.size, fun t ht => hgr.block t ht (by have := hgH.out; simp; omega)⟩
          have hge : w.heap.size ≤ g := by rw [hgH.out]; exact Nat.le_refl _
          clear hr hgr hs hLn hA
          go_wp2
          go_ret
          exact ⟨g, rfl, hge, hrow, hbel⟩
end Go.Proofs.Ygctag
