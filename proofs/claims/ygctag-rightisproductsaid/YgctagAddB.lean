import Derived.Test.YgctagProd
namespace Go.Proofs.Ygctag
open Go.RowKit

/-- Cells off .. off + n - 1 of block g (N cells) hold F 0 .. F (n - 1), the others f. -/
def VecC (w : World) (g N off n : Nat) (F f : Nat → Int) : Prop := off + n ≤ N ∧ w.rowIs g 2 N (fun i => .int .i64 (splice off n F f i))

namespace VecC
variable {w w' : World} {g N off n : Nat} {F G f : Nat → Int}
theorem cell (h : VecC w g N off n F f) {j : Nat} (hj : j < n) : w.cell? ⟨g, off + j, none⟩ = some (.int .i64 (F j)) := by
  have hN := h.1
  have := h.2.cell (i := off + j) (by omega)
  rw [this]
  unfold splice
  rw [if_pos ⟨by omega, by omega⟩, Nat.add_sub_cancel_left]
theorem frozen (h : VecC w g N off n F f) (j : Nat) : w.frozen? ⟨g, j, none⟩ = false := h.2.frozen j
theorem lt (h : VecC w g N off n F f) : g < w.heap.size := h.2.lt
theorem congr (h : VecC w g N off n F f) (e : ∀ i, i < n → F i = G i) : VecC w g N off n G f := by
  refine ⟨h.1, h.2.congr fun i _ => ?_⟩
  unfold splice
  by_cases hi : off ≤ i ∧ i < off + n
  · rw [if_pos hi, if_pos hi, e _ (by omega)]
  · rw [if_neg hi, if_neg hi]
theorem set (h : VecC w g N off n F f) {j : Nat} (hj : j < n) (v : Int) : VecC (w.setCell ⟨g, off + j, none⟩ (.int .i64 v)) g N off n (upd F j v) f := by
  refine ⟨h.1, (h.2.set (off + j) _).congr fun i _ => ?_⟩
  unfold splice upd
  by_cases e : i = off + j
  · subst e
    rw [if_pos rfl, if_pos ⟨by omega, by omega⟩, if_pos (by omega)]
  · rw [if_neg e]
    by_cases hi : off ≤ i ∧ i < off + n
    · rw [if_pos hi, if_pos hi, if_neg (by omega)]
    · rw [if_neg hi, if_neg hi]
theorem draws (h : VecC w g N off n F f) (m : Nat) : VecC (w.drewN m) g N off n F f := h
theorem below (h : VecC w g N off n F f) (hb : Below w.heap.size w w') : VecC w' g N off n F f := ⟨h.1, h.2.of_block (hb.block g h.lt)⟩
theorem grown (h : VecC w g N off n F f) {r : Nat} (hb : w.grownBy w' (some r)) (hne : g ≠ r) : VecC w' g N off n F f := ⟨h.1, h.2.of_block (hb.block g h.lt (by simpa using hne))⟩
/-- A part of a part. -/
theorem part (h : VecC w g N off n F f) {o m : Nat} (hm : o + m ≤ n) : VecC w g N (off + o) m (fun i => F (o + i)) (splice off n F f) := by
  refine ⟨by have := h.1; omega, h.2.congr fun i _ => ?_⟩
  show Value.int .i64 (splice off n F f i) = .int .i64 (splice (off + o) m (fun i => F (o + i)) (splice off n F f) i)
  unfold splice
  by_cases hi : off + o ≤ i ∧ i < off + o + m
  · rw [if_pos (by omega), if_pos hi]
    congr 2; omega
  · rw [if_neg hi]
/-- And back. -/
theorem whole {o m : Nat} {H : Nat → Int} (h : VecC w g N (off + o) m H (splice off n F f)) (hm : o + m ≤ n) (hN : off + n ≤ N) : VecC w g N off n (splice o m H F) f := by
  refine ⟨hN, h.2.congr fun i _ => ?_⟩
  unfold splice
  by_cases hi : off + o ≤ i ∧ i < off + o + m
  · rw [if_pos hi, if_pos (by omega), if_pos (by omega)]
    congr 2; omega
  · rw [if_neg hi]
    by_cases h2 : off ≤ i ∧ i < off + n
    · rw [if_pos h2, if_pos h2, if_neg (by omega)]
    · rw [if_neg h2, if_neg h2]
end VecC

theorem row_up32 {w : World} {b n q : Nat} {t : TypeId} {F G : Nat → Int} (h : w.rowIs b t n (fun j => .int .u32 (if j < q then F j else G j))) :
    (w.setCell ⟨b, q, none⟩ (.int .u32 (F q))).rowIs b t n (fun j => .int .u32 (if j < q + 1 then F j else G j)) := by
  refine (h.set q _).congr fun i hi => ?_
  by_cases h1 : i = q
  · subst h1; rw [if_pos rfl, if_pos (by omega)]
  · rw [if_neg h1]
    by_cases h2 : i < q
    · rw [if_pos h2, if_pos (by omega)]
    · rw [if_neg h2, if_neg (by omega)]
theorem Vec.of_row {w : World} {g n : Nat} {F f : Nat → Int} (h : w.rowIs g 126 n (fun i => .int .u32 (F i))) : Vec w g n 0 n F f :=
  ⟨by omega, h.congr fun i hi => by unfold splice; rw [if_pos (by omega), Nat.sub_zero]⟩

set_option maxRecDepth 100000 in
set_option maxHeartbeats 2000000 in
theorem addBack_ok (k n cb N off bb sb capc : Nat) (Cc f : Nat → Int) (B : Nat → Int) (S : Nat → Int) (w : World) (hk : k ≤ 11) (hn : n = 2 ^ k) (hc : VecC w cb N off n Cc f) (hb : w.rowIs bb 126 n (fun i => .int .u32 (B i))) (hs : w.rowIs sb 42 n (fun i => .int .u64 (S i)))
    (h1 : cb ≠ bb) (h3 : bb ≠ sb) (hC : ∀ j, j < n → 0 ≤ Cc j ∧ Cc j ≤ 1152921504606846976) (hS : ∀ j, j < n → 0 ≤ S j ∧ S j < 998244353) :
    Calls Tagg.prog 114 #[.slice (some ⟨cb, off, none⟩) n capc, .slice (some ⟨bb, 0, none⟩) n n, .slice (some ⟨sb, 0, none⟩) n n] w fun e w' => e = .returned (.tuple #[]) ∧
      VecC w' cb N off n (fun j => Cc j + dft S (irootN k) n j * invN k % 998244353) f ∧ (∃ B' : Nat → Int, w'.rowIs bb 126 n (fun i => .int .u32 (B' i))) ∧ Grown2 w w' cb bb := by
  have hle : 2 ^ k ≤ 2 ^ 11 := Nat.pow_le_pow_right (by decide) hk
  have hn2 : n ≤ 2048 := by omega
  have hI := fun w hx => inverse_ok k bb n 0 n n S (fun _ => 0) w hk hn (Nat.le_refl _) hx hS
  clear hn hle
  go_enter Tagg.func114, Tagg.ntmps114
  go_wp2_with fail
  go_loopw [6] (fun vj wr => ∃ j : Nat, j ≤ n ∧ vj = .int .i64 (j : Int) ∧ w.grownBy wr (some bb) ∧ wr.rowIs bb 126 n (fun t => .int .u32 (if t < j then S t else B t))) (fun vj _ => n - (intOf vj).toNat)
  case atStart => exact ⟨0, by omega, rfl, grown_refl w _, hb.congr fun t _ => by rw [if_neg (by omega)]⟩
  case round =>
    obtain ⟨j, hj, rfl, hg, hr⟩ := hrel
    by_cases hjn : j < n
    · have cs : wr.cell? ⟨sb, j, none⟩ = some (.int .u64 (S j)) := grown_cell2 hg (Ne.symm h3) (hs.cell hjn)
      have cb' := hr.cell (i := j) hjn
      have fb := hr.frozen j
      obtain ⟨s0, s1⟩ := hS j hjn
      have i1 : (j : Int) < n := by omega
      have hnext : Hid (∀ W', W' = wr.setCell ⟨bb, j, none⟩ (.int .u32 (S j)) → w.grownBy W' (some bb) ∧ W'.rowIs bb 126 n (fun t => .int .u32 (if t < j + 1 then S t else B t))) := by
        show ∀ W', _ → _
        rintro W' rfl
        exact ⟨grown_set hg 0 _ _, row_up32 hr⟩
      clear hr hg hb hs hc hC hS hI
      go_wp2
      exact ⟨⟨j + 1, by omega, by go_num, hnext.out _ rfl⟩, by simp [intOf]; omega⟩
    · have e : j = n := by omega
      subst e
      have hv := Vec.of_row (f := fun _ => 0) (hr.congr (g := fun t => .int .u32 (S t)) (fun t ht => by rw [if_pos ht]))
      have hc1 := hc.grown hg h1
      have G1 := (Grown2.refl w cb bb).right hg
      clear hr hg hb hs hc hS
      go_wp2_with fail
      with_reducible refine (hI _ hv).mono ?_
      rintro e w2 ⟨rfl, hv2, hg2⟩
      have hc2 := hc1.grown hg2 h1
      have G2 := G1.right hg2
      clear hI hv hc1 G1 hg2
      obtain ⟨D, hD⟩ : ∃ D : Nat → Int, D = fun t => dft S (irootN k) j t * invN k % 998244353 := ⟨_, rfl⟩
      have hDb : ∀ t, 0 ≤ D t ∧ D t < 998244353 := fun t => by rw [hD]; exact ⟨Int.emod_nonneg _ (by decide), Int.emod_lt_of_pos _ (by decide)⟩
      rw [← hD] at hv2
      have hDe : ∀ t, dft S (irootN k) j t * invN k % 998244353 = D t := fun t => by rw [hD]
      have hDH : Hid _ := hDe
      clear hD hDe
      go_wp2_with fail
      go_loopw [7] (fun vj wr => ∃ i : Nat, i ≤ j ∧ vj = .int .i64 (i : Int) ∧ Grown2 w wr cb bb ∧ w2.grownBy wr (some cb) ∧ VecC wr cb N off j (fun t => if t < i then Cc t + D t else Cc t) f) (fun vj _ => j - (intOf vj).toNat)
      case atStart => exact ⟨0, by omega, rfl, G2, grown_refl w2 _, hc2.congr fun t _ => by rw [if_neg (by omega)]⟩
      case round =>
        clear G2 hc2
        obtain ⟨i, hi, rfl, hG, hg3, hv3⟩ := hrel
        by_cases hin : i < j
        · have cbk : wr.cell? ⟨bb, i, none⟩ = some (.int .u32 (D i)) := by
            have := (hv2.grown hg3 (Ne.symm h1)).cell hin
            rw [Nat.zero_add] at this
            exact this
          have cc := hv3.cell hin
          rw [if_neg (Nat.lt_irrefl i)] at cc
          have fc := hv3.frozen (off + i)
          obtain ⟨d0, d1⟩ := hDb i
          obtain ⟨c0, c1⟩ := hC i hin
          have i1 : (i : Int) < j := by omega
          have v1 : IntKind.i64.wrap (Cc i + D i) = Cc i + D i := IntWalk.i64_in _ ⟨by omega, by omega⟩
          have hnext : Hid (∀ W', W' = (wr.setCell ⟨cb, off + i, none⟩ (.int .i64 (Cc i + D i))).drew → Grown2 w W' cb bb ∧ w2.grownBy W' (some cb) ∧ VecC W' cb N off j (fun t => if t < i + 1 then Cc t + D t else Cc t) f) := by
            show ∀ W', _ → _
            rintro W' rfl
            refine ⟨grown2_like (d := 1) (hG.left (grownBy_set wr cb _ _)), grown_drew (grown_set hg3 0 _ _), (hv3.set hin _).congr fun m hm => ?_⟩
            unfold upd
            by_cases e : m = i
            · subst e; rw [if_pos rfl, if_pos (by omega)]
            · rw [if_neg e]
              show (if m < i then Cc m + D m else Cc m) = _
              by_cases e2 : m < i
              · rw [if_pos e2, if_pos (by omega)]
              · rw [if_neg e2, if_neg (by omega)]
          clear hG hg3 hv3 hv2 hC hDb hDH
          go_wp2_with fail
          go_region
          go_wp2
          exact ⟨⟨i + 1, by omega, by go_num, hnext.out _ rfl⟩, by simp [intOf]; omega⟩
        · have e : i = j := by omega
          subst e
          have hv4 := hv3.congr (G := fun t => Cc t + dft S (irootN k) i t * invN k % 998244353) (fun t ht => by rw [if_pos ht, hDH.out t])
          have hrb : ∃ B' : Nat → Int, wr.rowIs bb 126 i (fun t => .int .u32 (B' t)) := ⟨_, (hv2.grown hg3 (Ne.symm h1)).2⟩
          clear hv3 hg3 hv2 hC hDb hDH
          go_wp2
          go_end0
          exact ⟨rfl, hv4, hrb, hG⟩
end Go.Proofs.Ygctag
