import Derived.Test.YgctagPassP
import Derived.Test.YgctagFacs
import Derived.Test.YgctagRev
namespace Go.Proofs.Ygctag
open Go.RowKit

/-- Only blocks a and b written, new ones made. -/
structure Grown2 (w w' : World) (a b : Nat) : Prop where
  os : w'.os = w.os
  tape : w'.tape = w.tape
  output : w'.output = w.output
  size : w.heap.size ≤ w'.heap.size
  block : ∀ k, k < w.heap.size → k ≠ a → k ≠ b → w'.heap[k]? = w.heap[k]?
namespace Grown2
variable {w w' w'' : World} {a b : Nat}
theorem refl (w : World) (a b : Nat) : Grown2 w w a b := ⟨rfl, rfl, rfl, Nat.le_refl _, fun _ _ _ _ => rfl⟩
theorem left (h : Grown2 w w' a b) (k : w'.grownBy w'' (some a)) : Grown2 w w'' a b :=
  ⟨k.os.trans h.os, k.tape.trans h.tape, k.output.trans h.output, Nat.le_trans h.size k.size, fun i hi h1 h2 => (k.block i (Nat.lt_of_lt_of_le hi h.size) (by simpa using h1)).trans (h.block i hi h1 h2)⟩
theorem right (h : Grown2 w w' a b) (k : w'.grownBy w'' (some b)) : Grown2 w w'' a b :=
  ⟨k.os.trans h.os, k.tape.trans h.tape, k.output.trans h.output, Nat.le_trans h.size k.size, fun i hi h1 h2 => (k.block i (Nat.lt_of_lt_of_le hi h.size) (by simpa using h2)).trans (h.block i hi h1 h2)⟩
theorem below (h : Grown2 w w' a b) (k : Below w'.heap.size w' w'') : Grown2 w w'' a b :=
  ⟨k.os.trans h.os, k.tape.trans h.tape, k.output.trans h.output, Nat.le_trans h.size k.size, fun i hi h1 h2 => (k.block i (Nat.lt_of_lt_of_le hi h.size)).trans (h.block i hi h1 h2)⟩
end Grown2
theorem grown2_like {w w' : World} {a b d : Nat} (h : Grown2 w w' a b) : Grown2 w (w'.drewN d) a b := ⟨h.os, h.tape, h.output, h.size, h.block⟩
theorem grown_refl (w : World) (g : Option Nat) : w.grownBy w g := ⟨rfl, rfl, rfl, Nat.le_refl _, fun _ _ _ => rfl⟩
theorem grownBy_set (w : World) (g i : Nat) (v : Value) : w.grownBy (w.setCell ⟨g, i, none⟩ v) (some g) := grown_set (grown_refl w (some g)) 0 i v

/-- The first q pairs done. -/
def firstAt (q : Nat) (G : Nat → Int) (i : Nat) : Int := if i < 2 * q then firstF G i else G i
theorem first_next (q : Nat) (G : Nat → Int) (m : Nat) : upd (upd (firstAt q G) (2 * q) (G (2 * q) + G (2 * q + 1))) (2 * q + 1) (G (2 * q) + 998244353 - G (2 * q + 1)) m = firstAt (q + 1) G m := by
  unfold upd
  by_cases h1 : m = 2 * q + 1
  · subst h1
    rw [if_pos rfl]
    unfold firstAt firstF
    rw [if_pos (by omega), if_neg (by omega), show 2 * q + 1 - 1 = 2 * q by omega]
  · rw [if_neg h1]
    by_cases h2 : m = 2 * q
    · subst h2
      rw [if_pos rfl]
      unfold firstAt firstF
      rw [if_pos (by omega), if_pos (by omega)]
    · rw [if_neg h2]
      unfold firstAt
      by_cases h3 : m < 2 * q
      · rw [if_pos h3, if_pos (by omega)]
      · rw [if_neg h3, if_neg (by omega)]

/-- Cells of a row of factors tt: the first n filled. -/
def facG (tt : Nat → Int) (ro n : Nat) (C : Nat → Int) (i : Nat) : Int :=
  if ro ≤ i ∧ i < ro + 2 * n then (if (i - ro) % 2 = 0 then tt ((i - ro) / 2) else rat (tt ((i - ro) / 2))) else C i
theorem facG_set (tt : Nat → Int) (ro n : Nat) (C : Nat → Int) (i : Nat) :
    (if i = ro + n * 2 + 1 then rat (tt n) else if i = ro + n * 2 then tt n else facG tt ro n C i) = facG tt ro (n + 1) C i := by
  unfold facG
  by_cases h1 : i = ro + n * 2 + 1
  · subst h1
    rw [if_pos rfl, if_pos (by omega), if_neg (by omega)]
    congr 2; omega
  · rw [if_neg h1]
    by_cases h2 : i = ro + n * 2
    · subst h2
      rw [if_pos rfl, if_pos (by omega), if_pos (by omega)]
      congr 1; omega
    · rw [if_neg h2]
      by_cases h3 : ro ≤ i ∧ i < ro + 2 * n
      · have h4 : ro ≤ i ∧ i < ro + 2 * (n + 1) := ⟨h3.1, by omega⟩
        rw [if_pos h3, if_pos h4]
      · have h4 : ¬ (ro ≤ i ∧ i < ro + 2 * (n + 1)) := by omega
        rw [if_neg h3, if_neg h4]
theorem row_facG {w : World} {rb ro n NN : Nat} {T : TypeId} {C tt : Nat → Int} (h : w.rowIs rb T NN (fun i => .int .u32 (facG tt ro n C i))) :
    ((w.setCell ⟨rb, ro + n * 2, none⟩ (.int .u32 (tt n))).setCell ⟨rb, ro + n * 2 + 1, none⟩ (.int .u32 (rat (tt n)))).rowIs rb T NN (fun i => .int .u32 (facG tt ro (n + 1) C i)) := by
  refine ((h.set _ _).set _ _).congr fun i _ => ?_
  rw [← facG_set]
  by_cases h1 : i = ro + n * 2 + 1
  · rw [if_pos h1, if_pos h1]
  · rw [if_neg h1, if_neg h1]
    by_cases h2 : i = ro + n * 2
    · rw [if_pos h2, if_pos h2]
    · rw [if_neg h2, if_neg h2]
theorem facs_of_row {w : World} {rb ro n NN : Nat} {T : TypeId} {C tt : Nat → Int} (h : w.rowIs rb T NN (fun i => .int .u32 (facG tt ro n C i))) (hf : ro + 2 * n ≤ NN) : Facs w rb ro n tt := by
  intro j hj
  refine ⟨?_, ?_⟩
  · rw [h.cell (i := ro + j * 2) (by omega)]
    unfold facG
    rw [if_pos (by omega), if_pos (by omega)]
    congr 3; omega
  · rw [h.cell (i := ro + j * 2 + 1) (by omega)]
    unfold facG
    rw [if_pos (by omega), if_neg (by omega)]
    congr 4; omega
/-- The first b blocks of a pass done. -/
def passAt (tt : Nat → Int) (h b : Nat) (G : Nat → Int) (i : Nat) : Int := if i < b * (2 * h) then passF tt h G i else G i

theorem passAt_next (tt : Nat → Int) (h b s : Nat) (G : Nat → Int) (hh : 0 < h) (hs : s = b * (2 * h)) (i : Nat) : splice s (2 * h) (bfly tt h fun j => G (s + j)) (passAt tt h b G) i = passAt tt h (b + 1) G i := by
  have e : (b + 1) * (2 * h) = s + 2 * h := by rw [Nat.add_mul, Nat.one_mul, ← hs]
  unfold splice passAt
  rw [e, ← hs]
  by_cases h1 : s ≤ i ∧ i < s + 2 * h
  · rw [if_pos h1, if_pos h1.2]
    have hd : i / (2 * h) = b := by
      rw [show i = 2 * h * b + (i - s) by rw [Nat.mul_comm, ← hs]; omega, Nat.mul_add_div (by omega), Nat.div_eq_of_lt (by omega), Nat.add_zero]
    have hm : i % (2 * h) = i - s := by
      rw [show i = 2 * h * b + (i - s) by rw [Nat.mul_comm, ← hs]; omega, Nat.mul_add_mod, Nat.mod_eq_of_lt (by omega)]
      rw [Nat.mul_comm (2 * h) b, ← hs]
      omega
    unfold passF
    rw [hd, hm, ← hs]
  · rw [if_neg h1]
    by_cases h2 : i < s
    · rw [if_pos h2, if_pos (by omega)]
    · rw [if_neg h2, if_neg (by omega)]

set_option maxRecDepth 100000 in
set_option maxHeartbeats 4000000 in
theorem passes_ok (k g N off n cap rb hf : Nat) (T : TypeId) (F f C : Nat → Int) (W : Int) (w : World) (hk : k ≤ 11) (hn : n = 2 ^ k) (hW0 : 0 ≤ W) (hW : W < 998244353) (hneg : 1 ≤ k → Eqm (W ^ 2 ^ (k - 1)) (-1))
    (hcap : n ≤ cap) (hx : Vec w g N off n F f) (hF : ∀ i, i < n → 0 ≤ F i ∧ F i < 998244353) (hne : rb ≠ g) (hhf : hf ≤ 1024) (hnf : n ≤ 2 * hf) (hrow : w.rowIs rb T (4 * hf) (fun i => .int .u32 (C i))) :
    Calls Tagg.prog 131 #[.slice (some ⟨g, off, none⟩) n cap, .int .i64 k, .int .u32 W, .slice (some ⟨rb, 0, none⟩) hf hf, .slice (some ⟨rb, 2 * hf, none⟩) hf hf] w fun e w' =>
      e = .returned (.tuple #[]) ∧ Vec w' g N off n (fun j => dft F W n j % 998244353) f ∧ Grown2 w w' g rb := by
  have hle : 2 ^ k ≤ 2 ^ 11 := Nat.pow_le_pow_right (by decide) hk
  have hn2 : n ≤ 2048 := by omega
  have hn0 : 0 < n := by rw [hn]; exact Nat.two_pow_pos k
  have hN : Hid (n = 2 ^ k) := hn
  clear hn hle
  go_enter Tagg.func131, Tagg.ntmps131
  go_wp2_with fail
  with_reducible refine (reverse_ok k g N off n cap F f _ hk hN.out hx).mono ?_
  rintro e w1 ⟨rfl, hv1, hg1⟩
  have hr1 := hrow.of_block (hg1.block rb hrow.lt (by simpa using hne))
  have G1 := (Grown2.refl w g rb).left hg1
  clear hx hrow hg1
  go_wp2_with fail
  go_loopw [10] (fun vp wr => ∃ q : Nat, 2 * q ≤ n ∧ vp = .int .i64 (2 * (q : Int)) ∧ Grown2 w wr g rb ∧ Vec wr g N off n (firstAt q fun i => F (rev k i)) f ∧ wr.rowIs rb T (4 * hf) (fun i => .int .u32 (C i))) (fun vp _ => n + 2 - (intOf vp).toNat)
  case atStart => exact ⟨0, by omega, rfl, G1, hv1.congr fun i _ => by unfold firstAt; rw [if_neg (by omega)], hr1⟩
  case round =>
    clear G1 hv1 hr1
    obtain ⟨q, hq, rfl, hG, hv, hr⟩ := hrel
    by_cases hlt : 2 * q + 1 < n
    · have hb1 := hF (rev k (2 * q)) (by rw [hN.out]; exact rev_lt _ _)
      have hb2 := hF (rev k (2 * q + 1)) (by rw [hN.out]; exact rev_lt _ _)
      have c1 := hv.cell (j := 2 * q) (by omega)
      have c2 := hv.cell (j := 2 * q + 1) (by omega)
      have e1 : firstAt q (fun i => F (rev k i)) (2 * q) = F (rev k (2 * q)) := by unfold firstAt; rw [if_neg (by omega)]
      have e2 : firstAt q (fun i => F (rev k i)) (2 * q + 1) = F (rev k (2 * q + 1)) := by unfold firstAt; rw [if_neg (by omega)]
      rw [e1] at c1
      rw [e2] at c2
      have f1 := hv.frozen (off + 2 * q)
      have f2 := hv.frozen (off + (2 * q + 1))
      have i1 : 2 * (q : Int) + 1 < n := by omega
      have i2 : 2 * (q : Int) < n := by omega
      have i3 : (2 * (q : Int)).toNat = 2 * q := by omega
      have i4 : (2 * (q : Int) + 1).toNat = 2 * q + 1 := by omega
      have hall : Hid (∀ d, ∀ W', W' = ((wr.drewN d).setCell ⟨g, off + 2 * q, none⟩ (.int .u32 (F (rev k (2 * q)) + F (rev k (2 * q + 1))))).setCell ⟨g, off + (2 * q + 1), none⟩ (.int .u32 (F (rev k (2 * q)) + 998244353 - F (rev k (2 * q + 1)))) →
          Grown2 w W' g rb ∧ Vec W' g N off n (firstAt (q + 1) fun i => F (rev k i)) f ∧ W'.rowIs rb T (4 * hf) (fun i => .int .u32 (C i))) := by
        show ∀ d, ∀ W', _ → _
        rintro d W' rfl
        exact ⟨((grown2_like (d := d) hG).left (grownBy_set _ g (off + 2 * q) _)).left (grownBy_set _ g (off + (2 * q + 1)) _),
          (((hv.draws d).set (j := 2 * q) (by omega) _).set (j := 2 * q + 1) (by omega) _).congr (fun m hm => first_next q (fun i => F (rev k i)) m),
          ((row_draws hr d).setOther (a := ⟨g, off + 2 * q, none⟩) hne _).setOther (a := ⟨g, off + (2 * q + 1), none⟩) hne _⟩
      obtain ⟨a0, a1⟩ := hb1
      obtain ⟨b0, b1⟩ := hb2
      clear e1 e2 hv hG hr hF hneg
      generalize F (rev k (2 * q)) = U at *
      generalize F (rev k (2 * q + 1)) = V at *
      go_upto_region 4 with fail
      go_quiet (fail)
      go_wp2
      exact ⟨⟨q + 1, by omega, by go_num, hall.out nq _ rfl⟩, by simp [intOf]; omega⟩
    · have hq2 : 2 * q = n ∨ n = 1 := by
        have hnn := hN.out
        by_cases h1 : k = 0
        · subst h1; right; exact hnn
        · left
          have : 2 ^ k = 2 * 2 ^ (k - 1) := by rw [← Nat.pow_succ']; congr 1; omega
          omega
      have hle : (n : Int) ≤ 2 * (q : Int) + 1 := by omega
      -- what the passes begin with
      obtain ⟨G0, t0, ht0, hv0, hl0, h40⟩ : ∃ (G0 : Nat → Int) (t0 : Nat), t0 = min k 1 ∧ Vec wr g N off n G0 f ∧ LvlOK F W k t0 G0 ∧ In4 n G0 := by
        have hst := lvl_start F W k
        have hbr : ∀ i, i < 2 ^ k → 0 ≤ F (rev k i) ∧ F (rev k i) < 998244353 := fun i _ => hF _ (by rw [hN.out]; exact rev_lt _ _)
        by_cases h1 : k = 0
        · subst h1
          refine ⟨fun i => F (rev 0 i), 0, rfl, hv.congr fun i hi => ?_, hst, fun i hi => ?_⟩
          · have hnn := hN.out
            unfold firstAt; rw [if_neg (by rw [Nat.pow_zero] at hnn; omega)]
          · have := hbr i (by rw [← hN.out]; exact hi)
            show 0 ≤ F (rev 0 i) ∧ F (rev 0 i) < 3992977412
            omega
        · obtain ⟨l1, l2⟩ := first_step (by omega) (hneg (by omega)) hst hbr
          refine ⟨firstF fun i => F (rev k i), 1, by omega, hv.congr fun i hi => ?_, l1, by rw [hN.out]; exact l2⟩
          have : 2 * q = n := by
            rcases hq2 with h | h
            · exact h
            · have hnn := hN.out
              have : 2 ^ k = 2 * 2 ^ (k - 1) := by rw [← Nat.pow_succ']; congr 1; omega
              omega
          unfold firstAt; rw [if_pos (by omega)]
      clear hv hq2
      obtain ⟨hm, hhm⟩ : ∃ hm : Nat, (n : Int) / 2 = (hm : Int) := ⟨n / 2, by omega⟩
      have hm1 : hm = n / 2 := by omega
      have hfk : hm = 2 ^ (k - 1) ∨ hm = 0 := by
        have hnn := hN.out
        by_cases h1 : k = 0
        · subst h1; right; rw [Nat.pow_zero] at hnn; omega
        · left
          have : 2 ^ k = 2 * 2 ^ (k - 1) := by rw [← Nat.pow_succ']; congr 1; omega
          omega
      have hFc := fun w hr => factors_ok rb 0 hm (4 * hf) hf (k - 1) T C W w (by omega) hfk hW0 hW hr (by omega)
      have hmle : (hm : Int) ≤ hf := by omega
      have hml2 : hm ≤ hf := by omega
      have hHm : Hid (hm = n / 2) := hm1
      have hHt : Hid (t0 = min k 1) := ht0
      clear hm1 hfk ht0 hle
      go_wp2_with fail
      with_reducible refine (hFc _ hr).mono ?_
      rintro e w2 ⟨rfl, hr2, hg2⟩
      have hv2 := hv0.grown hg2 (Ne.symm hne)
      have hG2 := hG.right hg2
      clear hFc hr hv0 hG hg2
      go_wp2_with fail
      go_loopw [13] (fun vt wr => ∃ (d : Nat) (G D : Nat → Int), vt = .int .i64 ((d : Int) + 1) ∧ 1 ≤ d ∧ d ≤ max k 1 ∧ Vec wr g N off n G f ∧ LvlOK F W k (min k d) G ∧ In4 n G ∧ wr.rowIs rb T (4 * hf) (fun i => .int .u32 (D i)) ∧ (∀ i, i < 2 * hm → D i = facC W 0 hm C i) ∧ Grown2 w wr g rb) (fun vt _ => k + 2 - (intOf vt).toNat)
      case atStart => exact ⟨1, G0, _, rfl, by omega, by omega, hv2, by rw [← hHt.out]; exact hl0, h40, hr2, fun i _ => rfl, hG2⟩
      case round =>
        clear hv2 hl0 h40 hr2 hG2 hHt
        obtain ⟨d, G, D, rfl, hd1, hd2, hv, hl, h4, hr, hD, hG⟩ := hrel
        by_cases hdk : d + 1 ≤ k
        · have hmin : min k d = d := by omega
          rw [hmin] at hl
          obtain ⟨h, hh⟩ : ∃ h, h = 2 ^ d := ⟨_, rfl⟩
          obtain ⟨st, hst⟩ : ∃ st, st = 2 ^ (k - (d + 1)) := ⟨_, rfl⟩
          have e1 : (2 : Int) ^ d = (h : Int) := by rw [hh, Int.natCast_pow]; rfl
          have e2 : (2 : Int) ^ (k - (d + 1)) = (st : Int) := by rw [hst, Int.natCast_pow]; rfl
          have hnn := hN.out
          have hns : n = 2 * h * st := by
            rw [hnn, hh, hst, ← Nat.pow_succ', ← Nat.pow_add]; congr 1; omega
          have hmst : hm = h * st := by have := hHm.out; rw [hns, Nat.mul_assoc] at this; omega
          have hh0 : 0 < h := by rw [hh]; exact Nat.two_pow_pos _
          have hst0 : 0 < st := by rw [hst]; exact Nat.two_pow_pos _
          have hh2 : 2 * h ≤ n := by rw [hns]; exact Nat.le_mul_of_pos_right _ hst0
          have hstle : st ≤ n := by rw [hns]; exact Nat.le_mul_of_pos_left _ (by omega)
          have i1 : ((k : Int) - ((d : Int) + 1)).toNat = k - (d + 1) := by omega
          have i2 : (d : Int) + 1 ≤ k := by omega
          have i3 : 0 ≤ (k : Int) - ((d : Int) + 1) := by omega
          have i4 : IntKind.i64.wrap (h : Int) = (h : Int) := IntWalk.i64_in _ ⟨by omega, by omega⟩
          have i5 : IntKind.i64.wrap (st : Int) = (st : Int) := IntWalk.i64_in _ ⟨by omega, by omega⟩
          have hHh : Hid (h = 2 ^ d) := hh
          have hHst : Hid (st = 2 ^ (k - (d + 1))) := hst
          have hHns : Hid (n = 2 * h * st) := hns
          have hHms : Hid (hm = h * st) := hmst
          have hnegH : Hid (Eqm (W ^ 2 ^ (k - 1)) (-1)) := hneg (by omega)
          clear hh hst hnn hns hmst hmin hneg
          go_upto_region 10 with fail
          go_cut [14, 15] (fun vh vs wx => vh = .int .i64 (h : Int) ∧ vs = .int .i64 (st : Int) ∧ ∃ m, wx = wr.drewN m)
          case first =>
            clear hv hl h4 hr hD hG hF
            go_quiet (fail)
            go_wp2_with fail
            go_meet
            exact ⟨rfl, rfl, _, rfl⟩
          case rest =>
            obtain ⟨rfl, rfl, m, rfl⟩ := hcut
            have hv := hv.draws m
            have hr := row_draws hr m
            have hG := grown2_like (d := m) hG
            generalize wr.drewN m = wr at *
            clear e1 e2 i1 i2 i3 i4 i5
            go_wp2_with fail
            go_loopw [16] (fun vj wr => ∃ j : Nat, j ≤ h ∧ vj = .int .i64 (j : Int) ∧ Vec wr g N off n G f ∧ Grown2 w wr g rb ∧ wr.rowIs rb T (4 * hf) (fun i => .int .u32 (facG (fun j => wpw W (j * st)) (2 * hf) j D i))) (fun vj _ => h - (intOf vj).toNat)
            case atStart => exact ⟨0, by omega, rfl, hv, hG, hr.congr fun i _ => by unfold facG; rw [if_neg (by omega)]⟩
            case round =>
              clear hv hG hr
              obtain ⟨j, hj, rfl, hv, hG, hr⟩ := hrel
              by_cases hjh : j < h
              · have hjst : j * st < hm := by rw [hHms.out]; exact Nat.mul_lt_mul_of_pos_right hjh hst0
                obtain ⟨z, hz⟩ : ∃ z, z = j * st := ⟨_, rfl⟩
                have z1 : (j : Int) * (st : Int) = (z : Int) := by rw [hz, Int.natCast_mul]
                rw [← hz] at hjst
                have c0 : wr.cell? ⟨rb, z * 2, none⟩ = some (.int .u32 (wpw W z)) := by
                  rw [hr.cell (i := z * 2) (by omega)]
                  unfold facG
                  rw [if_neg (by omega), hD _ (by omega)]
                  unfold facC
                  rw [if_pos (by omega), if_pos (by omega)]
                  congr 3; omega
                have c1 : wr.cell? ⟨rb, z * 2 + 1, none⟩ = some (.int .u32 (rat (wpw W z))) := by
                  rw [hr.cell (i := z * 2 + 1) (by omega)]
                  unfold facG
                  rw [if_neg (by omega), hD _ (by omega)]
                  unfold facC
                  rw [if_pos (by omega), if_neg (by omega)]
                  congr 4; omega
                have s1 := hr.cell (i := 2 * hf + j * 2) (by omega)
                have s2 := hr.cell (i := 2 * hf + j * 2 + 1) (by omega)
                have f1 := hr.frozen (2 * hf + j * 2)
                have f2 := hr.frozen (2 * hf + j * 2 + 1)
                have hnext : Hid (∀ W', W' = (wr.setCell ⟨rb, 2 * hf + j * 2, none⟩ (.int .u32 (wpw W z))).setCell ⟨rb, 2 * hf + j * 2 + 1, none⟩ (.int .u32 (rat (wpw W z))) → Vec W' g N off n G f ∧ Grown2 w W' g rb ∧ W'.rowIs rb T (4 * hf) (fun i => .int .u32 (facG (fun j => wpw W (j * st)) (2 * hf) (j + 1) D i))) := by
                  show ∀ W', _ → _
                  rintro W' rfl
                  refine ⟨?_, (hG.right (grownBy_set wr rb _ _)).right (grownBy_set _ rb _ _), ?_⟩
                  · exact (hv.grown (grownBy_set wr rb _ _) (Ne.symm hne)).grown (grownBy_set _ rb _ _) (Ne.symm hne)
                  · have := row_facG hr
                    rw [← hz] at this
                    exact this
                have i1 : (j : Int) < h := by omega
                have i2 : (z : Int) < hf := by omega
                have i3 : (j : Int) < hf := by omega
                have i4 : IntKind.i64.wrap (z : Int) = (z : Int) := IntWalk.i64_in _ ⟨by omega, by omega⟩
                clear hv hG hr hD hl h4 hF hz
                go_wp2
                exact ⟨⟨j + 1, by omega, by go_num, hnext.out _ rfl⟩, by simp [intOf]; omega⟩
              · have e : j = h := by omega
                subst e
                have hfac := facs_of_row hr (by omega)
                have hD' : ∀ i, i < 2 * hm → facG (fun j => wpw W (j * st)) (2 * hf) j D i = facC W 0 hm C i := fun i hi => by
                  unfold facG; rw [if_neg (by omega)]; exact hD i hi
                have htt : ∀ i, i < j → 0 ≤ wpw W (i * st) ∧ wpw W (i * st) < 998244353 ∧ Eqm (wpw W (i * st)) ((W ^ 2 ^ (k - (d + 1))) ^ i) := fun i _ => by
                  obtain ⟨b0, b1, b2⟩ := wpw_bound W (i * st)
                  refine ⟨b0, b1, ?_⟩
                  rw [← Int.pow_mul, ← hHst.out, Nat.mul_comm st i]
                  exact b2
                obtain ⟨lv, h4'⟩ := pass_step hdk hnegH.out hl (by rw [← hN.out]; exact h4) (fun i hi => htt i (by rw [hHh.out]; exact hi))
                rw [← hHh.out] at lv h4'
                rw [← hN.out] at h4'
                obtain ⟨tt, htt0⟩ : ∃ tt, tt = fun i => wpw W (i * st) := ⟨_, rfl⟩
                rw [← htt0] at hfac hr lv h4' hD'
                have htt : ∀ i, i < j → 0 ≤ tt i ∧ tt i < 998244353 := fun i hi => by rw [htt0]; exact ⟨(htt i hi).1, (htt i hi).2.1⟩
                clear htt0
                generalize facG tt (2 * hf) j D = D1 at *
                clear hl hD
                go_wp2_with fail
                go_loopw [17] (fun vs wr => ∃ b s : Nat, b ≤ st ∧ vs = .int .i64 (s : Int) ∧ s = b * (2 * j) ∧ Vec wr g N off n (passAt tt j b G) f ∧ Grown2 w wr g rb ∧ wr.rowIs rb T (4 * hf) (fun i => .int .u32 (D1 i)) ∧ Facs wr rb (2 * hf) j tt) (fun vs _ => n - (intOf vs).toNat)
                case atStart => exact ⟨0, 0, by omega, rfl, by omega, hv.congr fun i _ => by unfold passAt; rw [if_neg (by omega)], hG, hr, hfac⟩
                case round =>
                  clear hv hG hr hfac
                  obtain ⟨b, s, hb, rfl, hs, hv, hG, hr, hfac⟩ := hrel
                  by_cases hbs : b < st
                  · have hsn : s + 2 * j ≤ n := by
                      have : (b + 1) * (2 * j) ≤ st * (2 * j) := Nat.mul_le_mul_right _ hbs
                      rw [Nat.add_mul, Nat.one_mul, ← hs] at this
                      rw [hHns.out, Nat.mul_comm (2 * j) st]
                      exact this
                    have hpart := (hv.part hsn).congr (G := fun i => G (s + i)) (fun i hi => by unfold passAt; rw [if_neg (by omega)])
                    have hB := fun w hx hr => block_ok g N (off + s) j rb (2 * hf) (fun i => G (s + i)) (splice off n (passAt tt j b G) f) tt w (by omega) hx hne hr (fun i hi => h4 (s + i) (by omega)) (fun i hi => htt i hi)
                    rw [Nat.add_assoc] at hB
                    have hback := fun w' (h : Vec w' g N (off + s) (2 * j) (bfly tt j fun i => G (s + i)) (splice off n (passAt tt j b G) f)) => (h.whole hsn hv.1).congr (G := passAt tt j (b + 1) G) (fun i _ => passAt_next tt j b s G hh0 hs i)
                    have i1 : (s : Int) + 2 * (j : Int) ≤ n := by omega
                    have i2 : (s : Int) < n := by omega
                    have i3 : (s : Int) + (j : Int) ≤ n := by omega
                    have i4 : ((s : Int) + (j : Int)).toNat = s + j := by omega
                    have i5 : ((s : Int) + 2 * (j : Int)).toNat = s + 2 * j := by omega
                    have i6 : (j : Int) ≤ hf := by omega
                    have i7 : (s : Int) + 2 * (j : Int) ≤ cap := by omega
                    have i8 : (s : Int) + (j : Int) ≤ cap := by omega
                    have i9 : (s : Int) ≤ (s : Int) + (j : Int) := by omega
                    have i10 : (s : Int) + (j : Int) ≤ (s : Int) + 2 * (j : Int) := by omega
                    have i11 : 0 ≤ (s : Int) + (j : Int) := by omega
                    have i12 : s + j - s = j := by omega
                    have i13 : s + 2 * j - (s + j) = j := by omega
                    have v1 : IntKind.i64.wrap ((s : Int) + (j : Int)) = (s : Int) + (j : Int) := IntWalk.i64_in _ ⟨by omega, by omega⟩
                    have v2 : IntKind.i64.wrap (2 * (j : Int)) = 2 * (j : Int) := IntWalk.i64_in _ ⟨by omega, by omega⟩
                    have v3 : IntKind.i64.wrap ((s : Int) + 2 * (j : Int)) = (s : Int) + 2 * (j : Int) := IntWalk.i64_in _ ⟨by omega, by omega⟩
                    have i14 : ¬ j = 0 := by omega
                    have i15 : ¬ 2 * j = j := by omega
                    have i16 : ¬ s + 2 * j = s + j := by omega
                    have i17 : (j : Int) ≤ 2 * (j : Int) := by omega
                    have i18 : (s : Int) ≤ cap := by omega
                    have hB1 := hB wr.drew hpart hfac
                    have hbackH : Hid _ := hback
                    have hmeta : Hid ((∀ w', wr.drew.grownBy w' (some g) → Grown2 w w' g rb ∧ w'.rowIs rb T (4 * hf) (fun i => .int .u32 (D1 i)) ∧ Facs w' rb (2 * hf) j tt)) := fun w' h => ⟨(grown2_like (d := 1) hG).left h, (row_draws hr 1).of_block (h.block rb hr.lt (by simpa using hne)), Facs.grown (w := wr.drew) hfac h hne⟩
                    have hsH : Hid (s = b * (2 * j)) := hs
                    clear hv hG hr hfac hpart hB hback h4 h4' lv hD' htt hF hs
                    go_wp2_with fail
                    go_region_with (go_at_call 134; with_reducible refine hB1.mono ?_; rintro e w3 ⟨rfl, hv3, hg3⟩)
                    obtain ⟨m1, m2, m3⟩ := hmeta.out w3 hg3
                    have m4 := hbackH.out w3 hv3
                    clear hv3 hg3 hB1 hmeta hbackH
                    go_wp2
                    exact ⟨⟨b + 1, s + 2 * j, by omega, by go_num, by rw [hsH.out, Nat.add_mul, Nat.one_mul], m4, m1, m2, m3⟩, by simp [intOf]; omega⟩
                  · have e : b = st := by omega
                    subst e
                    have hsn : s = n := by rw [hs, hHns.out, Nat.mul_comm]
                    subst hsn
                    have hv2 := hv.congr (G := passF tt j G) (fun i hi => by unfold passAt; rw [if_pos (by rw [← hs]; exact hi)])
                    have hmin2 : Hid (LvlOK F W k (min k (d + 1)) (passF tt j G)) := by
                      show LvlOK F W k (min k (d + 1)) (passF tt j G)
                      rw [show min k (d + 1) = d + 1 by omega]; exact lv
                    clear hv lv hs hfac htt h4
                    go_wp2
                    go_roundw
                    case rel => exact ⟨d + 1, passF tt j G, D1, by go_num, by omega, by omega, hv2, hmin2.out, h4', hr, hD', hG⟩
                    case measure => simp [intOf]; omega
        · have hmin : min k d = k := by omega
          rw [hmin] at hl
          have hfin : ∀ i, i < n → ured (G i) % 998244353 = dft F W n i % 998244353 := fun i hi => by
            have := last_step hl (by rw [← hN.out]; exact h4) i (by rw [← hN.out]; exact hi)
            rw [this, ← hN.out]
          have hkd : (k : Int) < (d : Int) + 1 := by omega
          clear hl hD hmin hr hF hneg hHm
          go_wp2_with fail
          go_loopw [18] (fun vi wr => ∃ i : Nat, i ≤ n ∧ vi = .int .i64 (i : Int) ∧ Vec wr g N off n (fun j => if j < i then ured (G j) % 998244353 else G j) f ∧ Grown2 w wr g rb) (fun vi _ => n - (intOf vi).toNat)
          case atStart => exact ⟨0, by omega, rfl, hv.congr fun i _ => by rw [if_neg (by omega)], hG⟩
          case round =>
            clear hv hG
            obtain ⟨i, hi, rfl, hv, hG⟩ := hrel
            by_cases hin : i < n
            · have c1 := hv.cell (j := i) hin
              rw [if_neg (Nat.lt_irrefl i)] at c1
              have f1 := hv.frozen (off + i)
              obtain ⟨g0, g1⟩ := h4 i hin
              obtain ⟨u0, u1, -⟩ := ured_bound g0 g1
              have hFo := fun w => fold_ok (ured (G i)) u0 u1 w
              have i1 : (i : Int) < n := by omega
              have hnext : Hid (∀ W', W' = wr.setCell ⟨g, off + i, none⟩ (.int .u32 (ured (G i) % 998244353)) → Vec W' g N off n (fun j => if j < i + 1 then ured (G j) % 998244353 else G j) f ∧ Grown2 w W' g rb) := by
                show ∀ W', _ → _
                rintro W' rfl
                refine ⟨(hv.set hin _).congr fun m hm => ?_, hG.left (grownBy_set wr g _ _)⟩
                unfold upd
                by_cases e : m = i
                · subst e; rw [if_pos rfl, if_pos (by omega)]
                · rw [if_neg e]
                  show (if m < i then ured (G m) % 998244353 else G m) = _
                  by_cases e2 : m < i
                  · rw [if_pos e2, if_pos (by omega)]
                  · rw [if_neg e2, if_neg (by omega)]
              clear hv hG h4 hfin
              by_cases hu : G i < 1996488706
              · have eu : ured (G i) = G i := by unfold ured; rw [if_pos hu]
                rw [eu] at hFo hnext
                clear eu u0 u1
                go_wp2_with fail
                with_reducible refine (hFo _).mono ?_
                rintro e w4 ⟨rfl, rfl⟩
                go_wp2
                exact ⟨⟨i + 1, by omega, by go_num, hnext.out _ rfl⟩, by simp [intOf]; omega⟩
              · have eu : ured (G i) = G i - 1996488706 := by unfold ured; rw [if_neg hu]
                rw [eu] at hFo hnext
                have hu' : 1996488706 ≤ G i := by omega
                clear eu u0 u1
                go_wp2_with fail
                with_reducible refine (hFo _).mono ?_
                rintro e w4 ⟨rfl, rfl⟩
                go_wp2
                exact ⟨⟨i + 1, by omega, by go_num, hnext.out _ rfl⟩, by simp [intOf]; omega⟩
            · have e : i = n := by omega
              subst e
              have hv2 := hv.congr (G := fun j => dft F W i j % 998244353) (fun j hj => by rw [if_pos hj]; exact hfin j hj)
              clear hv hfin h4
              go_wp2
              go_end0
              exact ⟨rfl, hv2, hG⟩
end Go.Proofs.Ygctag
