import Derived.Test.YgctagAccS
import Derived.Test.YgctagUbW
import Derived.Test.YgctagMatX
import Derived.Deep.DeepCutAuto
import Derived.Deep.CutBlock
import Derived.ChangeKeysEq
import Derived.Laws.StructEq
namespace Go.Proofs.Ygctag
open Go.RowKit

theorem shlZ_eq (V : Int) (k : Nat) : shlZ V (k / 64) (k % 64) = V * 2 ^ k := by
  unfold shlZ P64
  rw [pow_cast, pow_cast, Int.mul_assoc, ← Int.pow_add]
  congr 2
  omega

theorem acc_new (w : World) : AccAt (w.alloc (.cells Tagg.zeroCells44 44)) w.heap.size 0 := by
  unfold AccAt; rw [acc_zero]; exact Deep.blk_alloc_new w _
theorem below_alloc44 (w : World) : Below w.heap.size w (w.alloc (.cells Tagg.zeroCells44 44)) := (Below.refl _ _).alloc (Nat.le_refl _) _
theorem grown_belowB {w w' : World} {g B : Nat} (h : w.grownBy w' (some g)) (hg : B ≤ g) (hB : B ≤ w.heap.size) : Below B w w' :=
  ⟨h.os, h.tape, h.output, by have := h.size; omega, fun k hk => h.block k (by omega) (by simp; omega)⟩

theorem below_cell {w w' : World} {p b o : Nat} {v : Value} (h : Below p w w') (hb : b < p) (hc : w.cell? ⟨b, o, none⟩ = some v) : w'.cell? ⟨b, o, none⟩ = some v := by
  rw [World.cell?_of_block (h.block b hb)]; exact hc

theorem P16_mono {i j : Nat} (h : i ≤ j) : P16 i ≤ P16 j := by unfold P16; exact_mod_cast Nat.pow_le_pow_right (by decide) h
/-- The accumulator has room. -/
theorem ub_fits (c : Nat → Int) (len : Nat) (hlen : len ≤ 64) (hc : ∀ i, i < len → -70368744177664 < c i ∧ c i < 70368744177664) :
    -P64 67 * 9223372036854775808 ≤ ubN c len len * 2 ^ 2148 ∧ ubN c len len * 2 ^ 2148 < P64 67 * 9223372036854775808 := by
  obtain ⟨h1, h2⟩ := ubN_bound c len hc len
  have hp := P16_pos len
  have hm := P16_mono hlen
  have e1 := Int.emod_add_mul_ediv (ubN c len len) (P16 len)
  have e2 := Int.emod_nonneg (ubN c len len) (Int.ne_of_gt hp)
  have e3 := Int.emod_lt_of_pos (ubN c len len) hp
  have l1 : P16 len * (ubN c len len / P16 len) ≤ P16 len * 70368744177664 := Int.mul_le_mul_of_nonneg_left h2 (Int.le_of_lt hp)
  have l2 : P16 len * (-70368744177664) ≤ P16 len * (ubN c len len / P16 len) := Int.mul_le_mul_of_nonneg_left h1 (Int.le_of_lt hp)
  have b1 : ubN c len len ≤ P16 64 * 70368744177665 := by omega
  have b2 : -(P16 64 * 70368744177665) ≤ ubN c len len := by omega
  have hE : (0 : Int) ≤ 2 ^ 2148 := by decide +kernel
  have m1 := Int.mul_le_mul_of_nonneg_right b1 hE
  have m2 := Int.mul_le_mul_of_nonneg_right b2 hE
  have k1 : P16 64 * 70368744177665 * 2 ^ 2148 < P64 67 * 9223372036854775808 := by decide +kernel
  have k2 : -P64 67 * 9223372036854775808 ≤ -(P16 64 * 70368744177665) * 2 ^ 2148 := by decide +kernel
  exact ⟨Int.le_trans k2 m2, Int.lt_of_le_of_lt m1 k1⟩

theorem eql34 (w : World) (a : Option Addr) (n c : Nat) : (binOp .eql 34 (.slice a n c) (.slice none 0 0)).run Tagg.prog w = .ok (.bool a.isNone) w := Lib.run_eql_slice_nil w 34 49 a n c 0 0 Tagg.underlying34
attribute [local go_sem] eql34

theorem info42_some : ∃ i, Tagg.prog.info? 42 = some i := Option.isSome_iff_exists.1 (by kernel_rfl)
theorem cells42 : Tagg.prog.cellsOf 42 = 1 := by kernel_rfl
theorem plain42 : Tagg.prog.plainKey 42 = true := by kernel_rfl
theorem guard44 : Tagg.prog.eqGuardType Tagg.prog.depth 44 = false := by kernel_rfl
theorem eql44 (V : Int) (w : World) : (Op.equalIn 10000 44 (.agg (accC V)) (.agg (accC V))).run Tagg.prog w = .ok true w := by
  obtain ⟨i, hi⟩ := info42_some
  rw [show (10000 : Nat) = 9999 + 1 from rfl, run_equalIn_array w 9999 (accC V) (accC V) Tagg.underlying44 hi]
  have key : ∀ is : List Nat, (∀ i ∈ is, i < 68) → (Op.eqItems 9999 42 (Tagg.prog.cellsOf 42) (accC V) (accC V) is).run Tagg.prog w = .ok true w := by
    intro is
    induction is with
    | nil => intro _; rfl
    | cons j is ih =>
      intro h
      have hj := accC_get V j (h j (by simp))
      have hp : (part 42 (accC V) (j * Tagg.prog.cellsOf 42)).run Tagg.prog w = .ok (.int .u64 (dgZ V j)) w := run_part_plain w plain42 (by rw [cells42, Nat.mul_one]; exact hj)
      rw [Op.eqItems]
      simp only [Sem.run_bind, hp, Result.andThen_ok]
      rw [show (9999 : Nat) = 9998 + 1 from rfl, run_equalIn_int w 9998 42 .u64 .u64 _ _ Tagg.underlying42]
      simp only [Result.andThen_ok, beq_self_eq_true, Bool.not_true, Bool.false_eq_true, if_false]
      exact ih (fun k hk => h k (by simp [hk]))
  exact key _ (fun i hi => by simpa using hi)

theorem wpList_wanted {P : Program} {w : World} {ops : Array Oper} {rest : List Oper} {o : Oper} {a : Act} {Q : Exit → Act → World → Prop} (hw : Region.wanted o (yielded ops a.tmps) = true)
    (h : ∀ K : Act → World → Prop, (∀ a w, wpList P ops Q rest a w → K a w) → o.wp P a w K Q) : wpList P ops Q (o :: rest) a w :=
  wpList_step fun K hK => by rw [if_pos hw]; exact h K hK
theorem wpList_loadGL {w : World} {ops : Array Oper} {rest : List Oper} {a : Act} {Q : Exit → Act → World → Prop} {dst : Option Tmp} {x : Operand} {ty : TypeId} {pos : String} {after : Array Edge} {gd : Nat × Bool}
    (h : wpList Tagg.prog ops Q ({ dst := dst, op := .load 44 x, type := ty, pos := pos, after := after, guard := some gd } :: rest) a w) :
    wpList Tagg.prog ops Q ({ dst := dst, op := .load 44 x, type := ty, pos := pos, after := after, guard := some gd } :: rest) a w := h
theorem wpList_loadG {w : World} {ops : Array Oper} {rest : List Oper} {a : Act} {Q : Exit → Act → World → Prop} {dst : Option Tmp} {x : Operand} {ty : TypeId} {pos : String} {after : Array Edge} {gd : Nat × Bool} {g : Nat} {V : Int}
    (hw : Region.wanted { dst := dst, op := .load 44 x, type := ty, pos := pos, after := after, guard := some gd } (yielded ops a.tmps) = true)
    (hx : a.eval x = .pointer (some ⟨g, 0, none⟩)) (h : AccAt w g V) (k : wpList Tagg.prog ops Q rest (a.put dst (.agg (accC V))) w) :
    wpList Tagg.prog ops Q ({ dst := dst, op := .load 44 x, type := ty, pos := pos, after := after, guard := some gd } :: rest) a w :=
  wpList_wanted hw fun _ hK => wp_load_row 44 x rfl g hx 44 (accC V) (0, 0) _ h Tagg.underlying44 rfl (by rw [accC_size]; exact Tagg.info44) (hK _ _ k)

/-- The sum of the far marks so far. -/
def farB (c : Nat → Int) : Nat → Bool
  | 0 => false
  | n + 1 => farB c n || decide (70368744177664 ≤ c n) || decide (c n ≤ -70368744177664)
theorem farB_iff (c : Nat → Int) (n : Nat) : farB c n = true ↔ ∃ i, i < n ∧ ¬ (-70368744177664 < c i ∧ c i < 70368744177664) := by
  induction n with
  | zero => simp [farB]
  | succ n ih =>
    rw [farB, Bool.or_eq_true, Bool.or_eq_true, ih, decide_eq_true_iff, decide_eq_true_iff]
    constructor
    · rintro ((⟨i, h1, h2⟩ | h) | h)
      · exact ⟨i, by omega, h2⟩
      · exact ⟨n, by omega, by omega⟩
      · exact ⟨n, by omega, by omega⟩
    · rintro ⟨i, h1, h2⟩
      by_cases e : i = n
      · subst e
        have : 70368744177664 ≤ c i ∨ c i ≤ -70368744177664 := by omega
        rcases this with h | h
        · exact .inl (.inr h)
        · exact .inr h
      · exact .inl (.inl ⟨i, by omega, h2⟩)

set_option maxRecDepth 100000 in
set_option maxHeartbeats 2000000 in
theorem unbalanceRight_walk (a : Option Addr) (len cap : Nat) (c : Nat → Int) (w : World) (hl : len ≤ 140737488355328) (hlc : len ≤ cap) (hx : Sl w a len fun i => .int .i64 (c i))
    (hc : ∀ i, i < len → -9223372036854775808 ≤ c i ∧ c i ≤ 9223372036854775807) :
    Calls Tagg.prog 5 #[.slice a len cap] w fun e w' => e = .returned (.bool true) ∧ Below w.heap.size w w' := by
  go_enter Tagg.func5, Tagg.ntmps5
  go_upto_if 15 with fail
  go_cut [0] (fun s wx => ∃ m cap' : Nat, m ≤ 64 ∧ m ≤ len ∧ s = .slice a m cap' ∧ w = wx)
  case first =>
    by_cases h : 64 < len
    · obtain ⟨b, off, rfl, -⟩ := hx 0 (by omega)
      have h1 : (64 : Int) < len := by omega
      have h2 : (64 : Int) ≤ cap := by omega
      have h3 : 64 ≤ cap := by omega
      clear hx hc
      go_wp2
      go_meet
      exact ⟨64, 64, by omega, by omega, rfl, rfl⟩
    · have h1 : (len : Int) ≤ 64 := by omega
      clear hx hc
      go_wp2
      go_meet
      exact ⟨len, cap, by omega, by omega, rfl, rfl⟩
  case rest =>
    obtain ⟨m, cap', hm, hml, rfl, rfl⟩ := hcut
    have hx := hx.take hml
    have hc : Hid (∀ i, i < m → -9223372036854775808 ≤ c i ∧ c i ≤ 9223372036854775807) := fun i (h : i < m) => hc i (by omega)
    clear hl hlc hml
    go_wp2_with fail
    generalize eX : w.alloc _ = X
    have hbX : Below w.heap.size w X := by rw [← eX]; exact below_alloc44 w
    have bX : AccAt X w.heap.size 0 := by rw [← eX]; exact acc_new w
    clear eX
    generalize hp : w.heap.size = p at *
    go_loopw [4, 5] (fun f i wr => ∃ q : Nat, q ≤ m ∧ i = .int .i64 q ∧ f = .bool (farB c q) ∧ AccAt wr p (ubN c m q * 2 ^ 2148) ∧ Below p w wr) (fun _ i _ => m - (intOf i).toNat)
    case atStart => exact ⟨0, by omega, rfl, rfl, by show AccAt _ _ (0 * _); rw [Int.zero_mul]; exact bX, hbX⟩
    case round =>
      clear hbX bX
      obtain ⟨q, hq, rfl, rfl, hacc, hbr⟩ := hrel
      have hxr := hx.below (by rw [hp]; exact hbr)
      by_cases hqm : q < m
      · obtain ⟨b, off, rfl, cc0⟩ := hx q hqm
        have bl : b < p := by have := cell_lt cc0; dsimp only at this; omega
        have cc := below_cell hbr bl cc0
        obtain ⟨c1, c2⟩ := hc.out q hqm
        have hi1 : (q : Int) < (m : Int) := by omega
        go_upto_region 8 with fail
        go_cut [4] (fun f wx => f = .bool (farB c (q + 1)) ∧ wr = wx)
        case first =>
          clear hxr hacc hbr hx hc
          generalize hfb : farB c q = fb
          cases fb
          · by_cases h1 : 70368744177664 ≤ c q
            · go_wp2
              go_meet
              exact ⟨by simp [farB, h1], rfl⟩
            · by_cases h2 : c q ≤ -70368744177664
              · go_wp2
                go_meet
                exact ⟨by simp [farB, h2], rfl⟩
              · go_wp2
                go_meet
                exact ⟨by simp [farB, h1, h2, hfb], rfl⟩
          · go_wp2
            go_meet
            exact ⟨by simp [farB, hfb], rfl⟩
        case rest =>
          obtain ⟨rfl, rfl⟩ := hcut
          obtain ⟨n1, e1⟩ : ∃ n1, c q / 4294967296 = n1 := ⟨_, rfl⟩
          obtain ⟨n2, e2⟩ : ∃ n2, c q % 4294967296 = n2 := ⟨_, rfl⟩
          have n1b : -2147483648 ≤ n1 ∧ n1 < 2147483648 := by omega
          have n2b : 0 ≤ n2 ∧ n2 < 4294967296 := by omega
          have ecq : n1 * 4294967296 + n2 = c q := by omega
          have hf1 := floatOfInt_fi n1 (by omega)
          have hf2 := floatOfInt_fi n2 (by omega)
          have hO := fun w => accOf_any n1 w (by omega)
          have hS1 := fun t w ha => accShl t 32 (n1 * 2 ^ 2148) w (by omega) ha
          rw [shlZ_eq] at hS1
          have hF := fun t w ha => accAddFloat (decide (n2 < 0)) t n2.natAbs (n1 * 2 ^ 2148 * 2 ^ 32) w (by omega) ha
          rw [sv_fi] at hF
          have ev : n1 * 2 ^ 2148 * 2 ^ 32 + n2 * 2 ^ 2148 = c q * 2 ^ 2148 := by
            rw [← ecq, Int.mul_assoc, Int.mul_comm (2 ^ 2148) (2 ^ 32), ← Int.mul_assoc, ← Int.add_mul]; rfl
          rw [ev] at hF
          have hS2 := fun t w ha => accShl t (16 * q) (c q * 2 ^ 2148) w (by omega) ha
          rw [shlZ_eq, show ((16 * q : Nat) : Int) = 16 * (q : Int) by omega] at hS2
          have ev2 : ubN c m q * 2 ^ 2148 + c q * 2 ^ 2148 * 2 ^ (16 * q) = ubN c m (q + 1) * 2 ^ 2148 := by
            show _ = (ubN c m q + (if q < m then c q else 0) * P16 q) * 2 ^ 2148
            rw [if_pos hqm, Int.add_mul]
            have : P16 q = 2 ^ (16 * q) := by
              unfold P16; rw [Int.natCast_pow, Int.pow_mul]; rfl
            rw [this, Int.mul_assoc, Int.mul_assoc, Int.mul_comm (2 ^ (16 * q))]
          have hA := fun t w hne h1 h2 => accAdd p t (ubN c m q * 2 ^ 2148) (c q * 2 ^ 2148 * 2 ^ (16 * q)) w hne h1 h2
          rw [ev2] at hA
          have e3 : IntKind.u32.wrap (c q) = n2 := by rw [← e2]; rfl
          have h32 : ((32 : Nat) : Int) = 32 := rfl
          rw [h32] at hS1
          have hq16 : IntKind.u16.wrap (16 * (q : Int)) = 16 * (q : Int) := by rw [u16w]; omega
          have hHO : Hid _ := hO
          have hpl : p < wr.heap.size := hacc.lt
          clear hc hx hxr ev ev2 e2 ecq n1b n2b c1 c2 hO
          generalize ubN c m q * 2 ^ 2148 = W0 at *
          obtain ⟨W1, hW1⟩ : ∃ W1, ubN c m (q + 1) * 2 ^ 2148 = W1 := ⟨_, rfl⟩
          rw [hW1] at hA
          generalize c q * 2 ^ 2148 * 2 ^ (16 * q) = T4 at *
          generalize c q * 2 ^ 2148 = T3 at *
          generalize n1 * 2 ^ 2148 * 2 ^ 32 = T2 at *
          generalize n1 * 2 ^ 2148 = T1 at *
          unfold fi at hf1 hf2 hHO
          go_wp2_with fail
          with_reducible refine (hHO.out _).mono ?_
          rintro e w1 ⟨rfl, hb1⟩
          have hac1 := hacc.below hb1
          have hbr1 := hbr.trans (hb1.mono (Nat.le_of_lt hpl))
          have hp1 := hac1.lt
          clear hb1 hacc hbr hHO hpl
          have bZ := acc_new w1
          have hbZ := below_alloc44 w1
          have cc1 := below_cell hbr1 bl cc0
          generalize ht : w1.heap.size = t at *
          go_wp2_with (with_reducible refine wpList_storeAccL ?_; refine wpList_storeAcc rfl rfl bZ ?_; intro w2 s1 s2 s3)
          have hbZ2 := hbr1.trans (hbZ.mono (by omega))
          have hbr2 := hbZ2.grown s2 (by have := hbZ2.size; omega) (by intro k hk; cases hk; omega)
          have hac2 := (hac1.below (by rw [ht]; exact hbZ)).grown s2 (by omega)
          clear bZ hbZ hbZ2 s2 hac1 hbr1 ht s3
          with_reducible refine (hS1 t _ s1).mono ?_
          rintro e w3 ⟨rfl, s3, g3⟩
          have hbr3 := hbr2.grown g3 (by have := hbr2.size; omega) (by intro k hk; cases hk; omega)
          have hac3 := hac2.grown g3 (by omega)
          have cc3 := below_cell hbr3 bl cc0
          clear s1 hac2 hbr2 g3 cc cc1
          go_wp2_with fail
          with_reducible refine (hF t _ s3).mono ?_
          rintro e w4 ⟨rfl, s4, g4⟩
          have hbr4 := hbr3.grown g4 (by have := hbr3.size; omega) (by intro k hk; cases hk; omega)
          have hac4 := hac3.grown g4 (by omega)
          clear s3 hac3 hbr3 g4 cc3
          go_wp2_with fail
          with_reducible refine (hS2 t _ s4).mono ?_
          rintro e w5 ⟨rfl, s5, g5⟩
          have hbr5 := hbr4.grown g5 (by have := hbr4.size; omega) (by intro k hk; cases hk; omega)
          have hac5 := hac4.grown g5 (by omega)
          clear s4 hac4 hbr4 g5
          go_wp2_with fail
          with_reducible refine (hA t _ (by omega) hac5 s5).mono ?_
          rintro e w6 ⟨rfl, hac6, g6⟩
          have hbr6 := hbr5.grown g6 (by have := hbr5.size; omega) (by intro k hk; cases hk; omega)
          clear s5 hac5 hbr5 g6
          go_wp2
          go_roundw
          case rel => exact ⟨q + 1, by omega, by go_num, rfl, by rw [hW1]; exact hac6, hbr6⟩
          case measure => simp [intOf]; omega
      · have e : q = m := by omega
        subst e
        have hU := fun w hx => unbalance_any a q cap' c w (by omega) hx
        go_wp2_with fail
        with_reducible refine (hU _ hxr).mono ?_
        rintro e w1 ⟨hout, hb1⟩
        have hac1 := hacc.below hb1
        have hbr1 := hbr.trans (hb1.mono (Nat.le_of_lt hacc.lt))
        clear hxr hx hb1 hacc hbr hU hc
        have hfar := farB_iff c q
        rcases hout with ⟨hbad, rfl⟩ | ⟨hok, hT, n, a', rfl, hnil, hn, hTn, htop, hsl⟩
        · by_cases hf : farB c q = true
          · rw [hf]
            clear hfar hbad
            go_wp2
            go_ret
            exact ⟨rfl, by rw [hp]; exact hbr1⟩
          · have hok : ∀ i, i < q → -70368744177664 < c i ∧ c i < 70368744177664 := fun i hi => by
              by_cases h : -70368744177664 < c i ∧ c i < 70368744177664
              · exact h
              · exact absurd (hfar.2 ⟨i, hi, h⟩) hf
            have hT : ubN c q q * 2 ^ 2148 < 0 := by
              rcases hbad with h | h
              · exact absurd (hfar.2 h) hf
              · exact Int.mul_neg_of_neg_of_pos h (by decide +kernel)
            obtain ⟨r1, r2⟩ := ub_fits c q hm hok
            have hSg := fun w ha => accSign p (ubN c q q * 2 ^ 2148) w r1 r2 ha
            simp only [Bool.not_eq_true] at hf
            rw [hf]
            clear r1 r2 hfar hbad hok
            generalize ubN c q q * 2 ^ 2148 = W0 at *
            go_wp2_with fail
            with_reducible refine (hSg _ hac1).mono ?_
            rintro e w2 ⟨x, rfl, hx, rfl⟩
            have hx2 := hx.2 hT
            clear hx
            go_wp2
            go_ret
            exact ⟨rfl, by rw [hp]; exact hbr1⟩
        · have hf : farB c q = false := by
            rw [Bool.eq_false_iff]
            intro h
            obtain ⟨i, h1, h2⟩ := hfar.1 h
            exact h2 (hok i h1)
          obtain ⟨r1, r2⟩ := ub_fits c q hm hok
          have hSg := fun w ha => accSign p (ubN c q q * 2 ^ 2148) w r1 r2 ha
          have hT2 : ¬ ubN c q q * 2 ^ 2148 < 0 := by
            have := Int.mul_nonneg hT (show (0 : Int) ≤ 2 ^ 2148 by decide +kernel)
            omega
          obtain ⟨W0, hW0⟩ : ∃ W0, ubN c q q * 2 ^ 2148 = W0 := ⟨_, rfl⟩
          rw [hW0] at hSg hT2 hac1
          rw [hf]
          clear r1 r2 hfar hok hf
          go_wp2_with fail
          with_reducible refine (hSg _ hac1).mono ?_
          rintro e w2 ⟨x, rfl, hx, rfl⟩
          have hx3 : 0 ≤ x := by have := hx.1; omega
          clear hx hSg hT2
          go_wp2_with fail
          generalize eX : w2.alloc _ = Y
          have hbY : Below w2.heap.size w2 Y := by rw [← eX]; exact below_alloc44 w2
          have bY : AccAt Y w2.heap.size 0 := by rw [← eX]; exact acc_new w2
          clear eX
          have hpr := hac1.lt
          obtain ⟨T, hTT⟩ : ∃ T, ubN c q q = T := ⟨_, rfl⟩
          rw [hTT] at hTn hT htop hsl hW0
          generalize hr : w2.heap.size = r at *
          have hbr1' : Hid _ := hbr1
          clear hbr1
          go_loopw [10] (fun i wr => ∃ k : Nat, k ≤ n ∧ i = .int .i64 k ∧ AccAt wr r (sum16 (dg16 T) k * 2 ^ 2148) ∧ Below r w2 wr) (fun i _ => n - (intOf i).toNat)
          case atStart => exact ⟨0, by omega, rfl, by show AccAt _ _ (0 * _); rw [Int.zero_mul]; exact bY, hbY⟩
          case round =>
            clear hbY bY
            obtain ⟨k, hk, rfl, hacc, hbr⟩ := hrel
            have hslr := hsl.below (by rw [hr]; exact hbr)
            by_cases hkn : k < n
            · obtain ⟨b', off', rfl, cc0⟩ := hsl k hkn
              have bl : b' < r := by have := cell_lt cc0; dsimp only at this; omega
              have cc : wr.cell? ⟨b', off' + k, none⟩ = some (.int .u16 (dg16 T k)) := below_cell hbr bl cc0
              obtain ⟨d0, d1⟩ := dg16_bound T k
              have hi1 : (k : Int) < (n : Int) := by omega
              have ev2 : sum16 (dg16 T) k * 2 ^ 2148 + dg16 T k * 2 ^ 2148 * 2 ^ (16 * k) = sum16 (dg16 T) (k + 1) * 2 ^ 2148 := by
                show _ = (sum16 (dg16 T) k + dg16 T k * P16 k) * 2 ^ 2148
                rw [Int.add_mul]
                have : P16 k = 2 ^ (16 * k) := by
                  unfold P16; rw [Int.natCast_pow, Int.pow_mul]; rfl
                rw [this, Int.mul_assoc, Int.mul_assoc, Int.mul_comm (2 ^ (16 * k))]
              have hA := fun t w hne h1 h2 => accAdd r t (sum16 (dg16 T) k * 2 ^ 2148) (dg16 T k * 2 ^ 2148 * 2 ^ (16 * k)) w hne h1 h2
              rw [ev2] at hA
              have hS2 := fun t w ha => accShl t (16 * k) (dg16 T k * 2 ^ 2148) w (by omega) ha
              rw [shlZ_eq, show ((16 * k : Nat) : Int) = 16 * (k : Int) by omega] at hS2
              have hO : Hid _ := fun w => accOf_any (dg16 T k) w (by omega)
              have hf1 := floatOfInt_fi (dg16 T k) (by omega)
              have hq16 : IntKind.u16.wrap (16 * (k : Int)) = 16 * (k : Int) := by rw [u16w]; omega
              have hpl : r < wr.heap.size := hacc.lt
              obtain ⟨W1, hW1⟩ : ∃ W1, sum16 (dg16 T) (k + 1) * 2 ^ 2148 = W1 := ⟨_, rfl⟩
              rw [hW1] at hA
              clear ev2 hslr hsl htop hTn cc0
              generalize sum16 (dg16 T) k * 2 ^ 2148 = W2 at *
              generalize dg16 T k * 2 ^ 2148 * 2 ^ (16 * k) = T4 at *
              generalize dg16 T k * 2 ^ 2148 = T3 at *
              generalize dg16 T k = d at *
              unfold fi at hf1 hO
              go_wp2_with fail
              with_reducible refine (hO.out _).mono ?_
              rintro e w3 ⟨rfl, hb3⟩
              have hac3 := hacc.below hb3
              have hbr3 := hbr.trans (hb3.mono (Nat.le_of_lt hpl))
              have hp3 := hac3.lt
              clear hb3 hacc hbr hO hpl
              have bZ := acc_new w3
              have hbZ := below_alloc44 w3
              generalize ht : w3.heap.size = t at *
              go_wp2_with (with_reducible refine wpList_storeAccL ?_; refine wpList_storeAcc rfl rfl bZ ?_; intro w4 s1 s2 s3)
              have hbZ2 := hbr3.trans (hbZ.mono (by omega))
              have hbr4 := hbZ2.grown s2 (by have := hbZ2.size; omega) (by intro k hk; cases hk; omega)
              have hac4 := (hac3.below (by rw [ht]; exact hbZ)).grown s2 (by omega)
              clear bZ hbZ hbZ2 s2 hac3 hbr3 ht s3
              with_reducible refine (hS2 t _ s1).mono ?_
              rintro e w5 ⟨rfl, s5, g5⟩
              have hbr5 := hbr4.grown g5 (by have := hbr4.size; omega) (by intro k hk; cases hk; omega)
              have hac5 := hac4.grown g5 (by omega)
              clear s1 hac4 hbr4 g5
              go_wp2_with fail
              with_reducible refine (hA t _ (by omega) hac5 s5).mono ?_
              rintro e w6 ⟨rfl, hac6, g6⟩
              have hbr6 := hbr5.grown g6 (by have := hbr5.size; omega) (by intro k hk; cases hk; omega)
              clear s5 hac5 hbr5 g6
              go_wp2
              go_roundw
              case rel => exact ⟨k + 1, by omega, by go_num, by rw [hW1]; exact hac6, hbr6⟩
              case measure => simp [intOf]; omega
            · have e : k = n := by omega
              subst e
              have hs : AccAt wr r W0 := by rw [← hW0, ← sum16_all hT hTn]; exact hacc
              have hw : AccAt wr p W0 := hac1.below (by rw [hr]; exact hbr)
              have hbel : Below w.heap.size w wr := by rw [hp]; exact (show Below p w w2 from hbr1').trans (hbr.mono (by omega))
              by_cases hk0 : k = 0
              · subst hk0
                have ea := hnil.2 rfl
                subst ea
                clear hacc hbr hslr hsl htop hnil hac1 hW0 hTn hT
                have hg44 := guard44
                have he44 := eql44 W0
                go_wp2_with (with_reducible refine wpList_loadGL ?_; first | refine wpList_loadG rfl rfl hs ?_ | refine wpList_loadG rfl rfl hw ?_)
                go_ret
                exact ⟨rfl, hbel⟩
              · obtain ⟨j, rfl⟩ : ∃ j, k = j + 1 := ⟨k - 1, by omega⟩
                obtain ⟨b', off', rfl, cc0⟩ := hslr j (by omega)
                have ht : dg16 T j ≠ 0 := htop (by omega)
                have cc : wr.cell? ⟨b', off' + j, none⟩ = some (.int .u16 (dg16 T j)) := cc0
                have htb : (dg16 T j != 0) = true := by simpa using ht
                have ej : ((j + 1 : Nat) : Int) - 1 = (j : Int) := by omega
                have ej2 : (j : Int) + 1 - 1 = (j : Int) := by omega
                have hg44 := guard44
                have he44 := eql44 W0
                clear hacc hbr hslr hsl htop hnil hac1 hW0 hTn hT cc0
                go_wp2_with (with_reducible refine wpList_loadGL ?_; first | refine wpList_loadG rfl rfl hs ?_ | refine wpList_loadG rfl rfl hw ?_)
                go_ret
                exact ⟨rfl, hbel⟩
end Go.Proofs.Ygctag
