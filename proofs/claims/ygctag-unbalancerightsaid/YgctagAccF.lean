import Derived.Test.YgctagAccN
import Derived.Test.YgctagSplit
import Derived.Test.YgctagIntDot
import Derived.Laws.Rows
import Derived.Laws.Tables
namespace Go.Proofs.Ygctag
open Go.RowKit

theorem accPlace (s : Bool) (a lo i : Nat) (V : Int) (w : World) (hlo : lo < 18446744073709551616) (hi : i < 4160) (ha : AccAt w a V) :
    Calls Tagg.prog 68 #[.pointer (some ⟨a, 0, none⟩), .bool s, .int .u64 0, .int .u64 lo, .int .i64 i] w fun e w' => e = .returned (.tuple #[]) ∧ AccAt w' a (V + sv s lo * 2 ^ i) ∧ w.grownBy w' (some a) := by
  cases s
  · exact accPlace_pos a lo i V w hlo hi ha
  · have := accPlace_neg a lo i V w hlo hi ha
    have e : V + sv true lo * 2 ^ i = V - (lo : Int) * 2 ^ i := by unfold sv; rw [if_pos rfl, Int.neg_mul]; omega
    rw [e]
    exact this

set_option maxRecDepth 100000 in
set_option maxHeartbeats 1000000 in
theorem accAddFloat (s : Bool) (a V : Nat) (U : Int) (w : World) (h53 : V < 2 ^ 53) (ha : AccAt w a U) :
    Calls Tagg.prog 28 #[.pointer (some ⟨a, 0, none⟩), .float .f64 (fz s V)] w fun e w' => e = .returned (.bool true) ∧ AccAt w' a (U + sv s V * 2 ^ 2148) ∧ w.grownBy w' (some a) := by
  by_cases hV : V = 0
  · subst hV
    have hP := fun w ha => accPlace s a 0 2148 U w (by decide) (by decide) ha
    rw [show ((0 : Nat) : Int) = 0 from rfl, show ((2148 : Nat) : Int) = 2148 from rfl] at hP
    have e0 : sv s 0 = 0 := by cases s <;> rfl
    rw [e0, Int.zero_mul] at hP
    rw [e0, Int.zero_mul]
    go_enter Tagg.func28, Tagg.ntmps28
    go_wp2_with fail
    with_reducible refine (split_zero s _).mono ?_
    rintro e w' ⟨rfl, rfl⟩
    go_wp2_with fail
    with_reducible refine (hP _ ha).mono ?_
    rintro e w1 ⟨rfl, h1, h2⟩
    go_wp2
    go_ret
    exact ⟨rfl, h1, h2⟩
  · have hl := log2_le_52 hV h53
    have hb := sig_bounds hV h53
    have hS := split_fz s V hV h53
    have hP := fun w ha => accPlace s a (V * 2 ^ (52 - V.log2)) (V.log2 + 2096) U w (Nat.lt_of_lt_of_le hb.2 (by decide)) (by omega) ha
    have ev : sv s (V * 2 ^ (52 - V.log2)) * 2 ^ (V.log2 + 2096) = sv s V * 2 ^ 2148 := by
      have e1 : sv s (V * 2 ^ (52 - V.log2)) = sv s V * 2 ^ (52 - V.log2) := by
        unfold sv
        rw [Int.natCast_mul, Int.natCast_pow]
        cases s
        · rfl
        · rw [if_pos rfl, if_pos rfl, Int.neg_mul]; rfl
      rw [e1, Int.mul_assoc, ← Int.pow_add, show 52 - V.log2 + (V.log2 + 2096) = 2148 by omega]
    rw [ev, show ((V.log2 + 2096 : Nat) : Int) = (V.log2 : Int) - 52 + 2148 by omega] at hP
    clear ev
    obtain ⟨M, hM⟩ : ∃ M, V * 2 ^ (52 - V.log2) = M := ⟨_, rfl⟩
    rw [hM] at hP hb hS
    clear hM
    generalize V.log2 = L at *
    have hw : IntKind.i64.wrap ((L : Int) - 52) = (L : Int) - 52 := IntWalk.i64_in _ ⟨by omega, by omega⟩
    have hw2 : IntKind.i64.wrap ((L : Int) - 52 + 2148) = (L : Int) - 52 + 2148 := IntWalk.i64_in _ ⟨by omega, by omega⟩
    go_enter Tagg.func28, Tagg.ntmps28
    go_wp2_with fail
    with_reducible refine (hS _).mono ?_
    rintro e w' ⟨rfl, rfl⟩
    go_wp2_with fail
    with_reducible refine (hP _ ha).mono ?_
    rintro e w1 ⟨rfl, h1, h2⟩
    go_wp2
    go_ret
    exact ⟨rfl, h1, h2⟩

theorem Tagg.info44 : (Tagg.prog.info? 44).map (·.size) = some 68 := by kernel_rfl

theorem acc_load {w : World} {b : Nat} {V : Int} (h : AccAt w b V) : (Instr.loadAt 44 (.pointer (some ⟨b, 0, none⟩))).run Tagg.prog w = .ok (.agg (accC V)) w := by
  simp only [Instr.loadAt, Instr.sureAddr, Sem.run_bind, Sem.run_pure, Result.andThen]
  exact run_loadVar_row w b 44 44 (accC V) (0, 0) _ h Tagg.underlying44 rfl (by rw [accC_size]; exact Tagg.info44)
theorem accC_one (V : Int) : (accC V).all (·.oneCell') = true := by
  rw [Array.all_eq_true_iff_forall_mem]
  intro v hv
  simp only [accC, List.mem_toArray, List.mem_map] at hv
  obtain ⟨i, _, rfl⟩ := hv
  rfl
theorem acc_store {w : World} {b : Nat} {U V : Int} (h : AccAt w b U) : (Instr.storeAt 44 (.pointer (some ⟨b, 0, none⟩)) (.agg (accC V))).run Tagg.prog w = .ok () (w.setRow b (accC V)) := by
  simp only [Instr.storeAt, Instr.sureAddr, Sem.run_bind, Sem.run_pure, Result.andThen]
  exact run_storeVar_row w b 44 44 (accC U) (accC V) h (by rw [accC_size]; exact Tagg.info44) (by rw [accC_size, accC_size]) (accC_one V)

theorem wpList_loadAccL {w : World} {ops : Array Oper} {rest : List Oper} {a : Act} {Q : Exit → Act → World → Prop} {dst : Option Tmp} {x : Operand} {ty : TypeId} {pos : String} {after : Array Edge}
    (h : wpList Tagg.prog ops Q ({ dst := dst, op := .load 44 x, type := ty, pos := pos, after := after, guard := none } :: rest) a w) :
    wpList Tagg.prog ops Q ({ dst := dst, op := .load 44 x, type := ty, pos := pos, after := after, guard := none } :: rest) a w := h
theorem wpList_storeAccL {w : World} {ops : Array Oper} {rest : List Oper} {a : Act} {Q : Exit → Act → World → Prop} {dst : Option Tmp} {x y : Operand} {ty : TypeId} {pos : String} {after : Array Edge}
    (h : wpList Tagg.prog ops Q ({ dst := dst, op := .store 44 x y, type := ty, pos := pos, after := after, guard := none } :: rest) a w) :
    wpList Tagg.prog ops Q ({ dst := dst, op := .store 44 x y, type := ty, pos := pos, after := after, guard := none } :: rest) a w := h
theorem wpList_loadAcc {w : World} {ops : Array Oper} {rest : List Oper} {a : Act} {Q : Exit → Act → World → Prop} {dst : Option Tmp} {x : Operand} {ty : TypeId} {pos : String} {after : Array Edge} {g : Nat} {V : Int}
    (hx : a.eval x = .pointer (some ⟨g, 0, none⟩)) (h : AccAt w g V) (k : wpList Tagg.prog ops Q rest (a.put dst (.agg (accC V))) w) :
    wpList Tagg.prog ops Q ({ dst := dst, op := .load 44 x, type := ty, pos := pos, after := after, guard := none } :: rest) a w :=
  wpList_load_row rfl 44 x rfl g hx 44 (accC V) (0, 0) _ h Tagg.underlying44 rfl (by rw [accC_size]; exact Tagg.info44) k
theorem AccAt.set {w : World} {g : Nat} {U : Int} (V : Int) (h : AccAt w g U) : AccAt (w.setRow g (accC V)) g V ∧ w.grownBy (w.setRow g (accC V)) (some g) ∧ (w.setRow g (accC V)).heap.size = w.heap.size :=
  ⟨setRow_heap w g _ _ 44 _ h, ⟨rfl, rfl, rfl, by simp [World.setRow], fun k hk hne => setRow_other w g k _ (by intro e; subst e; exact hne rfl)⟩, by simp [World.setRow]⟩
theorem wpList_storeAcc {w : World} {ops : Array Oper} {rest : List Oper} {a : Act} {Q : Exit → Act → World → Prop} {dst : Option Tmp} {x y : Operand} {ty : TypeId} {pos : String} {after : Array Edge} {g : Nat} {U V : Int}
    (hx : a.eval x = .pointer (some ⟨g, 0, none⟩)) (hy : a.eval y = .agg (accC V)) (h : AccAt w g U)
    (k : ∀ w', AccAt w' g V → w.grownBy w' (some g) → w'.heap.size = w.heap.size → wpList Tagg.prog ops Q rest (a.put dst undef) w') :
    wpList Tagg.prog ops Q ({ dst := dst, op := .store 44 x y, type := ty, pos := pos, after := after, guard := none } :: rest) a w :=
  wpList_store_row rfl 44 x y rfl g (accC V) hx hy 44 (accC U) h (by rw [accC_size]; exact Tagg.info44) (by rw [accC_size, accC_size]) (accC_one V)
    (by obtain ⟨h1, h2, h3⟩ := h.set V; exact k _ h1 h2 h3)

set_option maxRecDepth 100000 in
set_option maxHeartbeats 1000000 in
/-- accOf: the accumulator by value. -/
theorem accOf_any (n : Int) (w : World) (h53 : n.natAbs < 2 ^ 53) :
    Calls Tagg.prog 26 #[.float .f64 (fi n)] w fun e w' => e = .returned (.agg (accC (n * 2 ^ 2148))) ∧ Below w.heap.size w w' := by
  have hA := fun U w a ha => accAddFloat (decide (n < 0)) a n.natAbs U w h53 ha
  rw [sv_fi] at hA
  unfold fi
  go_enter Tagg.func26, Tagg.ntmps26
  go_wp2_with fail
  generalize eX : (w.alloc _).alloc _ = X
  have b0 : AccAt X w.heap.size 0 := by
    rw [← eX]; unfold AccAt; rw [acc_zero]; exact (Deep.blk_alloc_lt _ _ _ (by simp)).trans (Deep.blk_alloc_new w _)
  have b1 : AccAt X (w.heap.size + 1) 0 := by
    rw [← eX]; unfold AccAt; rw [acc_zero]
    have := Deep.blk_alloc_new (w.alloc (.cells Tagg.zeroCells44 44)) (.cells Tagg.zeroCells44 44)
    simpa using this
  have hbX : Below w.heap.size w X := by rw [← eX]; exact ((Below.refl _ _).alloc (Nat.le_refl _) _).alloc (by simp) _
  clear eX
  with_reducible refine (hA 0 _ _ b1).mono ?_
  rintro e w1 ⟨rfl, h1, h2⟩
  rw [Int.zero_add] at h1
  have b2 := b0.grown h2 (by omega)
  have bel := hbX.grown h2 (by simpa using hbX.size) (by intro k hk; cases hk; omega)
  clear b0 b1 hbX h2 hA h53
  go_wp2_with (first | (with_reducible refine wpList_loadAccL ?_; refine wpList_loadAcc rfl h1 ?_) | (with_reducible refine wpList_storeAccL ?_; refine wpList_storeAcc rfl rfl b2 ?_; intro w2 s1 s2 s3))
  have bel2 := bel.grown s2 bel.size (by intro k hk; cases hk; exact Nat.le_refl _)
  exact bodyPost_ret (results_cell_row Tagg.results26 _ _ w.heap.size 44 (accC (n * 2 ^ 2148)) (0, 0) _ rfl s1 Tagg.underlying44 rfl (by rw [accC_size]; exact Tagg.info44)) rfl ⟨rfl, bel2⟩
end Go.Proofs.Ygctag
