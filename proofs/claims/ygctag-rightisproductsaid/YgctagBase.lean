import Derived.Test.YgctagProg
import Derived.WalkKit
import Derived.WalkSpells
import Derived.WalkLawsBesides
import Derived.Deep.QuietTactic
import Derived.BigQuiet
import Derived.Deep.OwnRows
import Derived.Laws.CopyOwn
import Derived.Laws.AppendOwnNone
namespace Go.Proofs.Ygctag
open Go.RowKit

/-- A slice that can be read: its first n cells hold f 0, f 1, .. -/
def Sl (w : World) (a : Option Addr) (n : Nat) (f : Nat → Value) : Prop :=
  ∀ i, i < n → ∃ b off, a = some ⟨b, off, none⟩ ∧ w.cell? ⟨b, off + i, none⟩ = some (f i)

theorem addr_add (b o i : Nat) : (⟨b, o, none⟩ : Addr).add i = ⟨b, o + i, none⟩ := by unfold Addr.add; split <;> simp_all

theorem cell_lt {w : World} {a : Addr} {v : Value} (h : w.cell? a = some v) : a.block < w.heap.size := by
  unfold World.cell? at h
  rcases Nat.lt_or_ge a.block w.heap.size with hl | hl
  · exact hl
  · simp [Array.getElem?_eq_none hl] at h

theorem Sl.take {w : World} {a : Option Addr} {n : Nat} {f : Nat → Value} (h : Sl w a n f) {m : Nat} (hm : m ≤ n) : Sl w a m f :=
  fun i hi => h i (Nat.lt_of_lt_of_le hi hm)

theorem Sl.below {w w' : World} {a : Option Addr} {n : Nat} {f : Nat → Value} (h : Sl w a n f) (hb : Below w.heap.size w w') : Sl w' a n f := by
  intro i hi
  obtain ⟨b, off, ha, hc⟩ := h i hi
  exact ⟨b, off, ha, (hb.cell (cell_lt hc)).trans hc⟩

theorem Sl.congr {w : World} {a : Option Addr} {n : Nat} {f g : Nat → Value} (h : Sl w a n f) (e : ∀ i, i < n → f i = g i) : Sl w a n g := by
  intro i hi
  obtain ⟨b, off, ha, hc⟩ := h i hi
  exact ⟨b, off, ha, by rw [hc, e i hi]⟩

theorem Sl.zero (w : World) (a : Option Addr) (f : Nat → Value) : Sl w a 0 f := fun i hi => absurd hi (Nat.not_lt_zero i)

theorem Sl.of_row {w : World} {b : Nat} {t : TypeId} {n : Nat} {f : Nat → Value} (h : w.rowIs b t n f) : Sl w (some ⟨b, 0, none⟩) n f :=
  fun i hi => ⟨b, 0, rfl, by simpa using h.cell hi⟩

/-- Below, as two rules for the walk. -/
theorem bcell {W w1 : World} (hb : Below W.heap.size W w1) : (∀ b o, b < W.heap.size → w1.cell? ⟨b, o, none⟩ = W.cell? ⟨b, o, none⟩) ∧ (∀ b o, b < W.heap.size → w1.frozen? ⟨b, o, none⟩ = W.frozen? ⟨b, o, none⟩) :=
  ⟨fun b o h => hb.cell (p := ⟨b, o, none⟩) h, fun b o h => hb.frozen (p := ⟨b, o, none⟩) h⟩

theorem made_at {w : World} {g : Nat} (hg : g = w.heap.size) (z : Value) (n : Nat) (t : TypeId) : (w.alloc (.cells (madeCells #[z] n) t)).rowIs g t n (fun _ => z) := by
  subst hg; exact World.rowIs_made w z n t

theorem below_draws {B : Nat} {w w' : World} (h : Below B w w') (n : Nat) : Below B w (w'.drewN n) := ⟨h.os, h.tape, h.output, h.size, h.block⟩
theorem row_draws {w : World} {b : Nat} {t : TypeId} {n : Nat} {f : Nat → Value} (h : w.rowIs b t n f) (m : Nat) : (w.drewN m).rowIs b t n f := h

/-- A function turned at one place. -/
def upd {α : Type} (f : Nat → α) (i : Nat) (v : α) : Nat → α := fun j => if j = i then v else f j
theorem upd_same {α : Type} (f : Nat → α) (i : Nat) (v : α) : upd f i v i = v := by simp [upd]
theorem upd_ne {α : Type} (f : Nat → α) {i j : Nat} (v : α) (h : j ≠ i) : upd f i v j = f j := by simp [upd, h]

theorem row_set {α : Type} {F : α → Value} {f : Nat → α} {w : World} {b : Nat} {t : TypeId} {n : Nat} (h : w.rowIs b t n (fun j => F (f j))) (i : Nat) (v : α) : (w.setCell ⟨b, i, none⟩ (F v)).rowIs b t n (fun j => F (upd f i v j)) :=
  (h.set i (F v)).congr (fun j _ => by unfold upd; split <;> rfl)

theorem below_of_drew {w w' : World} (h : Below w.drew.heap.size w.drew w') : Below w.heap.size w w' := ⟨h.os, h.tape, h.output, h.size, h.block⟩

theorem below_of_grown {w w' : World} (h : w.grownBy w' none) : Below w.heap.size w w' :=
  ⟨h.os, h.tape, h.output, h.size, fun k hk => h.block k hk (by simp)⟩

/-- A copy of m elements in a new block (nil for none). -/
def CopyOf (B : Nat) (w' : World) (e : TypeId) (v' : Value) (m : Nat) (f : Nat → Value) : Prop :=
  m = 0 ∧ v' = .slice none 0 0 ∨ 0 < m ∧ ∃ g cap cur, v' = .slice (some ⟨g, 0, none⟩) m cap ∧ B ≤ g ∧ m ≤ cap ∧ cap ≤ maxLen ∧ w'.heap[g]? = some (.cells cur e (0, 0)) ∧ cur.size = cap ∧ ∀ i, i < m → cur[i]? = some (f i)

theorem Sl.of_cur {w : World} {g : Nat} {cur : Array Value} {e : TypeId} {m : Nat} {f : Nat → Value} (hg : w.heap[g]? = some (.cells cur e (0, 0))) (hc : ∀ i, i < m → cur[i]? = some (f i)) : Sl w (some ⟨g, 0, none⟩) m f :=
  fun i hi => ⟨g, 0, rfl, by simp [World.cell?, hg, hc i hi]⟩

/-- 'append([]T(nil), xs...)', T of one cell. -/
theorem wpList_append_nil {P : Program} {w : World} {ops : Array Oper} {rest : List Oper} {o : Oper} {a : Act} {Q : Exit → Act → World → Prop} (hgd : o.guard = none) (s x : Operand) (t : TypeId)
    (ho : o.op = .call { callee := .builtin .append, args := #[s, x], argTypes := #[t, t] })
    (e : TypeId) (z : Value) (bytes : Nat) (ht : P.underlying t = some (.slice e)) (hinfo : (P.info? e).map (fun i => (i.zero, i.size, i.bytes)) = some (some z, 1, bytes)) (hz1 : z.cells = #[z])
    (hs : a.eval s = .slice none 0 0) (ad : Option Addr) (m c : Nat) (f : Nat → Value) (hx : a.eval x = .slice ad m c) (hnil : ad = none → c = 0) (hsl : Sl w ad m f) (h1 : ∀ i, i < m → (f i).oneCell' = true)
    (hm : m * bytes ≤ 140737488355328) (h63 : m ≤ maxLen)
    (h : ∀ v' w', CopyOf w.heap.size w' e v' m f → Below w.heap.size w w' →
      wpList P ops Q rest (a.put o.dst v') w') : wpList P ops Q (o :: rest) a w := by
  obtain ⟨i, hi, hzz⟩ := Option.map_eq_some_iff.1 hinfo
  simp only [Prod.mk.injEq] at hzz
  obtain ⟨hz, hsz, hby⟩ := hzz
  rcases ad with _ | ad
  · have hc := hnil rfl
    have hm0 : m = 0 := by
      rcases Nat.eq_zero_or_pos m with h0 | h0
      · exact h0
      · obtain ⟨_, _, h, _⟩ := hsl 0 h0
        cases h
    subst hm0; subst hc
    refine wpList_append_own_none hgd s x t ho w.heap.size e i 1 ht hi (.slice none 0 0) 0 [] hs ⟨rfl, .inl ⟨rfl, rfl⟩⟩ hx ?_
    exact h _ _ (.inl ⟨rfl, rfl⟩) (Below.refl _ _)
  · have hget : ∀ j u, ((List.range m).map f)[j]? = some u → j < m ∧ u = f j := by
      intro j u hu
      rw [List.getElem?_map] at hu
      rcases Nat.lt_or_ge j m with hj | hj
      · simp [hj] at hu; exact ⟨hj, hu.symm⟩
      · simp [hj] at hu
    refine wpList_append_own w hgd s x t ho w.heap.size e i z 1 bytes ht hi hz hsz hby (by rw [hz1]; rfl) (by omega) (.slice none 0 0) 0 [] hs ⟨rfl, .inl ⟨rfl, rfl⟩⟩ ad m c ((List.range m).map f) hx (by simp) ?_ ?_ (by simpa using h63) (by simpa using hm) (Nat.le_refl _) ?_
    · intro j u hu
      obtain ⟨hj, rfl⟩ := hget j u hu
      obtain ⟨b, off, hb, hc⟩ := hsl j hj
      cases hb
      rw [addr_add]
      exact hc
    · intro u hu
      simp only [List.mem_map, List.mem_range] at hu
      obtain ⟨j, hj, rfl⟩ := hu
      exact h1 j hj
    · intro v' w' hown hgrow hiff
      refine h v' w' ?_ (below_of_grown hgrow)
      obtain ⟨hlen, hv⟩ := hown
      rcases hv with ⟨hv, h0⟩ | ⟨g, cap, cur, hv, hg, hh, hle, hcap, hsize, htake⟩
      · exact .inl ⟨by omega, hv⟩
      · by_cases h0 : m = 0
        · exact .inl ⟨h0, hiff.2 ⟨rfl, h0⟩⟩
        · refine .inr ⟨by omega, g, cap, cur, by simpa using hv, hg, by omega, hcap, hh, by simpa using hsize, fun j hj => ?_⟩
          have : (cur.toList.take ((0 + m) * 1))[j]? = some (f j) := by rw [htake]; simp [hj]
          rw [List.getElem?_take] at this
          simpa [hj] using this

/-- 'copy(dst, src)' into the head of a row of the call's own, src as long. -/
theorem wpList_copy_all {P : Program} {w : World} {ops : Array Oper} {rest : List Oper} {o : Oper} {a : Act} {Q : Exit → Act → World → Prop} (hgd : o.guard = none) (d s : Operand) (dT sT : TypeId)
    (ho : o.op = .call { callee := .builtin .copy, args := #[d, s], argTypes := #[dT, sT] }) (elem : TypeId) (hu : P.underlying dT = some (.slice elem)) (hsz : (P.info? elem).map (·.size) = some 1)
    (g n dCap sCap off : Nat) (ad : Addr) (hd : a.eval d = .slice (some ⟨g, off, none⟩) n dCap) (hs : a.eval s = .slice (some ad) n sCap) (t : TypeId) (N : Nat) (f0 f : Nat → Value)
    (hrow : w.rowIs g t N f0) (hfit : off + n ≤ N) (hsl : Sl w (some ad) n f) (h1 : ∀ i, i < n → (f i).oneCell' = true)
    (h : ∀ w', w'.rowIs g t N (fun i => if off ≤ i ∧ i < off + n then f (i - off) else f0 i) → Below g w w' → w'.heap.size = w.heap.size → (∀ k, k ≠ g → w'.heap[k]? = w.heap[k]?) → wpList P ops Q rest (a.put o.dst (goInt n)) w') : wpList P ops Q (o :: rest) a w := by
  obtain ⟨cur, hg, hcs, hcur⟩ := hrow
  refine wpList_copy_own hgd d s dT sT ho elem hu hsz g off n dCap ad n sCap hd hs cur t hg ((List.range n).map f) (by simp) ?_ (by simp; omega) ?_ ?_
  · intro j v hv
    rw [List.getElem?_map] at hv
    rcases Nat.lt_or_ge j n with hj | hj
    · simp [hj] at hv
      obtain ⟨b, off, hb, hc⟩ := hsl j hj
      cases hb
      subst hv
      rw [addr_add]
      exact hc
    · simp [hj] at hv
  · intro v hv
    simp only [List.mem_map, List.mem_range] at hv
    obtain ⟨j, hj, rfl⟩ := hv
    exact h1 j hj
  · have hlen : ((List.range n).map f).length = n := by simp
    rw [hlen]
    refine h _ ⟨_, setRow_heap w g _ _ t _ hg, ?_, ?_⟩ (below_setRow (Below.refl _ _) (Nat.le_refl _) _) (by simp [World.setRow]) (fun k hk => setRow_other w g k _ hk)
    · simp; omega
    · intro i hi
      rw [List.getElem?_toArray]
      show _ = some (if off ≤ i ∧ i < off + n then f (i - off) else f0 i)
      by_cases h1 : i < off
      · rw [List.getElem?_append_left (by simp; omega), List.getElem?_take, if_pos h1, if_neg (by omega)]
        simpa using hcur i hi
      · rw [List.getElem?_append_right (by simp; omega)]
        have e1 : i - (List.take off cur.toList).length = i - off := by simp; omega
        rw [e1]
        by_cases h2 : i < off + n
        · rw [List.getElem?_append_left (by simp; omega), if_pos ⟨by omega, h2⟩]
          simp [show i - off < n by omega]
        · rw [List.getElem?_append_right (by simp; omega), if_neg (by omega), hlen, List.getElem?_drop]
          rw [show off + n + (i - off - n) = i by omega]
          simpa using hcur i hi

/-- The same, the operation written out: 'with_reducible refine wpList_copyL ?_ ..' fails at once at any other goal. -/
theorem wpList_copyL {P : Program} {w : World} {ops : Array Oper} {rest : List Oper} {a : Act} {Q : Exit → Act → World → Prop} {dst : Option Tmp} {d s : Operand} {dT sT ty : TypeId} {pos : String} {after : Array Edge}
    (h : wpList P ops Q ({ dst := dst, op := .call { callee := .builtin .copy, args := #[d, s], argTypes := #[dT, sT] }, type := ty, pos := pos, after := after, guard := none } :: rest) a w) :
    wpList P ops Q ({ dst := dst, op := .call { callee := .builtin .copy, args := #[d, s], argTypes := #[dT, sT] }, type := ty, pos := pos, after := after, guard := none } :: rest) a w := h

theorem eql30 (w : World) (a : Option Addr) (n c : Nat) : (binOp .eql 30 (.slice a n c) (.slice none 0 0)).run Tagg.prog w = .ok (.bool a.isNone) w := Lib.run_eql_slice_nil w 30 5 a n c 0 0 Tagg.underlying30
theorem neq30 (w : World) (a : Option Addr) (n c : Nat) : (binOp .neq 30 (.slice a n c) (.slice none 0 0)).run Tagg.prog w = .ok (.bool (!a.isNone)) w := run_neq_slice_nil_any w 30 5 a n c 0 0 Tagg.underlying30

theorem Tagg.info5 : (Tagg.prog.info? 5).map (fun i => (i.zero, i.size, i.bytes)) = some (some (.int .u8 0), 1, 1) := by kernel_rfl
end Go.Proofs.Ygctag
