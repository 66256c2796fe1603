import Derived.Test.YgctagBase
namespace Go.Proofs.Ygctag
open Go.RowKit

/-! ### Floats up to which NaN -/

theorem dbl_inf : Ieee.double.infRung = 9218868437227405312 := rfl
theorem dbl_sign : Ieee.double.signWeight = 9223372036854775808 := rfl

def nanB (b : Nat) : Bool := (Ieee.double.read b).isNaN
theorem nanB_iff (b : Nat) : nanB b = true ↔ 9218868437227405312 < b % 9223372036854775808 := by
  have hb : Ieee.double.binade = 4503599627370496 := rfl
  unfold nanB Ieee.Format.read
  dsimp only
  by_cases h1 : b % Ieee.double.signWeight < Ieee.double.binade
  · rw [if_pos h1]; rw [dbl_sign, hb] at h1; simp [Ieee.Datum.isNaN]; omega
  · rw [if_neg h1]
    by_cases h2 : b % Ieee.double.signWeight < Ieee.double.infRung
    · rw [if_pos h2]; rw [dbl_sign, dbl_inf] at h2; simp [Ieee.Datum.isNaN]; omega
    · rw [if_neg h2]
      by_cases h3 : b % Ieee.double.signWeight = Ieee.double.infRung
      · rw [if_pos h3]; rw [dbl_sign, dbl_inf] at h3; simp [Ieee.Datum.isNaN]; omega
      · rw [if_neg h3]; rw [dbl_sign, dbl_inf] at h3 h2; simp [Ieee.Datum.isNaN]; omega

/-- A float's bits; none: a NaN, whichever. -/
def absF (b : Nat) : Option Nat := if nanB b then none else some b

theorem word_mod (neg : Bool) (r : Nat) (h : r < 9223372036854775808) : Ieee.double.word neg r % 9223372036854775808 = r := by
  unfold Ieee.Format.word
  rw [dbl_sign]
  cases neg
  · simp; omega
  · simp; omega

/-- What is written of a number or an infinity is no NaN. -/
theorem nanB_write (d : Ieee.Datum) (h : d.isNaN = false) : nanB (Ieee.double.write d) = false := by
  have key : ∀ neg r, r ≤ Ieee.double.infRung → nanB (Ieee.double.word neg r) = false := by
    intro neg r hr
    rw [dbl_inf] at hr
    cases hn : nanB (Ieee.double.word neg r)
    · rfl
    · rw [nanB_iff, word_mod neg r (by omega)] at hn
      omega
  cases d with
  | number s m e =>
    show nanB (Ieee.double.nearest s m e) = false
    unfold Ieee.Format.nearest
    dsimp only
    split
    · exact key _ _ (Nat.zero_le _)
    · exact key _ _ (Nat.min_le_right _ _)
  | infinity s => exact key _ _ (Nat.le_refl _)
  | nan s t => simp [Ieee.Datum.isNaN] at h

/-- The operation on floats up to which NaN. -/
def fop (op : BinOp) (x y : Option Nat) : Option Nat :=
  match x, y with
  | some a, some b => floatBits op .f64 a b
  | _, _ => none

/-- The bits that the model gives, in a world. -/
def fR (op : BinOp) (w : World) (x y : Nat) : Nat :=
  match floatBits op .f64 x y with
  | some r => r
  | none => (Question.nanBits .f64 x y).cut (w.tape w.drawn (.nanBits .f64 x y))
def fN (op : BinOp) (x y : Nat) : Nat := match floatBits op .f64 x y with | some _ => 0 | none => 1

def isArith (op : BinOp) : Bool := match op with | .add | .sub | .mul | .quo => true | _ => false

theorem run_fop {P : Program} (op : BinOp) (t : TypeId) (ho : isArith op = true) (x y : Nat) (w : World) :
    (binOp op t (.float .f64 x) (.float .f64 y)).run P w = .ok (.float .f64 (fR op w x y)) (w.drewN (fN op x y)) := by
  cases h : floatBits op .f64 x y with
  | some r =>
    rw [run_float_arith w op t .f64 x y r h]
    simp [fR, fN, h, World.drewN]
  | none =>
    have e1 : fR op w x y = (Question.nanBits .f64 x y).cut (w.tape w.drawn (.nanBits .f64 x y)) := by simp [fR, h]
    have e2 : fN op x y = 1 := by simp [fN, h]
    rw [e1, e2]
    unfold floatBits at h
    cases op <;> simp only [isArith, Bool.false_eq_true] at ho <;> simp only at h
    all_goals
      simp [binOp, Op.floatArith, h, choose, Sem.run, Question.forced, World.drewN, bind, Sem.bind, pure]

theorem nan_cut (x y t : Nat) : nanB ((Question.nanBits .f64 x y).cut t) = true := by
  rw [nanB_iff]
  simp only [Question.cut]
  have h : t / 2 % (2 ^ 52 - 1) < 2 ^ 52 - 1 := Nat.mod_lt _ (by decide)
  generalize t / 2 % (2 ^ 52 - 1) = u at *
  rcases Nat.mod_two_eq_zero_or_one t with h0 | h0 <;> rw [h0] <;> omega

theorem absF_none {b : Nat} (h : nanB b = true) : absF b = none := by simp [absF, h]
theorem absF_some {b : Nat} (h : nanB b = false) : absF b = some b := by simp [absF, h]

theorem sum_nan_left {d e : Ieee.Datum} (h : d.isNaN = true) : d.sum e = none := by
  cases d <;> simp [Ieee.Datum.isNaN] at h; cases e <;> rfl
theorem sum_nan_right {d e : Ieee.Datum} (h : e.isNaN = true) : d.sum e = none := by
  cases e <;> simp [Ieee.Datum.isNaN] at h; cases d <;> rfl
theorem product_nan_left {d e : Ieee.Datum} (h : d.isNaN = true) : d.product e = none := by
  cases d <;> simp [Ieee.Datum.isNaN] at h; cases e <;> rfl
theorem product_nan_right {d e : Ieee.Datum} (h : e.isNaN = true) : d.product e = none := by
  cases e <;> simp [Ieee.Datum.isNaN] at h; cases d <;> rfl
theorem quotient_nan_left {n : Nat} {d e : Ieee.Datum} (h : d.isNaN = true) : d.quotient n e = none := by
  cases d <;> simp [Ieee.Datum.isNaN] at h; cases e <;> rfl
theorem quotient_nan_right {n : Nat} {d e : Ieee.Datum} (h : e.isNaN = true) : d.quotient n e = none := by
  cases e <;> simp [Ieee.Datum.isNaN] at h; cases d <;> rfl
theorem opposite_nan {d : Ieee.Datum} : d.opposite.isNaN = d.isNaN := by cases d <;> rfl

theorem sum_fine {d e r : Ieee.Datum} (h : d.sum e = some r) : r.isNaN = false := by
  cases d <;> cases e <;> simp [Ieee.Datum.sum] at h
  all_goals first | (obtain ⟨_, rfl⟩ := h; rfl) | (subst h; rfl)
theorem product_fine {d e r : Ieee.Datum} (h : d.product e = some r) : r.isNaN = false := by
  cases d <;> cases e <;> simp [Ieee.Datum.product] at h
  all_goals first | (obtain ⟨_, rfl⟩ := h; rfl) | (subst h; rfl)
theorem quotient_fine {n : Nat} {d e r : Ieee.Datum} (h : d.quotient n e = some r) : r.isNaN = false := by
  cases d <;> cases e <;> simp [Ieee.Datum.quotient] at h
  all_goals first | (obtain ⟨_, rfl⟩ := h; rfl) | (subst h; rfl) | skip
  split at h
  · split at h
    · cases h
    · cases h; rfl
  · cases h; rfl

theorem floatBits_nan_left {op : BinOp} {x y : Nat} (h : nanB x = true) : floatBits op .f64 x y = none := by
  have h' : (Ieee.double.read x).isNaN = true := h
  unfold floatBits
  cases op <;> try rfl
  · show Option.map _ (_ : Option Ieee.Datum) = none
    rw [show ((FloatKind.f64.format.read x).sum _) = none from sum_nan_left h']; rfl
  · show Option.map _ (_ : Option Ieee.Datum) = none
    rw [show ((FloatKind.f64.format.read x).sum _) = none from sum_nan_left h']; rfl
  · show Option.map _ (_ : Option Ieee.Datum) = none
    rw [show ((FloatKind.f64.format.read x).product _) = none from product_nan_left h']; rfl
  · show Option.map _ (_ : Option Ieee.Datum) = none
    rw [show ((FloatKind.f64.format.read x).quotient _ _) = none from quotient_nan_left h']; rfl

theorem floatBits_nan_right {op : BinOp} {x y : Nat} (h : nanB y = true) : floatBits op .f64 x y = none := by
  have h' : (Ieee.double.read y).isNaN = true := h
  unfold floatBits
  cases op <;> try rfl
  · show Option.map _ (_ : Option Ieee.Datum) = none
    rw [show (_ : Ieee.Datum).sum (FloatKind.f64.format.read y) = none from sum_nan_right h']; rfl
  · show Option.map _ (_ : Option Ieee.Datum) = none
    rw [show (_ : Ieee.Datum).sum (FloatKind.f64.format.read y).opposite = none from sum_nan_right (by rw [opposite_nan]; exact h')]; rfl
  · show Option.map _ (_ : Option Ieee.Datum) = none
    rw [show (_ : Ieee.Datum).product (FloatKind.f64.format.read y) = none from product_nan_right h']; rfl
  · show Option.map _ (_ : Option Ieee.Datum) = none
    rw [show (_ : Ieee.Datum).quotient _ (FloatKind.f64.format.read y) = none from quotient_nan_right h']; rfl

theorem floatBits_fine {op : BinOp} {x y r : Nat} (h : floatBits op .f64 x y = some r) : nanB r = false := by
  unfold floatBits at h
  cases op <;> simp only at h <;> first | (cases h; done) | skip
  all_goals
    obtain ⟨d, hd, rfl⟩ := Option.map_eq_some_iff.1 h
    apply nanB_write
    first | exact sum_fine hd | exact product_fine hd | exact quotient_fine hd

theorem absF_fR (op : BinOp) (w : World) (x y : Nat) : absF (fR op w x y) = fop op (absF x) (absF y) := by
  cases hx : nanB x
  · cases hy : nanB y
    · rw [absF_some hx, absF_some hy]
      show _ = floatBits op .f64 x y
      cases h : floatBits op .f64 x y with
      | some r => simp only [fR, h]; exact absF_some (floatBits_fine h)
      | none => simp only [fR, h]; exact absF_none (nan_cut _ _ _)
    · rw [absF_none hy]
      have h := floatBits_nan_right (op := op) (x := x) hy
      simp only [fR, h]
      rw [absF_none (nan_cut _ _ _)]
      cases absF x <;> rfl
  · rw [absF_none hx]
    have h := floatBits_nan_left (op := op) (y := y) hx
    simp only [fR, h]
    exact absF_none (nan_cut _ _ _)

theorem run_store_float {P : Program} (w : World) (a : Addr) (m : Mode) (k : FloatKind) (b : Nat) : (store a (.float k b) m).run P w = stored P w a (.float k b) m := run_store P w a _ m rfl

end Go.Proofs.Ygctag
