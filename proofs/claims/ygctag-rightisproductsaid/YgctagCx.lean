import Derived.Test.YgctagRnd
namespace Go.Proofs.Ygctag

/-! ### Complex numbers with rational parts -/
structure Cx where
  re : Rat
  im : Rat
namespace Cx
theorem ext' {a b : Cx} (h : a.re = b.re) (g : a.im = b.im) : a = b := by cases a; cases b; cases h; cases g; rfl
instance : Add Cx := ⟨fun a b => ⟨a.re + b.re, a.im + b.im⟩⟩
instance : Sub Cx := ⟨fun a b => ⟨a.re - b.re, a.im - b.im⟩⟩
instance : Neg Cx := ⟨fun a => ⟨-a.re, -a.im⟩⟩
instance : Mul Cx := ⟨fun a b => ⟨a.re * b.re - a.im * b.im, a.re * b.im + a.im * b.re⟩⟩
instance : Zero Cx := ⟨⟨0, 0⟩⟩
instance : One Cx := ⟨⟨1, 0⟩⟩
def conj (a : Cx) : Cx := ⟨a.re, -a.im⟩
@[simp] theorem add_re (a b : Cx) : (a + b).re = a.re + b.re := rfl
@[simp] theorem add_im (a b : Cx) : (a + b).im = a.im + b.im := rfl
@[simp] theorem sub_re (a b : Cx) : (a - b).re = a.re - b.re := rfl
@[simp] theorem sub_im (a b : Cx) : (a - b).im = a.im - b.im := rfl
@[simp] theorem neg_re (a : Cx) : (-a).re = -a.re := rfl
@[simp] theorem neg_im (a : Cx) : (-a).im = -a.im := rfl
@[simp] theorem mul_re (a b : Cx) : (a * b).re = a.re * b.re - a.im * b.im := rfl
@[simp] theorem mul_im (a b : Cx) : (a * b).im = a.re * b.im + a.im * b.re := rfl
@[simp] theorem zero_re : (0 : Cx).re = 0 := rfl
@[simp] theorem zero_im : (0 : Cx).im = 0 := rfl
@[simp] theorem one_re : (1 : Cx).re = 1 := rfl
@[simp] theorem one_im : (1 : Cx).im = 0 := rfl
@[simp] theorem conj_re (a : Cx) : (conj a).re = a.re := rfl
@[simp] theorem conj_im (a : Cx) : (conj a).im = -a.im := rfl
end Cx

theorem cmul_assoc (a b c : Cx) : a * b * c = a * (b * c) := by (apply Cx.ext' <;> simp <;> grind)
theorem cmul_comm (a b : Cx) : a * b = b * a := by (apply Cx.ext' <;> simp <;> grind)
theorem cmul_add (a b c : Cx) : a * (b + c) = a * b + a * c := by (apply Cx.ext' <;> simp <;> grind)
theorem cadd_mul (a b c : Cx) : (a + b) * c = a * c + b * c := by (apply Cx.ext' <;> simp <;> grind)
theorem cadd_assoc (a b c : Cx) : a + b + c = a + (b + c) := by (apply Cx.ext' <;> simp <;> grind)
theorem cadd_comm (a b : Cx) : a + b = b + a := by (apply Cx.ext' <;> simp <;> grind)
theorem cmul_one (a : Cx) : a * 1 = a := by (apply Cx.ext' <;> simp <;> grind)
theorem cone_mul (a : Cx) : 1 * a = a := by (apply Cx.ext' <;> simp <;> grind)
theorem cmul_zero (a : Cx) : a * 0 = 0 := by (apply Cx.ext' <;> simp <;> grind)
theorem czero_mul (a : Cx) : 0 * a = 0 := by (apply Cx.ext' <;> simp <;> grind)
theorem cadd_zero (a : Cx) : a + 0 = a := by (apply Cx.ext' <;> simp <;> grind)
theorem czero_add (a : Cx) : 0 + a = a := by (apply Cx.ext' <;> simp <;> grind)

/-- The square of the modulus. -/
def nsq (z : Cx) : Rat := z.re * z.re + z.im * z.im
theorem sq_nonneg (a : Rat) : 0 ≤ a * a := by
  rcases Rat.le_total (a := 0) (b := a) with h | h
  · exact Rat.mul_nonneg h h
  · have : 0 ≤ -a * -a := Rat.mul_nonneg (by grind) (by grind)
    grind
theorem nsq_nonneg (z : Cx) : 0 ≤ nsq z := by
  unfold nsq
  have := sq_nonneg z.re
  have := sq_nonneg z.im
  grind
theorem nsq_mul (a b : Cx) : nsq (a * b) = nsq a * nsq b := by unfold nsq; simp; grind
theorem nsq_neg (a : Cx) : nsq (-a) = nsq a := by unfold nsq; simp; grind
theorem nsq_conj (a : Cx) : nsq (Cx.conj a) = nsq a := by unfold nsq; simp; grind
theorem nsq_sub_comm (a b : Cx) : nsq (a - b) = nsq (b - a) := by unfold nsq; simp; grind
theorem nsq_zero : nsq 0 = 0 := by unfold nsq; simp; grind
theorem nsq_one : nsq 1 = 1 := by unfold nsq; simp; grind
/-- The pair of a butterfly. -/
theorem nsq_pair (a b : Cx) : nsq (a + b) + nsq (a - b) = 2 * (nsq a + nsq b) := by unfold nsq; simp; grind
/-- Young: t > 0. -/
theorem nsq_young (a b : Cx) (t : Rat) (ht : 0 < t) : nsq (a + b) ≤ (1 + t) * nsq a + (1 + 1 / t) * nsq b := by
  have h1 := sq_nonneg (t * a.re - b.re)
  have h2 := sq_nonneg (t * a.im - b.im)
  have e : t * (1 / t) = 1 := by grind
  have h3 : 0 ≤ t * ((1 + t) * nsq a + (1 + 1 / t) * nsq b - nsq (a + b)) := by
    unfold nsq
    simp
    have e2 : t * ((1 + t) * (a.re * a.re + a.im * a.im) + (1 + 1 / t) * (b.re * b.re + b.im * b.im) - ((a.re + b.re) * (a.re + b.re) + (a.im + b.im) * (a.im + b.im))) = (t * a.re - b.re) * (t * a.re - b.re) + (t * a.im - b.im) * (t * a.im - b.im) + (t * (1 / t) - 1) * (b.re * b.re + b.im * b.im) := by grind
    rw [e2, e]
    grind
  have h4 : t * 0 ≤ t * ((1 + t) * nsq a + (1 + 1 / t) * nsq b - nsq (a + b)) := by grind
  have h5 := Rat.le_of_mul_le_mul_left h4 ht
  grind

/-- A bound on the modulus. -/
def Le (z : Cx) (m : Rat) : Prop := 0 ≤ m ∧ nsq z ≤ m * m
theorem sq_le {x y : Rat} (hy : 0 ≤ y) (h : x * x ≤ y * y) : x ≤ y := by
  rcases Rat.le_total (a := x) (b := y) with h1 | h1
  · exact h1
  · have hx : 0 ≤ x := by grind
    rcases Rat.le_iff_lt_or_eq.1 h1 with h2 | h2
    · exfalso
      have h3 : 0 < x - y := by grind
      have h4 : 0 < x + y := by grind
      have h5 := Rat.mul_pos h3 h4
      grind
    · grind
theorem sq_mono {x y : Rat} (hx : 0 ≤ x) (h : x ≤ y) : x * x ≤ y * y := by
  have h1 := Rat.mul_le_mul_of_nonneg_left h hx
  have h2 := Rat.mul_le_mul_of_nonneg_right h (show 0 ≤ y by grind)
  grind
theorem Le.mono {z : Cx} {m k : Rat} (h : Le z m) (hk : m ≤ k) : Le z k := ⟨by have := h.1; grind, by have := sq_mono h.1 hk; have := h.2; grind⟩
theorem Le.add {z w : Cx} {m k : Rat} (h : Le z m) (g : Le w k) : Le (z + w) (m + k) := by
  refine ⟨by have := h.1; have := g.1; grind, ?_⟩
  -- the inner product
  have hp : (z.re * w.re + z.im * w.im) ≤ m * k := by
    apply sq_le (Rat.mul_nonneg h.1 g.1)
    have c := sq_nonneg (z.re * w.im - z.im * w.re)
    have d1 : nsq z * nsq w ≤ m * m * nsq w := Rat.mul_le_mul_of_nonneg_right h.2 (nsq_nonneg w)
    have d2 : m * m * nsq w ≤ m * m * (k * k) := Rat.mul_le_mul_of_nonneg_left g.2 (sq_nonneg m)
    unfold nsq at d1 d2
    grind
  have h2 := h.2
  have g2 := g.2
  unfold nsq at *
  simp
  grind
theorem Le.neg {z : Cx} {m : Rat} (h : Le z m) : Le (-z) m := ⟨h.1, by rw [nsq_neg]; exact h.2⟩
theorem Le.sub {z w : Cx} {m k : Rat} (h : Le z m) (g : Le w k) : Le (z - w) (m + k) := by
  have := h.add g.neg
  rw [show z + -w = z - w by (apply Cx.ext' <;> simp <;> grind)] at this
  exact this
theorem Le.mul {z w : Cx} {m k : Rat} (h : Le z m) (g : Le w k) : Le (z * w) (m * k) := by
  refine ⟨Rat.mul_nonneg h.1 g.1, ?_⟩
  rw [nsq_mul]
  have d1 : nsq z * nsq w ≤ m * m * nsq w := Rat.mul_le_mul_of_nonneg_right h.2 (nsq_nonneg w)
  have d2 : m * m * nsq w ≤ m * m * (k * k) := Rat.mul_le_mul_of_nonneg_left g.2 (sq_nonneg m)
  grind
theorem Le.conj {z : Cx} {m : Rat} (h : Le z m) : Le (Cx.conj z) m := ⟨h.1, by rw [nsq_conj]; exact h.2⟩
theorem Le.of_eq {z w : Cx} {m : Rat} (h : Le z m) (e : z = w) : Le w m := e ▸ h
theorem Le.zero : Le 0 0 := ⟨Rat.le_refl, by rw [nsq_zero]; grind⟩
theorem Le.re {z : Cx} {m : Rat} (h : Le z m) : ab z.re ≤ m := by
  have h2 := h.2
  unfold nsq at h2
  have hi := sq_nonneg z.im
  refine ab_le (sq_le h.1 (by grind)) (sq_le h.1 (by grind))
theorem Le.im {z : Cx} {m : Rat} (h : Le z m) : ab z.im ≤ m := by
  have h2 := h.2
  unfold nsq at h2
  have hi := sq_nonneg z.re
  refine ab_le (sq_le h.1 (by grind)) (sq_le h.1 (by grind))
theorem Le.of_parts {z : Cx} {a b : Rat} (h : ab z.re ≤ a) (g : ab z.im ≤ b) : Le z (a + b) := by
  have ha := ab_nonneg z.re
  have hb := ab_nonneg z.im
  refine ⟨by grind, ?_⟩
  have h1 := sq_mono ha h
  have h2 := sq_mono hb g
  have e1 : ab z.re * ab z.re = z.re * z.re := by unfold ab; split <;> grind
  have e2 : ab z.im * ab z.im = z.im * z.im := by unfold ab; split <;> grind
  have h3 : 0 ≤ a * b := Rat.mul_nonneg (by grind) (by grind)
  unfold nsq
  grind
theorem Le.unit {z : Cx} (h : nsq z = 1) : Le z 1 := ⟨by decide, by rw [h]; grind⟩
theorem Le.real (x : Rat) : Le ⟨x, 0⟩ (ab x) := ⟨ab_nonneg x, by unfold nsq ab; split <;> grind⟩

/-! ### Sums -/
def sumR (f : Nat → Rat) : Nat → Rat
  | 0 => 0
  | n + 1 => sumR f n + f n
def sumC (f : Nat → Cx) : Nat → Cx
  | 0 => 0
  | n + 1 => sumC f n + f n
theorem sumR_congr {f g : Nat → Rat} {n : Nat} (h : ∀ i, i < n → f i = g i) : sumR f n = sumR g n := by
  induction n with
  | zero => rfl
  | succ n ih => show sumR f n + f n = sumR g n + g n; rw [ih fun i hi => h i (by omega), h n (by omega)]
theorem sumC_congr {f g : Nat → Cx} {n : Nat} (h : ∀ i, i < n → f i = g i) : sumC f n = sumC g n := by
  induction n with
  | zero => rfl
  | succ n ih => show sumC f n + f n = sumC g n + g n; rw [ih fun i hi => h i (by omega), h n (by omega)]
theorem sumR_le {f g : Nat → Rat} {n : Nat} (h : ∀ i, i < n → f i ≤ g i) : sumR f n ≤ sumR g n := by
  induction n with
  | zero => exact Rat.le_refl
  | succ n ih =>
    show sumR f n + f n ≤ sumR g n + g n
    have := ih fun i hi => h i (by omega)
    have := h n (by omega)
    grind
theorem sumR_nonneg {f : Nat → Rat} {n : Nat} (h : ∀ i, i < n → 0 ≤ f i) : 0 ≤ sumR f n := by
  induction n with
  | zero => exact Rat.le_refl
  | succ n ih =>
    show 0 ≤ sumR f n + f n
    have := ih fun i hi => h i (by omega)
    have := h n (by omega)
    grind
theorem sumR_add (f g : Nat → Rat) (n : Nat) : sumR (fun i => f i + g i) n = sumR f n + sumR g n := by
  induction n with
  | zero => show (0 : Rat) = 0 + 0; grind
  | succ n ih => show sumR (fun i => f i + g i) n + (f n + g n) = sumR f n + f n + (sumR g n + g n); rw [ih]; grind
theorem sumR_mul (c : Rat) (f : Nat → Rat) (n : Nat) : sumR (fun i => c * f i) n = c * sumR f n := by
  induction n with
  | zero => show (0 : Rat) = c * 0; grind
  | succ n ih => show sumR (fun i => c * f i) n + c * f n = c * (sumR f n + f n); rw [ih]; grind
theorem sumR_const (c : Rat) (n : Nat) : sumR (fun _ => c) n = (n : Rat) * c := by
  induction n with
  | zero => show (0 : Rat) = ((0 : Nat) : Rat) * c; rw [show ((0 : Nat) : Rat) = 0 from rfl]; grind
  | succ n ih => show sumR (fun _ => c) n + c = _; rw [ih, Rat.natCast_add, show ((1 : Nat) : Rat) = 1 from rfl]; grind
theorem sumR_split (f : Nat → Rat) (n m : Nat) : sumR f (n + m) = sumR f n + sumR (fun i => f (n + i)) m := by
  induction m with
  | zero => show sumR f n = sumR f n + 0; grind
  | succ m ih => show sumR f (n + m) + f (n + m) = sumR f n + (sumR (fun i => f (n + i)) m + f (n + m)); rw [ih]; grind
theorem sumR_grid (f : Nat → Rat) (R C : Nat) : sumR f (R * C) = sumR (fun r => sumR (fun c => f (r * C + c)) C) R := by
  induction R with
  | zero => rw [Nat.zero_mul]; rfl
  | succ R ih => rw [Nat.add_mul, Nat.one_mul, sumR_split, ih]; rfl
theorem sumR_parity (f : Nat → Rat) (h : Nat) : sumR f (2 * h) = sumR (fun i => f (2 * i)) h + sumR (fun i => f (2 * i + 1)) h := by
  induction h with
  | zero => show (0 : Rat) = 0 + 0; grind
  | succ h ih =>
    show sumR f (2 * h) + f (2 * h) + f (2 * h + 1) = sumR (fun i => f (2 * i)) h + f (2 * h) + (sumR (fun i => f (2 * i + 1)) h + f (2 * h + 1))
    rw [ih]; grind
theorem sumC_add (f g : Nat → Cx) (n : Nat) : sumC (fun i => f i + g i) n = sumC f n + sumC g n := by
  induction n with
  | zero => show (0 : Cx) = 0 + 0; (apply Cx.ext' <;> simp <;> grind)
  | succ n ih => show sumC (fun i => f i + g i) n + (f n + g n) = sumC f n + f n + (sumC g n + g n); rw [ih]; (apply Cx.ext' <;> simp <;> grind)
theorem sumC_sub (f g : Nat → Cx) (n : Nat) : sumC (fun i => f i - g i) n = sumC f n - sumC g n := by
  induction n with
  | zero => show (0 : Cx) = 0 - 0; (apply Cx.ext' <;> simp <;> grind)
  | succ n ih => show sumC (fun i => f i - g i) n + (f n - g n) = sumC f n + f n - (sumC g n + g n); rw [ih]; (apply Cx.ext' <;> simp <;> grind)
theorem sumC_mul (c : Cx) (f : Nat → Cx) (n : Nat) : sumC (fun i => c * f i) n = c * sumC f n := by
  induction n with
  | zero => show (0 : Cx) = c * 0; (apply Cx.ext' <;> simp <;> grind)
  | succ n ih => show sumC (fun i => c * f i) n + c * f n = c * (sumC f n + f n); rw [ih]; (apply Cx.ext' <;> simp <;> grind)
theorem sumC_mulr (c : Cx) (f : Nat → Cx) (n : Nat) : sumC (fun i => f i * c) n = sumC f n * c := by
  rw [cmul_comm, ← sumC_mul]
  exact sumC_congr fun i _ => cmul_comm _ _
theorem sumC_zero (n : Nat) : sumC (fun _ => 0) n = 0 := by
  induction n with
  | zero => rfl
  | succ n ih => show sumC (fun _ => 0) n + 0 = 0; rw [ih]; (apply Cx.ext' <;> simp <;> grind)
theorem sumC_swap (f : Nat → Nat → Cx) (n m : Nat) : sumC (fun i => sumC (fun j => f i j) m) n = sumC (fun j => sumC (fun i => f i j) n) m := by
  induction n with
  | zero => show (0 : Cx) = sumC (fun _ => 0) m; rw [sumC_zero]
  | succ n ih =>
    show sumC (fun i => sumC (fun j => f i j) m) n + sumC (fun j => f n j) m = sumC (fun j => sumC (fun i => f i j) n + f n j) m
    rw [ih, sumC_add]
theorem sumC_split (f : Nat → Cx) (n m : Nat) : sumC f (n + m) = sumC f n + sumC (fun i => f (n + i)) m := by
  induction m with
  | zero => show sumC f n = sumC f n + 0; (apply Cx.ext' <;> simp <;> grind)
  | succ m ih => show sumC f (n + m) + f (n + m) = sumC f n + (sumC (fun i => f (n + i)) m + f (n + m)); rw [ih]; (apply Cx.ext' <;> simp <;> grind)
theorem sumC_parity (f : Nat → Cx) (h : Nat) : sumC f (2 * h) = sumC (fun i => f (2 * i)) h + sumC (fun i => f (2 * i + 1)) h := by
  induction h with
  | zero => show (0 : Cx) = 0 + 0; (apply Cx.ext' <;> simp <;> grind)
  | succ h ih =>
    show sumC f (2 * h) + f (2 * h) + f (2 * h + 1) = sumC (fun i => f (2 * i)) h + f (2 * h) + (sumC (fun i => f (2 * i + 1)) h + f (2 * h + 1))
    rw [ih]; (apply Cx.ext' <;> simp <;> grind)
theorem sumC_le {f : Nat → Cx} {m : Nat → Rat} {n : Nat} (h : ∀ i, i < n → Le (f i) (m i)) : Le (sumC f n) (sumR m n) := by
  induction n with
  | zero => exact Le.zero
  | succ n ih => exact (ih fun i hi => h i (by omega)).add (h n (by omega))
end Go.Proofs.Ygctag
