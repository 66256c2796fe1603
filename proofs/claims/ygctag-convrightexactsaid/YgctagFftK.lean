import Derived.Test.YgctagFftE
namespace Go.Proofs.Ygctag

def WB (m : Nat) : Cx := Cx.conj (WW m)
theorem rootWB : Root WB := rootWW.conj
def kap (k d p : Nat) : Cx := if d = p then 1 else if d = 2 ^ k + p then ⟨0, -1⟩ else 0
theorem sum_one (c : Cx) (n : Nat) : sumC (fun _ => c) n = rl (n : Rat) * c := by
  induction n with
  | zero => show (0 : Cx) = rl ((0 : Nat) : Rat) * c; rw [show ((0 : Nat) : Rat) = 0 from rfl]; apply Cx.ext' <;> simp [rl] <;> grind
  | succ n ih =>
    show sumC (fun _ => c) n + c = _
    rw [ih, cast_succ]
    apply Cx.ext'
    · simp [rl]; grind
    · simp [rl]; grind

theorem ker_near (k : Nat) (hk : k ≤ 9) (d p : Nat) (hd : d < 2 * 2 ^ k) (hp : p < 2 ^ k) :
    Le (sumC (fun l => WW (2 ^ (9 - k) * (d * (4 * l + 1))) * WB (2 ^ (11 - k) * (l * p)) * WB (2 ^ (9 - k) * p)) (2 ^ k) - rl ((2 ^ k : Nat) : Rat) * kap k d p) (1536 * ew) := by
  have hW := rootWW
  have hV := rootWB
  have hw0 := ew_pos
  obtain ⟨s, hs⟩ : ∃ s, s = 2 ^ (9 - k) := ⟨_, rfl⟩
  obtain ⟨n, hn⟩ : ∃ n, n = 2 ^ k := ⟨_, rfl⟩
  have e4 : 2 ^ (11 - k) = 4 * s := by rw [hs, show 4 = 2 ^ 2 by decide, ← Nat.pow_add]; congr 1; omega
  have esn : s * n = 512 := by rw [hs, hn, ← Nat.pow_add, show 9 - k + k = 9 by omega]
  have hn5 : (n : Rat) ≤ 512 := by
    rw [hn]
    exact Rat.natCast_le_natCast.2 (show 2 ^ k ≤ 2 ^ 9 from Nat.pow_le_pow_right (by decide) hk)
  have hn0 : 0 < n := by rw [hn]; exact Nat.two_pow_pos k
  have hps := point_sum k hk (d + 4 * n - p)
  rw [← hs, ← hn] at hps
  unfold kap
  rw [e4, ← hs, ← hn]
  rw [← hn] at hd hp
  -- each term lies near a root of d + 4 n - p
  have hterm : ∀ l, Le (WW (s * (d * (4 * l + 1))) * WB (4 * s * (l * p)) * WB (s * p) - WW (s * ((d + 4 * n - p) * (4 * l + 1)))) (2 * ew) := by
    intro l
    have im : s * (p * (4 * l + 1)) = 4 * s * (l * p) + s * p := by
      rw [Nat.mul_add, Nat.mul_one, Nat.mul_add]
      congr 1
      rw [← Nat.mul_assoc p 4, Nat.mul_comm p 4, Nat.mul_assoc 4 p l, Nat.mul_comm p l, ← Nat.mul_assoc, Nat.mul_comm s 4]
    have iy : s * ((d + 4 * n - p) * (4 * l + 1)) + (4 * s * (l * p) + s * p) = s * (d * (4 * l + 1)) + 2048 * (4 * l + 1) := by
      rw [← im, ← Nat.mul_add, ← Nat.add_mul, show d + 4 * n - p + p = d + 4 * n by omega, Nat.add_mul, Nat.mul_add]
      congr 1
      rw [← Nat.mul_assoc, ← Nat.mul_assoc, Nat.mul_comm s 4, Nat.mul_assoc 4 s n, esn]
    have h1 := hW.turns (s * (d * (4 * l + 1))) (4 * l + 1)
    rw [← iy] at h1
    rw [← h1]
    have m1 := hV.mulLe (4 * s * (l * p)) (s * p)
    generalize 4 * s * (l * p) + s * p = m at *
    have m2 := hW.mulLe (s * ((d + 4 * n - p) * (4 * l + 1))) m
    generalize s * ((d + 4 * n - p) * (4 * l + 1)) = y at *
    have w1 := hW.le (y + m)
    have w2 := hV.le m
    have hu : nsq (WW m) = 1 := hW.unit m
    have hB : WB m = Cx.conj (WW m) := rfl
    have t := ((w1.mul m1.neg).add (m2.mul w2))
    refine (t.of_eq ?_).mono (by grind)
    rw [hB] at *
    generalize WB (4 * s * (l * p)) = u at *
    generalize WB (s * p) = v at *
    generalize WW (y + m) = a at *
    generalize WW m = b at *
    generalize WW y = c at *
    unfold nsq at hu
    apply Cx.ext'
    · simp
      have : c.re = c.re * (b.re * b.re + b.im * b.im) := by rw [hu, Rat.mul_one]
      grind
    · simp
      have : c.im = c.im * (b.re * b.re + b.im * b.im) := by rw [hu, Rat.mul_one]
      grind
  have hsum := sumc_le (n := n) (m := 2 * ew) (M := 512) (by grind) hn5 (fun l _ => hterm l)
  rw [sumC_sub] at hsum
  by_cases h1 : d = p
  · rw [if_pos h1]
    subst h1
    have e : sumC (fun l => WW (s * ((d + 4 * n - d) * (4 * l + 1)))) n = rl (n : Rat) * 1 := by
      rw [← sum_one]
      refine sumC_congr fun l _ => ?_
      rw [show d + 4 * n - d = 4 * n by omega, show s * (4 * n * (4 * l + 1)) = 0 + 2048 * (4 * l + 1) by rw [← Nat.mul_assoc, ← Nat.mul_assoc, Nat.mul_comm s 4, Nat.mul_assoc 4 s n, esn, Nat.zero_add], hW.turns, hW.zero]
    rw [e] at hsum
    exact hsum.mono (by grind)
  · rw [if_neg h1]
    by_cases h2 : d = n + p
    · rw [if_pos h2]
      have e : sumC (fun l => WW (s * ((d + 4 * n - p) * (4 * l + 1)))) n = rl (n : Rat) * WW 512 := by
        rw [← sum_one]
        refine sumC_congr fun l _ => ?_
        rw [show d + 4 * n - p = 5 * n by omega, show s * (5 * n * (4 * l + 1)) = 512 + 2048 * (5 * l + 1) by rw [← Nat.mul_assoc, ← Nat.mul_assoc, Nat.mul_comm s 5, Nat.mul_assoc 5 s n, esn]; omega, hW.turns]
      rw [e] at hsum
      have hq : Le (rl (n : Rat) * (⟨0, -1⟩ - WW 512)) (512 * ew) := (rl_le (by rw [ab_of_nonneg Rat.natCast_nonneg]; exact hn5)).mul ww_quarter
      exact ((hsum.sub hq).of_eq (by (apply Cx.ext' <;> simp <;> grind))).mono (by grind)
    · rw [if_neg h2]
      have e := hps (by
        rintro ⟨c, hc⟩
        have h3 : c = 4 ∨ c = 5 := by
          have a1 : n * 3 < n * c := by omega
          have a2 : n * c < n * 6 := by omega
          have := Nat.lt_of_mul_lt_mul_left a1
          have := Nat.lt_of_mul_lt_mul_left a2
          omega
        rcases h3 with rfl | rfl
        · omega
        · omega)
      rw [e] at hsum
      exact (hsum.of_eq (by (apply Cx.ext' <;> simp <;> grind))).mono (by grind)

/-- The sums themselves. -/
def cAt (A B : Nat → Rat) (N m : Nat) : Rat := sumR (fun i => sumR (fun j => if i + j = m then A i * B j else 0) N) N
theorem sumC_rl (f : Nat → Rat) (n : Nat) : sumC (fun i => rl (f i)) n = rl (sumR f n) := by
  induction n with
  | zero => rfl
  | succ n ih => show sumC (fun i => rl (f i)) n + rl (f n) = rl (sumR f n + f n); rw [ih]; apply Cx.ext' <;> simp [rl]; grind
theorem sumC_parts (f g : Nat → Rat) (n : Nat) : sumC (fun i => (⟨f i, g i⟩ : Cx)) n = ⟨sumR f n, sumR g n⟩ := by
  induction n with
  | zero => rfl
  | succ n ih => show sumC (fun i => (⟨f i, g i⟩ : Cx)) n + ⟨f n, g n⟩ = ⟨sumR f n + f n, sumR g n + g n⟩; rw [ih]; rfl
theorem sumR_neg (f : Nat → Rat) (n : Nat) : sumR (fun i => -f i) n = -sumR f n := by
  induction n with
  | zero => show (0 : Rat) = -0; grind
  | succ n ih => show sumR (fun i => -f i) n + -f n = -(sumR f n + f n); rw [ih]; grind

/-- The inverse transform of the product's points, unweighted: the sums. -/
theorem inv_near (k : Nat) (hk : k ≤ 9) (A B : Nat → Rat) (hA : ∀ i, ab (A i) ≤ 32768) (hB : ∀ i, ab (B i) ≤ 32768) (hAB : ∀ i j, 2 * 2 ^ k ≤ i + j → A i * B j = 0) (p : Nat) (hp : p < 2 ^ k) :
    Le (dftC (evC A B k) WB k p * WB (2 ^ (9 - k) * p) - rl ((2 ^ k : Nat) : Rat) * ⟨cAt A B (2 * 2 ^ k) p, -cAt A B (2 * 2 ^ k) (2 ^ k + p)⟩) (1729382256910270464 * ew) := by
  have hw0 := ew_pos
  have hn := pow1024 k hk
  have hab : ∀ i j, ab (A i * B j) ≤ 1073741824 := fun i j => by
    rw [ab_mul]
    have h1 := Rat.mul_le_mul_of_nonneg_right (hA i) (ab_nonneg (B j))
    have h2 := Rat.mul_le_mul_of_nonneg_left (hB j) (show (0 : Rat) ≤ 32768 by decide)
    grind
  have e1 : dftC (evC A B k) WB k p * WB (2 ^ (9 - k) * p) = sumC (fun i => sumC (fun j => rl (A i * B j) * sumC (fun l => WW (2 ^ (9 - k) * ((i + j) * (4 * l + 1))) * WB (2 ^ (11 - k) * (l * p)) * WB (2 ^ (9 - k) * p)) (2 ^ k)) (2 * 2 ^ k)) (2 * 2 ^ k) := by
    unfold dftC evC
    rw [← sumC_mulr]
    have f1 : sumC (fun l => sumC (fun i => sumC (fun j => rl (A i * B j) * WW (2 ^ (9 - k) * ((i + j) * (4 * l + 1)))) (2 * 2 ^ k)) (2 * 2 ^ k) * WB (2 ^ (11 - k) * (l * p)) * WB (2 ^ (9 - k) * p)) (2 ^ k) = sumC (fun l => sumC (fun i => sumC (fun j => rl (A i * B j) * (WW (2 ^ (9 - k) * ((i + j) * (4 * l + 1))) * WB (2 ^ (11 - k) * (l * p)) * WB (2 ^ (9 - k) * p))) (2 * 2 ^ k)) (2 * 2 ^ k)) (2 ^ k) := by
      refine sumC_congr fun l _ => ?_
      rw [cmul_assoc, ← sumC_mulr]
      refine sumC_congr fun i _ => ?_
      rw [← sumC_mulr]
      exact sumC_congr fun j _ => by (apply Cx.ext' <;> simp <;> grind)
    rw [f1, sumC_swap]
    refine sumC_congr fun i _ => ?_
    rw [sumC_swap]
    exact sumC_congr fun j _ => sumC_mul _ _ _
  have e2 : rl ((2 ^ k : Nat) : Rat) * ⟨cAt A B (2 * 2 ^ k) p, -cAt A B (2 * 2 ^ k) (2 ^ k + p)⟩ = sumC (fun i => sumC (fun j => rl (A i * B j) * (rl ((2 ^ k : Nat) : Rat) * kap k (i + j) p)) (2 * 2 ^ k)) (2 * 2 ^ k) := by
    unfold cAt
    rw [← sumR_neg]
    have g1 : (⟨sumR (fun i => sumR (fun j => if i + j = p then A i * B j else 0) (2 * 2 ^ k)) (2 * 2 ^ k), sumR (fun i => -sumR (fun j => if i + j = 2 ^ k + p then A i * B j else 0) (2 * 2 ^ k)) (2 * 2 ^ k)⟩ : Cx) = sumC (fun i => sumC (fun j => rl (A i * B j) * kap k (i + j) p) (2 * 2 ^ k)) (2 * 2 ^ k) := by
      rw [← sumC_parts]
      refine sumC_congr fun i _ => ?_
      rw [← sumR_neg, ← sumC_parts]
      refine sumC_congr fun j _ => ?_
      unfold kap
      by_cases h1 : i + j = p
      · rw [if_pos h1, if_pos h1, if_neg (by have := Nat.two_pow_pos k; omega)]
        apply Cx.ext' <;> simp [rl] <;> grind
      · rw [if_neg h1, if_neg h1]
        by_cases h2 : i + j = 2 ^ k + p
        · rw [if_pos h2, if_pos h2]
          apply Cx.ext' <;> simp [rl] <;> grind
        · rw [if_neg h2, if_neg h2]
          apply Cx.ext' <;> simp [rl] <;> grind
    rw [g1, ← sumC_mul]
    refine sumC_congr fun i _ => ?_
    rw [← sumC_mul]
    exact sumC_congr fun j _ => by (apply Cx.ext' <;> simp <;> grind)
  rw [e1, e2, ← sumC_sub]
  refine (sumc_le (m := 1024 * (1073741824 * (1536 * ew))) (M := 1024) (by grind) hn fun i _ => ?_).mono (by grind)
  rw [← sumC_sub]
  refine sumc_le (m := 1073741824 * (1536 * ew)) (M := 1024) (by grind) hn fun j _ => ?_
  by_cases hd : i + j < 2 * 2 ^ k
  · exact ((rl_le (hab i j)).mul (ker_near k hk (i + j) p hd hp)).of_eq (by (apply Cx.ext' <;> simp <;> grind))
  · rw [hAB i j (by omega)]
    exact Le.zero.of_eq (by apply Cx.ext' <;> simp [rl] <;> grind) |>.mono (by grind)
end Go.Proofs.Ygctag
