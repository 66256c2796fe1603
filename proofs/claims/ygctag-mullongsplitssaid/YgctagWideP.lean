import Derived.Test.YgctagLong
namespace Go.Proofs.Ygctag

/-- The transform of n points, or the way back. -/
def chg (back : Bool) (k n : Nat) (F : Nat → Int) (j : Nat) : Int := if back then dft F (irootN k) n j * invN k % 998244353 else dft F (rootN k) n j % 998244353
theorem chg_bound (back : Bool) (k n : Nat) (F : Nat → Int) (j : Nat) : 0 ≤ chg back k n F j ∧ chg back k n F j < 998244353 := by
  unfold chg; split <;> omega
theorem dft_congr {F G : Nat → Int} {n : Nat} (h : ∀ i, i < n → F i = G i) (w : Int) (j : Nat) : dft F w n j = dft G w n j := sumI_congr fun i hi => by rw [h i hi]
theorem dft_eqm {F G : Nat → Int} {n : Nat} (h : ∀ i, i < n → Eqm (F i) (G i)) (w : Int) (j : Nat) : Eqm (dft F w n j) (dft G w n j) := sumI_eqm fun i hi => (h i hi).mul (Eqm.refl _)
theorem chg_congr {F G : Nat → Int} {n : Nat} (h : ∀ i, i < n → F i = G i) (back : Bool) (k j : Nat) : chg back k n F j = chg back k n G j := by
  unfold chg; rw [dft_congr h, dft_congr h]

theorem chg_back (k n : Nat) (F : Nat → Int) (j : Nat) (hk : 1 ≤ k) (hk2 : k ≤ 23) (hn : n = 2 ^ k) (hj : j < n) : chg true k n (chg false k n F) j = F j % 998244353 := by
  obtain ⟨m, rfl⟩ : ∃ m, k = m + 1 := ⟨k - 1, by omega⟩
  subst hn
  have h1 := root_neg m hk2
  have h2 := iroot_neg m hk2
  have h3 := root_inv m hk2
  have h4 := two_inv m hk2
  show dft (chg false (m + 1) (2 ^ (m + 1)) F) (irootN (m + 1)) (2 ^ (m + 1)) j * invN (m + 1) % 998244353 = _
  rw [← Eqm.iff_emod]
  have e1 : Eqm (dft (chg false (m + 1) (2 ^ (m + 1)) F) (irootN (m + 1)) (2 ^ (m + 1)) j) (dft (fun i => dft F (rootN (m + 1)) (2 ^ (m + 1)) i) (irootN (m + 1)) (2 ^ (m + 1)) j) := dft_eqm (fun i _ => Eqm.emod _) _ _
  have e2 := dft_inv F (rootN (m + 1)) (irootN (m + 1)) (m + 1) j h1 h2 h3 hj
  have e3 := (e1.trans e2).mul (Eqm.refl (invN (m + 1) : Int))
  generalize (invN (m + 1) : Int) = iv at *
  generalize ((2 ^ (m + 1) : Nat) : Int) = nn at *
  refine e3.trans ?_
  have e4 : nn * F j * iv = nn * iv * F j := by grind
  rw [e4]
  have e5 := h4.mul (Eqm.refl (F j))
  rw [Int.one_mul] at e5
  exact e5

/-- Columns, twist, rows of a grid of C columns. -/
def colT (back : Bool) (k R C : Nat) (x : Nat → Int) (i : Nat) : Int := chg back k R (fun r => x (r * C + i % C)) (i / C)
def twT (w : Int) (C : Nat) (x : Nat → Int) (i : Nat) : Int := x i * w ^ (i / C * (i % C)) % 998244353
def rowT (back : Bool) (k C : Nat) (x : Nat → Int) (i : Nat) : Int := chg back k C (fun c => x (i / C * C + c)) (i % C)
theorem rc_lt {R C r c : Nat} (hr : r < R) (hc : c < C) : r * C + c < R * C := by
  have : (r + 1) * C ≤ R * C := Nat.mul_le_mul_right _ hr
  rw [Nat.add_mul, Nat.one_mul] at this; omega
theorem rc_div {C r c : Nat} (hc : c < C) : (r * C + c) / C = r := by
  rw [Nat.mul_comm, Nat.mul_add_div (by omega), Nat.div_eq_of_lt hc, Nat.add_zero]
theorem rc_mod {C r c : Nat} (hc : c < C) : (r * C + c) % C = c := by
  rw [Nat.mul_comm, Nat.mul_add_mod, Nat.mod_eq_of_lt hc]

theorem col_back (k R C : Nat) (x : Nat → Int) (i : Nat) (hk : 1 ≤ k) (hk2 : k ≤ 23) (hR : R = 2 ^ k) (hC : 0 < C) (hi : i < R * C) : colT true k R C (colT false k R C x) i = x i % 998244353 := by
  have hc : i % C < C := Nat.mod_lt _ hC
  have hr : i / C < R := by rw [Nat.div_lt_iff_lt_mul hC]; exact hi
  unfold colT
  rw [chg_congr (G := chg false k R (fun r => x (r * C + i % C))) (fun r _ => by rw [rc_mod hc, rc_div hc]) true k (i / C), chg_back k R _ _ hk hk2 hR hr]
  congr 2
  rw [Nat.mul_comm, Nat.div_add_mod]
theorem row_back (k C : Nat) (x : Nat → Int) (i : Nat) (hk : 1 ≤ k) (hk2 : k ≤ 23) (hC : C = 2 ^ k) : rowT true k C (rowT false k C x) i = x i % 998244353 := by
  have hC0 : 0 < C := by rw [hC]; exact Nat.two_pow_pos k
  have hc : i % C < C := Nat.mod_lt _ hC0
  unfold rowT
  rw [chg_congr (G := chg false k C (fun c => x (i / C * C + c))) (fun c hc => by rw [rc_mod hc, rc_div hc]) true k (i % C), chg_back k C _ _ hk hk2 hC hc]
  congr 2
  rw [Nat.mul_comm, Nat.div_add_mod]
theorem tw_back (w v : Int) (hwv : Eqm (w * v) 1) (C : Nat) (x : Nat → Int) (i : Nat) : twT v C (twT w C x) i = x i % 998244353 := by
  unfold twT
  rw [← Eqm.iff_emod]
  generalize i / C * (i % C) = e
  have h1 : Eqm (x i * w ^ e % 998244353 * v ^ e) (x i * w ^ e * v ^ e) := (Eqm.emod _).mul (Eqm.refl _)
  refine h1.trans ?_
  rw [Int.mul_assoc, ← Int.mul_pow]
  have h2 := (Eqm.refl (x i)).mul (hwv.pow e)
  rw [Int.one_pow, Int.mul_one] at h2
  exact h2

theorem root_pow (a b : Nat) (h : a + b ≤ 23) : Eqm ((rootN (a + b) : Int) ^ 2 ^ b) (rootN a) := by
  induction b with
  | zero => rw [Nat.pow_zero, Int.pow_succ, Int.pow_zero, Int.one_mul]; exact Eqm.refl _
  | succ b ih =>
    have h1 := eqm_of_mod (root_facts (a + b) (by omega)).1
    rw [Int.natCast_mul] at h1
    rw [Nat.pow_succ', Int.pow_mul, show ((rootN (a + (b + 1)) : Nat) : Int) ^ 2 = (rootN (a + b + 1) : Int) * (rootN (a + b + 1) : Int) by rw [Int.pow_succ, Int.pow_succ, Int.pow_zero, Int.one_mul]; rfl]
    exact (h1.pow _).trans (ih (by omega))
theorem root_full (k : Nat) (hk : k ≤ 23) : Eqm ((rootN k : Int) ^ 2 ^ k) 1 := by
  have h := root_pow 0 k (by omega)
  rw [Nat.zero_add, root_one.1] at h
  exact h
theorem sumI_grid (f : Nat → Int) (R C : Nat) : sumI f (R * C) = sumI (fun r => sumI (fun c => f (r * C + c)) C) R := by
  induction R with
  | zero => rw [Nat.zero_mul]; rfl
  | succ R ih => rw [Nat.add_mul, Nat.one_mul, sumI_split, ih]; rfl

/-- What forward makes of a grid. -/
def fwdT (ka kb R C : Nat) (x : Nat → Int) : Nat → Int := rowT false kb C (twT (rootN (ka + kb)) C (colT false ka R C x))
def invT (ka kb R C : Nat) (x : Nat → Int) : Nat → Int := colT true ka R C (twT (irootN (ka + kb)) C (rowT true kb C x))

theorem fwd_dft (ka kb R C : Nat) (x : Nat → Int) (hk : ka + kb ≤ 23) (hR : R = 2 ^ ka) (hC : C = 2 ^ kb) (r c : Nat) (hc : c < C) :
    fwdT ka kb R C x (r * C + c) = dft x (rootN (ka + kb)) (R * C) (r + R * c) % 998244353 := by
  have h1 := root_pow ka kb hk
  have h2 := root_pow kb ka (by omega)
  rw [Nat.add_comm kb ka] at h2
  have h3 := root_full (ka + kb) hk
  rw [Nat.pow_add, ← hR, ← hC] at h3
  rw [← hC] at h1
  rw [← hR] at h2
  show chg false kb C _ _ = _
  rw [rc_mod hc, rc_div hc]
  show dft _ (rootN kb) C c % 998244353 = _
  rw [← Eqm.iff_emod]
  have hcol : ∀ j, j < C → Eqm (colT false ka R C x (r * C + j)) (sumI (fun i => x (i * C + j) * (rootN ka : Int) ^ (i * r)) R) := fun j hj => by
    show Eqm (chg false ka R _ _) _
    rw [rc_mod hj, rc_div hj]
    exact Eqm.emod _
  generalize colT false ka R C x = y at *
  generalize (rootN (ka + kb) : Int) = w at *
  generalize (rootN ka : Int) = wa at *
  generalize (rootN kb : Int) = wb at *
  clear hR hC hk
  unfold dft
  rw [sumI_grid, sumI_swap]
  refine sumI_eqm fun j hj => ?_
  have e1 : Eqm (twT w C y (r * C + j)) (sumI (fun i => x (i * C + j) * wa ^ (i * r)) R * w ^ (r * j)) := by
    unfold twT
    rw [rc_div hj, rc_mod hj]
    exact (Eqm.emod _).trans (Eqm.mul (hcol j hj) (Eqm.refl _))
  refine (e1.mul (h2.symm.pow (j * c))).trans ?_
  rw [← sumI_mulr, ← sumI_mulr]
  refine sumI_eqm fun i hi => ?_
  refine (((Eqm.refl (x (i * C + j))).mul (h1.symm.pow (i * r))).mul (Eqm.refl _)).mul (Eqm.refl _) |>.trans ?_
  rw [← Int.pow_mul, ← Int.pow_mul, Int.mul_assoc, Int.mul_assoc, ← Int.pow_add, ← Int.pow_add]
  have e2 : (i * C + j) * (r + R * c) = (C * (i * r) + (r * j + R * (j * c))) + R * C * (i * c) := by grind
  have e4 : w ^ (C * (i * r) + (r * j + R * (j * c)) + R * C * (i * c)) = w ^ (C * (i * r) + (r * j + R * (j * c))) * (w ^ (R * C)) ^ (i * c) := by rw [Int.pow_add, ← Int.pow_mul]
  rw [e2, e4]
  have e3 := (Eqm.refl (w ^ (C * (i * r) + (r * j + R * (j * c))))).mul (h3.pow (i * c))
  rw [Int.one_pow, Int.mul_one] at e3
  exact (Eqm.refl _).mul e3.symm

theorem fwd_bound (ka kb R C : Nat) (x : Nat → Int) (i : Nat) : 0 ≤ fwdT ka kb R C x i ∧ fwdT ka kb R C x i < 998244353 := by unfold fwdT rowT; exact chg_bound _ _ _ _ _
theorem tw_bound (w : Int) (C : Nat) (x : Nat → Int) (i : Nat) : 0 ≤ twT w C x i ∧ twT w C x i < 998244353 := by unfold twT; omega

/-- inverse undoes forward. -/
theorem inv_fwd (ka kb R C : Nat) (x y : Nat → Int) (hka : 1 ≤ ka) (hkb : 1 ≤ kb) (hk : ka + kb ≤ 23) (hR : R = 2 ^ ka) (hC : C = 2 ^ kb) (h : ∀ i, i < R * C → y i = fwdT ka kb R C x i) (i : Nat) (hi : i < R * C) :
    invT ka kb R C y i = x i % 998244353 := by
  have hC0 : 0 < C := by rw [hC]; exact Nat.two_pow_pos kb
  have hrt : Eqm ((rootN (ka + kb) : Int) * (irootN (ka + kb) : Int)) 1 := by
    obtain ⟨m, hm⟩ : ∃ m, ka + kb = m + 1 := ⟨ka + kb - 1, by omega⟩
    rw [hm]; exact root_inv m (by omega)
  have s1 : ∀ i, i < R * C → rowT true kb C y i = twT (rootN (ka + kb)) C (colT false ka R C x) i := fun i hi => by
    have hr : i / C < R := by rw [Nat.div_lt_iff_lt_mul hC0]; exact hi
    have e : rowT true kb C y i = rowT true kb C (fwdT ka kb R C x) i := chg_congr (fun c hc => h _ (rc_lt hr hc)) true kb (i % C)
    rw [e]
    unfold fwdT
    rw [row_back kb C _ i hkb (by omega) hC]
    have := tw_bound (rootN (ka + kb)) C (colT false ka R C x) i
    exact Int.emod_eq_of_lt this.1 this.2
  have s2 : ∀ i, i < R * C → twT (irootN (ka + kb)) C (rowT true kb C y) i = colT false ka R C x i := fun i hi => by
    have e : twT (irootN (ka + kb)) C (rowT true kb C y) i = twT (irootN (ka + kb)) C (twT (rootN (ka + kb)) C (colT false ka R C x)) i := by
      unfold twT; rw [s1 i hi]; rfl
    rw [e, tw_back _ _ hrt]
    have := chg_bound false ka R (fun r => x (r * C + i % C)) (i / C)
    exact Int.emod_eq_of_lt this.1 this.2
  have hc : i % C < C := Nat.mod_lt _ hC0
  have e : invT ka kb R C y i = colT true ka R C (colT false ka R C x) i := chg_congr (fun r hr => s2 _ (rc_lt hr hc)) true ka (i / C)
  rw [e, col_back ka R C x i hka (by omega) hR hC0 hi]

/-! ### Half digits -/
def nib (A : Nat → Int) (la i : Nat) : Int := if i < 2 * la then (if i % 2 = 0 then A (i / 2) % 16 else A (i / 2) / 16) else 0
theorem nib_bound (A : Nat → Int) (la : Nat) (hA : Bytes A la) (i : Nat) : 0 ≤ nib A la i ∧ nib A la i ≤ 15 := by
  unfold nib
  split
  · next h => have := hA (i / 2) (by omega); split <;> omega
  · omega
theorem nib_zero (A : Nat → Int) (la i : Nat) (h : 2 * la ≤ i) : nib A la i = 0 := by unfold nib; rw [if_neg (by omega)]
theorem nib_val (A : Nat → Int) (la : Nat) : evl (nib A la) 16 (2 * la) = val A la := by
  unfold val evl
  rw [sumI_parity, ← sumI_add]
  refine sumI_congr fun i hi => ?_
  have e1 : nib A la (2 * i) = A i % 16 := by unfold nib; rw [if_pos (by omega), if_pos (by omega), show 2 * i / 2 = i by omega]
  have e2 : nib A la (2 * i + 1) = A i / 16 := by unfold nib; rw [if_pos (by omega), if_neg (by omega), show (2 * i + 1) / 2 = i by omega]
  rw [e1, e2, Int.pow_succ, Int.pow_mul, show (16 : Int) ^ 2 = 256 by rfl]
  have := Int.emod_add_mul_ediv (A i) 16
  generalize (256 : Int) ^ i = z at *
  grind

/-- The sums of the products of half digits. -/
def nibC (A B : Nat → Int) (la lb N s : Nat) : Int := cv (nib A la) (nib B lb) (2 * N) s
theorem nibC_zero (A B : Nat → Int) (la lb N s : Nat) (h : 2 * (la + lb) ≤ s + 1) : nibC A B la lb N s = 0 := by
  unfold nibC cv
  rw [sumI_congr (g := fun _ => 0) (fun p _ => ?_), sumI_zero]
  split
  · by_cases hp : 2 * la ≤ p
    · rw [nib_zero A la p hp, Int.zero_mul]
    · rw [nib_zero B lb (s - p) (by omega), Int.mul_zero]
  · rfl
theorem nibC_bound (A B : Nat → Int) (la lb N s : Nat) (hA : Bytes A la) (hB : Bytes B lb) (hN : 2 * la ≤ N) (hla : la ≤ 262144) : 0 ≤ nibC A B la lb N s ∧ nibC A B la lb N s < 998244353 := by
  unfold nibC cv
  rw [sumI_cut (n := 2 * la) (by omega) (fun i h1 _ => by split; · rw [nib_zero A la i h1, Int.zero_mul]
                                                          · rfl)]
  have key : ∀ p, 0 ≤ (if p ≤ s then nib A la p * nib B lb (s - p) else 0) ∧ (if p ≤ s then nib A la p * nib B lb (s - p) else 0) ≤ 225 := fun p => by
    split
    · obtain ⟨a, b⟩ := nib_bound A la hA p
      obtain ⟨c, d⟩ := nib_bound B lb hB (s - p)
      refine ⟨Int.mul_nonneg a c, ?_⟩
      have h1 : nib A la p * nib B lb (s - p) ≤ 15 * nib B lb (s - p) := Int.mul_le_mul_of_nonneg_right b c
      omega
    · exact ⟨by decide, by decide⟩
  have h1 := sumI_nonneg (n := 2 * la) (fun i _ => (key i).1)
  have h2 := sumI_le (n := 2 * la) (fun i _ => (key i).2)
  refine ⟨h1, ?_⟩
  omega
theorem nibC_evl (A B : Nat → Int) (la lb N : Nat) (z : Int) (hN : 2 * (la + lb) ≤ N) : evl (nibC A B la lb N) z N = evl (nib A la) z (2 * la) * evl (nib B lb) z (2 * lb) := by
  have h := evl_cv (nib A la) (nib B lb) z N (fun i hi => nib_zero A la i (by omega)) (fun i hi => nib_zero B lb i (by omega))
  have c1 : evl (nib A la) z (2 * N) = evl (nib A la) z (2 * la) := sumI_cut (by omega) (fun i h1 _ => by rw [nib_zero A la i h1, Int.zero_mul])
  have c2 : evl (nib B lb) z (2 * N) = evl (nib B lb) z (2 * lb) := sumI_cut (by omega) (fun i h1 _ => by rw [nib_zero B lb i h1, Int.zero_mul])
  have c3 : evl (cv (nib A la) (nib B lb) (2 * N)) z (2 * N) = evl (nibC A B la lb N) z N := sumI_cut (by omega) (fun i h1 _ => by
    show nibC A B la lb N i * _ = 0
    rw [nibC_zero A B la lb N i (by omega), Int.zero_mul])
  rw [← c3, h, c1, c2]

/-- The transforms multiplied point by point are the transform of the sums. -/
theorem prod_fwd (ka kb R C la lb : Nat) (A B : Nat → Int) (hk : ka + kb ≤ 23) (hR : R = 2 ^ ka) (hC : C = 2 ^ kb) (hN : 2 * (la + lb) ≤ R * C) (i : Nat) :
    fwdT ka kb R C (nib A la) i * fwdT ka kb R C (nib B lb) i % 998244353 = fwdT ka kb R C (nibC A B la lb (R * C)) i := by
  have hC0 : 0 < C := by rw [hC]; exact Nat.two_pow_pos kb
  have hc : i % C < C := Nat.mod_lt _ hC0
  have ei : i = i / C * C + i % C := by rw [Nat.mul_comm, Nat.div_add_mod]
  rw [ei, fwd_dft ka kb R C _ hk hR hC _ _ hc, fwd_dft ka kb R C _ hk hR hC _ _ hc, fwd_dft ka kb R C _ hk hR hC _ _ hc]
  generalize i / C + R * (i % C) = j
  rw [← Eqm.iff_emod]
  refine ((Eqm.emod _).mul (Eqm.emod _)).trans (Eqm.of_eq ?_)
  rw [dft_evl, dft_evl, dft_evl, nibC_evl A B la lb (R * C) _ hN]
  have c1 : ∀ z, evl (nib A la) z (R * C) = evl (nib A la) z (2 * la) := fun z => sumI_cut (by omega) (fun i h1 _ => by rw [nib_zero A la i h1, Int.zero_mul])
  have c2 : ∀ z, evl (nib B lb) z (R * C) = evl (nib B lb) z (2 * lb) := fun z => sumI_cut (by omega) (fun i h1 _ => by rw [nib_zero B lb i h1, Int.zero_mul])
  rw [c1, c2]

/-- The digits of the sums, two half digits a digit. -/
def pairC (X : Nat → Int) (i : Nat) : Int := X (2 * i) + X (2 * i + 1) * 16
theorem pair_val (A B : Nat → Int) (la lb N : Nat) (hN : 2 * (la + lb) ≤ N) : val (pairC (nibC A B la lb N)) (la + lb) = val A la * val B lb := by
  have e : val (pairC (nibC A B la lb N)) (la + lb) = evl (nibC A B la lb N) 16 (2 * (la + lb)) := by
    unfold val evl
    rw [sumI_parity, ← sumI_add]
    refine sumI_congr fun i hi => ?_
    unfold pairC
    rw [Int.pow_succ, Int.pow_mul, show (16 : Int) ^ 2 = 256 by rfl]
    generalize (256 : Int) ^ i = z at *
    grind
  have c3 : evl (nibC A B la lb N) 16 N = evl (nibC A B la lb N) 16 (2 * (la + lb)) := sumI_cut (by omega) (fun i h1 _ => by rw [nibC_zero A B la lb N i (by omega), Int.zero_mul])
  rw [e, ← c3, nibC_evl A B la lb N 16 hN, nib_val, nib_val]
end Go.Proofs.Ygctag
