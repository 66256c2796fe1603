import Derived.Test.YgctagCwJ
namespace Go.Proofs.Ygctag
open Go.RowKit
attribute [local go_sem] run_store_complex run_neg_float

def rawAt (Z : Nat → Cb) (n q j : Nat) : Cb := if j < q then ((Z j).1, 0) else if n ≤ j ∧ j < n + q then (Op.negFloat .f64 (Z (j - n)).2, 0) else (0, 0)
theorem rawAt_zero (Z : Nat → Cb) (n j : Nat) : rawAt Z n 0 j = (0, 0) := by unfold rawAt; rw [if_neg (by omega), if_neg (by omega)]
theorem rawAt_all (Z : Nat → Cb) (n j : Nat) (h : j < 2 * n) : rawAt Z n n j = rawB Z n j := by
  unfold rawAt rawB
  by_cases h1 : j < n
  · rw [if_pos h1, if_pos h1]
  · rw [if_neg h1, if_neg h1, if_pos (by omega)]
theorem rawAt_step (Z : Nat → Cb) (n q j : Nat) (hq : q < n) : updC (updC (rawAt Z n q) q ((Z q).1, 0)) (q + n) (Op.negFloat .f64 (Z q).2, 0) j = rawAt Z n (q + 1) j := by
  unfold updC rawAt
  by_cases h1 : j = q + n
  · subst h1
    rw [if_pos rfl, if_neg (by omega), if_pos (by omega), show q + n - n = q by omega]
  · rw [if_neg h1]
    by_cases h2 : j = q
    · subst h2; rw [if_pos rfl, if_pos (by omega)]
    · rw [if_neg h2]
      by_cases h3 : j < q
      · rw [if_pos h3, if_pos (by omega)]
      · rw [if_neg h3, if_neg (show ¬ j < q + 1 by omega)]
        by_cases h4 : n ≤ j ∧ j < n + q
        · rw [if_pos h4, if_pos (by omega)]
        · rw [if_neg h4, if_neg (by omega)]

theorem convR_bad (a b : Option Addr) (la lb ca cb : Nat) (A B : Nat → Int) (w : World) (hla : la ≤ 1000000) (hlb : lb ≤ 1000000) (hA : ∀ i, i < la → -2147483648 ≤ A i ∧ A i ≤ 2147483647) (hB : ∀ i, i < lb → -2147483648 ≤ B i ∧ B i ≤ 2147483647)
    (ha : Sl w a la fun i => .int .i32 (A i)) (hb : Sl w b lb fun i => .int .i32 (B i)) (h : ¬ balB A la ∨ ¬ balB B lb) :
    Calls Tagg.prog 15 #[.slice a la ca, .slice b lb cb] w fun e w' => e = .returned (.tuple #[.slice none 0 0, .bool false]) ∧ w' = w := by
  by_cases h1 : balB A la
  · have t1 := tooMuch57 a la ca A w hla hA ha false (by simp [h1])
    have h2 : ¬ balB B lb := by
      rcases h with h | h
      · exact absurd h1 h
      · exact h
    have t2 := tooMuch57 b lb cb B w hlb hB hb true (by simp [h2])
    clear ha hb hA hB
    go_enter Tagg.func15, Tagg.ntmps15
    go_wp2_with fail
    with_reducible refine t1.mono ?_
    rintro e w1 ⟨rfl, rfl⟩
    go_wp2_with fail
    with_reducible refine t2.mono ?_
    rintro e w1 ⟨rfl, rfl⟩
    go_wp2
    go_ret2
    exact ⟨rfl, rfl⟩
  · have t1 := tooMuch57 a la ca A w hla hA ha true (by simp [h1])
    clear ha hb hA hB
    go_enter Tagg.func15, Tagg.ntmps15
    go_wp2_with fail
    with_reducible refine t1.mono ?_
    rintro e w1 ⟨rfl, rfl⟩
    go_wp2
    go_ret2
    exact ⟨rfl, rfl⟩
theorem convR_empty (a b : Option Addr) (la lb ca cb : Nat) (A B : Nat → Int) (w : World) (hla : la ≤ 1000000) (hlb : lb ≤ 1000000) (hA : ∀ i, i < la → -2147483648 ≤ A i ∧ A i ≤ 2147483647) (hB : ∀ i, i < lb → -2147483648 ≤ B i ∧ B i ≤ 2147483647)
    (ha : Sl w a la fun i => .int .i32 (A i)) (hb : Sl w b lb fun i => .int .i32 (B i)) (h1 : balB A la) (h2 : balB B lb) (h : la = 0 ∨ lb = 0) :
    Calls Tagg.prog 15 #[.slice a la ca, .slice b lb cb] w fun e w' => e = .returned (.tuple #[.slice none 0 0, .bool true]) ∧ w' = w := by
  have t1 := tooMuch57 a la ca A w hla hA ha false (by simp [h1])
  have t2 := tooMuch57 b lb cb B w hlb hB hb false (by simp [h2])
  clear ha hb hA hB h1 h2
  by_cases h0 : la = 0
  · have i1 : ((la : Int) == 0) = true := by simp; omega
    clear h h0
    go_enter Tagg.func15, Tagg.ntmps15
    go_wp2_with fail
    with_reducible refine t1.mono ?_
    rintro e w1 ⟨rfl, rfl⟩
    go_wp2_with fail
    with_reducible refine t2.mono ?_
    rintro e w1 ⟨rfl, rfl⟩
    go_wp2
    go_ret2
    exact ⟨rfl, rfl⟩
  · have i1 : ((la : Int) == 0) = false := by simp; omega
    have i2 : ((lb : Int) == 0) = true := by simp; omega
    clear h h0
    go_enter Tagg.func15, Tagg.ntmps15
    go_wp2_with fail
    with_reducible refine t1.mono ?_
    rintro e w1 ⟨rfl, rfl⟩
    go_wp2_with fail
    with_reducible refine t2.mono ?_
    rintro e w1 ⟨rfl, rfl⟩
    go_wp2
    go_ret2
    exact ⟨rfl, rfl⟩
end Go.Proofs.Ygctag
