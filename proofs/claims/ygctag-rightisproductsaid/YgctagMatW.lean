import Derived.Test.YgctagBase
namespace Go.Proofs.Ygctag
open Go.RowKit

/-- A matrix as a value. -/
def matV (r c s : Int) (a : Option Addr) (n cap : Nat) : Value := .agg #[.int .i64 r, .int .i64 c, .int .i64 s, .slice a n cap]

/-- What 'Sound' answers. -/
def soundB (r c s : Int) (n : Nat) : Bool :=
  decide (0 ≤ r ∧ 0 ≤ c ∧ r ≤ 512 ∧ c ≤ 512 ∧ c ≤ s ∧ (r = 0 ∨ c = 0 ∨ ((1 < r → s ≤ n) ∧ (r - 1) * s + c ≤ n)))

theorem soundB_no {r c s : Int} {n : Nat} (h : ¬ (0 ≤ r ∧ 0 ≤ c ∧ r ≤ 512 ∧ c ≤ 512 ∧ c ≤ s)) : soundB r c s n = false := by
  unfold soundB; apply decide_eq_false; rintro ⟨a, b, c, d, e, _⟩; exact h ⟨a, b, c, d, e⟩

set_option maxRecDepth 100000 in
set_option maxHeartbeats 1000000 in
theorem sound_any (r c s : Int) (a : Option Addr) (n cap : Nat) (w : World) (hn : n ≤ 140737488355328) :
    Calls Tagg.prog 42 #[matV r c s a n cap] w fun e w' => e = .returned (.bool (soundB r c s n)) ∧ Below w.heap.size w w' := by
  unfold matV
  have hB : ∀ o, Below w.heap.size w (w.alloc o) := fun o => (Below.refl _ _).alloc (Nat.le_refl _) o
  by_cases h1 : 0 ≤ r ∧ 0 ≤ c ∧ r ≤ 512 ∧ c ≤ 512 ∧ c ≤ s
  · obtain ⟨h1, h2, h3, h4, h5⟩ := h1
    by_cases h6 : r = 0
    · have H : Hid (soundB r c s n = true) := decide_eq_true ⟨h1, h2, h3, h4, h5, .inl h6⟩
      subst h6
      go_enter Tagg.func42, Tagg.ntmps42
      go_wp2
      go_ret
      exact ⟨by rw [H.out]; rfl, hB _⟩
    · by_cases h7 : c = 0
      · have H : Hid (soundB r c s n = true) := decide_eq_true ⟨h1, h2, h3, h4, h5, .inr (.inl h7)⟩
        subst h7
        have h6' : (r == 0) = false := by simpa using h6
        clear h6
        go_enter Tagg.func42, Tagg.ntmps42
        go_wp2
        go_ret
        exact ⟨by rw [H.out]; rfl, hB _⟩
      · have h6' : (r == 0) = false := by simpa using h6
        have h7' : (c == 0) = false := by simpa using h7
        by_cases h8 : 1 < r ∧ n < s
        · have H : Hid (soundB r c s n = false) := decide_eq_false (by rintro ⟨_, _, _, _, _, h | h | ⟨h, _⟩⟩ <;> omega)
          obtain ⟨h8, h9⟩ := h8
          clear h6 h7
          go_enter Tagg.func42, Tagg.ntmps42
          go_wp2
          go_ret
          exact ⟨by rw [H.out]; rfl, hB _⟩
        · have H : Hid (soundB r c s n = decide ((r - 1) * s + c ≤ n)) := by
            show soundB r c s n = _
            unfold soundB
            by_cases h : (r - 1) * s + c ≤ n
            · rw [decide_eq_true h]; exact decide_eq_true ⟨h1, h2, h3, h4, h5, .inr (.inr ⟨fun _ => by omega, h⟩)⟩
            · rw [decide_eq_false h]; apply decide_eq_false; rintro ⟨_, _, _, _, _, hh | hh | ⟨_, hh⟩⟩ <;> omega
          have hp : 0 ≤ (r - 1) * s ∧ (r - 1) * s ≤ 511 * 140737488355328 := by
            by_cases hr : 1 < r
            · have h9 : s ≤ 140737488355328 := by omega
              constructor
              · exact Int.mul_nonneg (by omega) (by omega)
              · exact Int.mul_le_mul (by omega) h9 (by omega) (by omega)
            · have : r = 1 := by omega
              subst this
              simp
          obtain ⟨hp1, hp2⟩ := hp
          by_cases hr : 1 < r
          · have h9 : s ≤ n := by omega
            clear h6 h7 h8
            go_enter Tagg.func42, Tagg.ntmps42
            go_wp2
            go_ret
            exact ⟨by rw [H.out]; rfl, hB _⟩
          · have : r = 1 := by omega
            subst this
            clear h6 h7 h8
            go_enter Tagg.func42, Tagg.ntmps42
            go_wp2
            go_ret
            exact ⟨by rw [H.out]; simp, hB _⟩
  · have H : Hid (soundB r c s n = false) := soundB_no h1
    by_cases h2 : r < 0
    · clear h1
      go_enter Tagg.func42, Tagg.ntmps42
      go_wp2
      go_ret
      exact ⟨by rw [H.out]; rfl, hB _⟩
    · by_cases h3 : c < 0
      · clear h1
        go_enter Tagg.func42, Tagg.ntmps42
        go_wp2
        go_ret
        exact ⟨by rw [H.out]; rfl, hB _⟩
      · by_cases h4 : 512 < r
        · clear h1
          go_enter Tagg.func42, Tagg.ntmps42
          go_wp2
          go_ret
          exact ⟨by rw [H.out]; rfl, hB _⟩
        · by_cases h5 : 512 < c
          · clear h1
            go_enter Tagg.func42, Tagg.ntmps42
            go_wp2
            go_ret
            exact ⟨by rw [H.out]; rfl, hB _⟩
          · have h6 : s < c := by omega
            clear h1
            go_enter Tagg.func42, Tagg.ntmps42
            go_wp2
            go_ret
            exact ⟨by rw [H.out]; rfl, hB _⟩
end Go.Proofs.Ygctag
