import Derived.Test.YgctagMatW
namespace Go.Proofs.Ygctag
open Go.RowKit

theorem ret_slice {a : Option Addr} {n m : Nat} (h : n = m) : Ending.returned (.slice a n n) = .returned (.slice a m m) := by rw [h]

theorem Tagg.info46 : (Tagg.prog.info? 46).map (fun i => (i.zero, i.size, i.bytes)) = some (some (.float .f64 0), 1, 8) := by kernel_rfl

set_option maxRecDepth 100000 in
set_option maxHeartbeats 1000000 in
theorem new_ok (r c : Nat) (hr : r ≤ 512) (hc : c ≤ 512) (w : World) :
    Calls Tagg.prog 49 #[.int .i64 r, .int .i64 c] w fun e w' => ∃ g, e = .returned (.tuple #[matV r c c (some ⟨g, 0, none⟩) (r * c) (r * c), .bool true]) ∧ w.heap.size ≤ g ∧ w'.rowIs g 46 (r * c) (fun _ => .float .f64 0) ∧ Below w.heap.size w w' := by
  have hp : r * c ≤ 512 * 512 := Nat.mul_le_mul hr hc
  have hp' : (r : Int) * (c : Int) ≤ 262144 := by have : ((r * c : Nat) : Int) ≤ 262144 := by omega
                                                  simpa using this
  have hp0 : 0 ≤ (r : Int) * (c : Int) := Int.mul_nonneg (by omega) (by omega)
  have hmk := run_make_row' (P := Tagg.prog) 65 46 (.float .f64 0) 8 Tagg.underlying65 Tagg.info46 rfl .i64 .i64 (r * c) (by omega) (by omega)
  rw [show ((r * c : Nat) : Int) = (r : Int) * (c : Int) by simp] at hmk
  go_enter Tagg.func49, Tagg.ntmps49
  go_wp2
  refine bodyPost_ret (v := .tuple #[matV r c c (some ⟨w.heap.size + 1, 0, none⟩) (r * c) (r * c), .bool true]) (by simp [results, Tagg.results49, go_sem, matV]) rfl ⟨w.heap.size + 1, rfl, by omega, ?_, ?_⟩
  · exact made_at (by simp) _ _ _
  · exact ((Below.refl _ _).alloc (Nat.le_refl _) _).alloc (by simp) _

set_option maxRecDepth 100000 in
set_option maxHeartbeats 1000000 in
theorem new_bad (r c : Int) (h : ¬ (0 ≤ r ∧ 0 ≤ c ∧ r ≤ 512 ∧ c ≤ 512)) (w : World) :
    Calls Tagg.prog 49 #[.int .i64 r, .int .i64 c] w fun e w' => e = .returned (.tuple #[matV 0 0 0 none 0 0, .bool false]) ∧ Below w.heap.size w w' := by
  by_cases h2 : r < 0
  · clear h
    go_enter Tagg.func49, Tagg.ntmps49
    go_wp2
    exact bodyPost_ret (v := .tuple #[matV 0 0 0 none 0 0, .bool false]) (by simp [results, Tagg.results49, go_sem, matV]) rfl ⟨rfl, (Below.refl _ _).alloc (Nat.le_refl _) _⟩
  · by_cases h3 : c < 0
    · clear h
      go_enter Tagg.func49, Tagg.ntmps49
      go_wp2
      exact bodyPost_ret (v := .tuple #[matV 0 0 0 none 0 0, .bool false]) (by simp [results, Tagg.results49, go_sem, matV]) rfl ⟨rfl, (Below.refl _ _).alloc (Nat.le_refl _) _⟩
    · by_cases h4 : 512 < r
      · clear h
        go_enter Tagg.func49, Tagg.ntmps49
        go_wp2
        exact bodyPost_ret (v := .tuple #[matV 0 0 0 none 0 0, .bool false]) (by simp [results, Tagg.results49, go_sem, matV]) rfl ⟨rfl, (Below.refl _ _).alloc (Nat.le_refl _) _⟩
      · have h5 : 512 < c := by omega
        clear h
        go_enter Tagg.func49, Tagg.ntmps49
        go_wp2
        exact bodyPost_ret (v := .tuple #[matV 0 0 0 none 0 0, .bool false]) (by simp [results, Tagg.results49, go_sem, matV]) rfl ⟨rfl, (Below.refl _ _).alloc (Nat.le_refl _) _⟩

set_option maxRecDepth 100000 in
set_option maxHeartbeats 1000000 in
theorem row_in (r c s i : Nat) (b off n cap : Nat) (w : World) (hn : n ≤ 140737488355328) (hcap : n ≤ cap) (hs : soundB r c s n = true) (hi : i < r) (hc : 0 < c) :
    Calls Tagg.prog 48 #[matV r c s (some ⟨b, off, none⟩) n cap, .int .i64 i] w fun e w' => e = .returned (.slice (some ⟨b, off + i * s, none⟩) c c) ∧ Below w.heap.size w w' := by
  have hs' := of_decide_eq_true hs
  have hq : i * s + c ≤ n := by
    obtain ⟨_, _, _, _, _, h | h | ⟨h1, h2⟩⟩ := hs'
    · omega
    · omega
    · have h3 : ((r - 1) * s : Nat) + c ≤ n := by
        have : (((r - 1) * s : Nat) : Int) + c ≤ n := by
          rw [Int.natCast_mul, Int.natCast_sub (by omega)]; exact h2
        omega
      have : i * s ≤ (r - 1) * s := Nat.mul_le_mul_right s (by omega)
      omega
  have hq1 : (i : Int) * (s : Int) + c ≤ n := by
    have : ((i * s : Nat) : Int) + c ≤ n := by omega
    rwa [Int.natCast_mul] at this
  have hq0 : 0 ≤ (i : Int) * (s : Int) := Int.mul_nonneg (by omega) (by omega)
  have hc0 : ((c : Int) == 0) = false := by simp; omega
  clear hs'
  have hS := fun w => sound_any r c s (some ⟨b, off, none⟩) n cap w hn
  unfold matV at hS ⊢
  rw [hs] at hS
  go_enter Tagg.func48, Tagg.ntmps48
  go_wp2_with fail
  refine (hS _).mono ?_
  rintro e w1 ⟨rfl, hb1⟩
  obtain ⟨hc1, hf1⟩ := bcell hb1
  go_wp2
  go_quiet (fail)
  go_wp2
  go_ret
  exact ⟨ret_slice (by omega), below_draws (((Below.refl _ _).alloc (Nat.le_refl _) _).trans (hb1.mono (by simp))) nq⟩

set_option maxRecDepth 100000 in
set_option maxHeartbeats 2000000 in
theorem row_out (r c s i : Int) (a : Option Addr) (n cap : Nat) (w : World) (hn : n ≤ 140737488355328) (h : ¬ (0 ≤ i ∧ i < r ∧ c ≠ 0 ∧ soundB r c s n = true)) :
    Calls Tagg.prog 48 #[matV r c s a n cap, .int .i64 i] w fun e w' => e = .returned (.slice none 0 0) ∧ Below w.heap.size w w' := by
  have hS := fun w => sound_any r c s a n cap w hn
  have hB : ∀ o, Below w.heap.size w (w.alloc o) := fun o => (Below.refl _ _).alloc (Nat.le_refl _) o
  unfold matV at hS ⊢
  by_cases h1 : i < 0
  · clear h hS
    go_enter Tagg.func48, Tagg.ntmps48
    go_wp2
    go_ret
    exact ⟨rfl, hB _⟩
  · by_cases h2 : r ≤ i
    · clear h hS
      go_enter Tagg.func48, Tagg.ntmps48
      go_wp2
      go_ret
      exact ⟨rfl, hB _⟩
    · by_cases h3 : c = 0
      · subst h3
        clear h hS
        go_enter Tagg.func48, Tagg.ntmps48
        go_wp2
        go_ret
        exact ⟨rfl, hB _⟩
      · have h4 : soundB r c s n = false := by
          cases hh : soundB r c s n
          · rfl
          · exact absurd ⟨by omega, by omega, h3, hh⟩ h
        have h3' : (c == 0) = false := by simpa using h3
        rw [h4] at hS
        clear h h3 h4
        go_enter Tagg.func48, Tagg.ntmps48
        go_wp2_with fail
        refine (hS _).mono ?_
        rintro e w1 ⟨rfl, hb1⟩
        go_wp2
        go_ret
        exact ⟨rfl, (hB _).trans (hb1.mono (by simp))⟩

def fitsB (r1 c1 s1 : Int) (n1 : Nat) (r2 c2 s2 : Int) (n2 : Nat) : Bool := soundB r1 c1 s1 n1 && soundB r2 c2 s2 n2 && (c1 == r2)

set_option maxRecDepth 100000 in
set_option maxHeartbeats 2000000 in
theorem fits_any (r1 c1 s1 : Int) (a1 : Option Addr) (n1 cap1 : Nat) (r2 c2 s2 : Int) (a2 : Option Addr) (n2 cap2 : Nat) (w : World) (hn1 : n1 ≤ 140737488355328) (hn2 : n2 ≤ 140737488355328) :
    Calls Tagg.prog 84 #[matV r1 c1 s1 a1 n1 cap1, matV r2 c2 s2 a2 n2 cap2] w fun e w' => e = .returned (.bool (fitsB r1 c1 s1 n1 r2 c2 s2 n2)) ∧ Below w.heap.size w w' := by
  have hS1 := fun w => sound_any r1 c1 s1 a1 n1 cap1 w hn1
  have hS2 := fun w => sound_any r2 c2 s2 a2 n2 cap2 w hn2
  unfold matV at hS1 hS2 ⊢
  cases h1 : soundB r1 c1 s1 n1
  · have H : Hid (fitsB r1 c1 s1 n1 r2 c2 s2 n2 = false) := by show fitsB _ _ _ _ _ _ _ _ = _; simp [fitsB, h1]
    rw [h1] at hS1
    clear h1 hS2
    go_enter Tagg.func84, Tagg.ntmps84
    go_wp2_with fail
    refine (hS1 _).mono ?_
    rintro e w1 ⟨rfl, hb1⟩
    go_wp2
    go_ret
    exact ⟨by rw [H.out]; rfl, (((Below.refl _ _).alloc (Nat.le_refl _) _).alloc (by simp) _).trans (hb1.mono (by simp; omega))⟩
  · cases h2 : soundB r2 c2 s2 n2
    · have H : Hid (fitsB r1 c1 s1 n1 r2 c2 s2 n2 = false) := by show fitsB _ _ _ _ _ _ _ _ = _; simp [fitsB, h2]
      rw [h1] at hS1
      rw [h2] at hS2
      clear h1 h2
      go_enter Tagg.func84, Tagg.ntmps84
      go_wp2_with fail
      refine (hS1 _).mono ?_
      rintro e w1 ⟨rfl, hb1⟩
      obtain ⟨hc1, hf1⟩ := bcell hb1
      go_wp2_with fail
      refine (hS2 _).mono ?_
      rintro e w2 ⟨rfl, hb2⟩
      go_wp2
      go_ret
      exact ⟨by rw [H.out]; rfl, ((((Below.refl _ _).alloc (Nat.le_refl _) _).alloc (by simp) _).trans (hb1.mono (by simp; omega))).trans (hb2.mono (by have := hb1.size; simp at this; omega))⟩
    · have H : Hid (fitsB r1 c1 s1 n1 r2 c2 s2 n2 = (c1 == r2)) := by show fitsB _ _ _ _ _ _ _ _ = _; simp [fitsB, h1, h2]
      rw [h1] at hS1
      rw [h2] at hS2
      clear h1 h2
      go_enter Tagg.func84, Tagg.ntmps84
      go_wp2_with fail
      refine (hS1 _).mono ?_
      rintro e w1 ⟨rfl, hb1⟩
      obtain ⟨hc1, hf1⟩ := bcell hb1
      have hz : w.heap.size + 1 < w1.heap.size := by have := hb1.size; simp at this; omega
      have hz0 : w.heap.size < w1.heap.size := by omega
      go_wp2_with fail
      refine (hS2 _).mono ?_
      rintro e w2 ⟨rfl, hb2⟩
      obtain ⟨hc2, hf2⟩ := bcell hb2
      go_wp2
      go_ret
      exact ⟨by rw [H.out]; rfl, ((((Below.refl _ _).alloc (Nat.le_refl _) _).alloc (by simp) _).trans (hb1.mono (by simp; omega))).trans (hb2.mono (by have := hb1.size; simp at this; omega))⟩
end Go.Proofs.Ygctag
