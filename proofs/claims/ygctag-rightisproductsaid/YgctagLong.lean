import Derived.Test.YgctagSchool
import Derived.LaidEqlPtr
namespace Go.Proofs.Ygctag
open Go.RowKit
attribute [local go_sem] eql30 neq30

/-- A number cut into blocks. -/
theorem blk_val (A : Nat → Int) (la h : Nat) (z : Int) (c : Nat) (hc : la ≤ c * h) : evl (fun i => evl (blk A la h i) z (2 * h)) (z ^ h) c = evl A z la := by
  have e1 : ∀ i, evl (blk A la h i) z (2 * h) = sumI (fun p => (if i * h + p < la then A (i * h + p) else 0) * z ^ p) h := fun i => by
    unfold evl
    rw [sumI_cut (n := h) (by omega) (fun p h1 _ => by rw [blk_zero A la h i p h1, Int.zero_mul])]
    refine sumI_congr fun p hp => ?_
    unfold blk
    by_cases hx : i * h + p < la
    · rw [if_pos ⟨hp, hx⟩, if_pos hx]
    · rw [if_neg (by omega), if_neg hx]
  have e2 : ∀ c, evl (fun i => evl (blk A la h i) z (2 * h)) (z ^ h) c = sumI (fun t => (if t < la then A t else 0) * z ^ t) (c * h) := by
    intro c
    induction c with
    | zero => rw [Nat.zero_mul]; rfl
    | succ c ih =>
      show evl (fun i => evl (blk A la h i) z (2 * h)) (z ^ h) c + evl (blk A la h c) z (2 * h) * (z ^ h) ^ c = _
      rw [ih, Nat.add_mul, Nat.one_mul, sumI_split, e1, ← sumI_mulr]
      congr 1
      refine sumI_congr fun p _ => ?_
      rw [← Int.pow_mul, Nat.mul_comm h c, Int.pow_add, Int.mul_assoc, Int.mul_comm (z ^ p)]
  rw [e2, sumI_cut (n := la) hc (fun i h1 _ => by rw [if_neg (by omega), Int.zero_mul])]
  unfold evl
  exact sumI_congr fun i hi => by rw [if_pos hi]

theorem wide_small (la lb K : Nat) (h : la + lb ≤ 65536) (hK : 2 * (la + lb) ≤ K) (h0 : 0 < la + lb) : la * lb < 10000 * K := by
  have h1 : 4 * (la * lb) ≤ (la + lb) * (la + lb) := by
    have key : ∀ a d : Nat, 4 * (a * (a + d)) ≤ (a + (a + d)) * (a + (a + d)) := by
      intro a d
      have : (a + (a + d)) * (a + (a + d)) = 4 * (a * (a + d)) + d * d := by grind
      omega
    rcases Nat.le_total la lb with hh | hh
    · obtain ⟨d, rfl⟩ : ∃ d, lb = la + d := ⟨lb - la, by omega⟩
      exact key la d
    · obtain ⟨d, rfl⟩ : ∃ d, la = lb + d := ⟨la - lb, by omega⟩
      have := key lb d
      rw [Nat.mul_comm (lb + d) lb, Nat.add_comm (lb + d) lb]
      exact this
  have h2 : (la + lb) * (la + lb) ≤ 65536 * (la + lb) := Nat.mul_le_mul_right _ h
  omega

set_option maxHeartbeats 2000000 in
theorem wideLog_small (la lb : Nat) (h : la + lb ≤ 65536) (h0 : 0 < la + lb) (w : World) : Calls Tagg.prog 90 #[.int .i64 la, .int .i64 lb] w fun e w' => e = .returned (.int .u8 0) ∧ w' = w := by
  have i1 : (la : Int) ≤ 1048576 := by omega
  have i2 : (lb : Int) ≤ 1048576 := by omega
  have v1 : IntKind.i64.wrap ((la : Int) + (lb : Int)) = (la : Int) + (lb : Int) := IntWalk.i64_in _ ⟨by omega, by omega⟩
  have v2 : IntKind.i64.wrap (2 * ((la : Int) + (lb : Int))) = 2 * ((la : Int) + (lb : Int)) := IntWalk.i64_in _ ⟨by omega, by omega⟩
  go_enter Tagg.func90, Tagg.ntmps90
  go_wp2_with fail
  go_loopw [5] (fun vk wr => ∃ k : Nat, 1 ≤ k ∧ k ≤ 18 ∧ vk = .int .u8 (k : Int) ∧ (k = 1 ∨ 2 ^ (k - 1) < 2 * (la + lb)) ∧ wr = w) (fun vk _ => 20 - (intOf vk).toNat)
  case atStart => exact ⟨1, by omega, by omega, rfl, .inl rfl, rfl⟩
  case round =>
    obtain ⟨k, hk1, hk2, rfl, hk3, rfl⟩ := hrel
    have h2k : ((2 ^ k : Nat) : Int) = (2 : Int) ^ k := Int.natCast_pow 2 k
    obtain ⟨Z, hZ⟩ : ∃ Z, Z = 2 ^ k := ⟨_, rfl⟩
    rw [← hZ] at h2k
    have hZle : Z ≤ 262144 := by rw [hZ]; exact Nat.le_trans (Nat.pow_le_pow_right (by decide) hk2) (by decide)
    have e1 : (2 : Int) ^ k = (Z : Int) := h2k.symm
    have v5 : IntKind.i64.wrap (Z : Int) = (Z : Int) := IntWalk.i64_in _ ⟨by omega, by omega⟩
    have k1 : (k : Int) ≤ 64 := by omega
    by_cases hlt : Z < 2 * (la + lb)
    · have hk18 : k < 18 := by
        by_cases h18 : k = 18
        · subst h18; rw [hZ] at hlt; omega
        · omega
      have j1 : (Z : Int) < 2 * ((la : Int) + (lb : Int)) := by omega
      have hn : Hid (2 ^ (k + 1 - 1) < 2 * (la + lb)) := by show 2 ^ (k + 1 - 1) < _; rw [Nat.add_sub_cancel, ← hZ]; exact hlt
      clear hk3 h2k hZ
      go_wp2
      go_roundw
      case rel => exact ⟨k + 1, by omega, by omega, by go_num, .inr hn.out, by trivial⟩
      case measure => simp [intOf]; omega
    · have j1 : 2 * ((la : Int) + (lb : Int)) ≤ (Z : Int) := by omega
      have hw := wide_small la lb Z h (by omega) h0
      obtain ⟨M, hM⟩ : ∃ M, M = la * lb := ⟨_, rfl⟩
      rw [← hM] at hw
      have e2 : (la : Int) * (lb : Int) = (M : Int) := by rw [hM, Int.natCast_mul]
      have e3 : (M : Int) < 10000 * (Z : Int) := by omega
      have v6 : IntKind.u64.wrap (M : Int) = (M : Int) := IntWalk.u64_in _ ⟨by omega, by omega⟩
      have v7 : IntKind.u64.wrap (10000 * (Z : Int)) = 10000 * (Z : Int) := IntWalk.u64_in _ ⟨by omega, by omega⟩
      have k2 : (k : Int) ≤ 22 := by omega
      clear hk3 h2k hZ hM hw
      go_wp2
      go_ret
      exact ⟨rfl, rfl⟩

theorem sameMem_len (a b : Option Addr) (la lb ca cb : Nat) (w : World) (h : la ≠ lb) : Calls Tagg.prog 93 #[.slice a la ca, .slice b lb cb] w fun e w' => e = .returned (.bool false) ∧ ∃ q, w' = w.drewN q := by
  have h1 : ((la : Int) == (lb : Int)) = false := by simp; omega
  go_enter Tagg.func93, Tagg.ntmps93
  go_wp2
  go_quiet (fail)
  go_wp2
  go_ret
  exact ⟨rfl, _, rfl⟩

theorem info5_some : ∃ j, Tagg.prog.info? 5 = some j ∧ j.size ≠ 0 := by
  have h : (Tagg.prog.info? 5).map (·.size) = some 1 := by kernel_rfl
  cases hi : Tagg.prog.info? 5 with
  | none => rw [hi] at h; cases h
  | some j => rw [hi] at h; exact ⟨j, rfl, by simp at h; omega⟩

theorem sameMem_blk (g1 g2 o1 o2 l c1 c2 n1 n2 : Nat) (f1 f2 : Nat → Value) (w : World) (h : g1 ≠ g2) (hl : 0 < l) (hr1 : w.rowIs g1 5 n1 f1) (hr2 : w.rowIs g2 5 n2 f2) : Calls Tagg.prog 93 #[.slice (some ⟨g1, o1, none⟩) l c1, .slice (some ⟨g2, o2, none⟩) l c2] w fun e w' => e = .returned (.bool false) ∧ ∃ q, w' = w.drewN q := by
  have h1 : (0 : Int) < l := by omega
  obtain ⟨j, hj, hj0⟩ := info5_some
  obtain ⟨ca, hca, -⟩ := hr1
  obtain ⟨cb, hcb, -⟩ := hr2
  have heq : ∀ d, (binOp .eql 132 (.pointer (some ⟨g1, o1, none⟩)) (.pointer (some ⟨g2, o2, none⟩))).run Tagg.prog (w.drewN d) = .ok (.bool false) (w.drewN d) := fun d =>
    run_eql_ptr_other (w.drewN d) Tagg.underlying132 hj hj0 (by intro e; cases e; exact h rfl) hca hcb
  have heq1 := heq 1
  go_enter Tagg.func93, Tagg.ntmps93
  go_wp2
  go_quiet (fail)
  go_wp2
  go_ret
  exact ⟨rfl, _, rfl⟩

theorem sameMem_same (g o l c1 c2 : Nat) (w : World) (hl : 0 < l) : Calls Tagg.prog 93 #[.slice (some ⟨g, o, none⟩) l c1, .slice (some ⟨g, o, none⟩) l c2] w fun e w' => e = .returned (.bool true) ∧ ∃ q, w' = w.drewN q := by
  have h1 : (0 : Int) < l := by omega
  obtain ⟨j, hj, hj0⟩ := info5_some
  have heq : ∀ W, (binOp .eql 132 (.pointer (some ⟨g, o, none⟩)) (.pointer (some ⟨g, o, none⟩))).run Tagg.prog W = .ok (.bool true) W := fun W =>
    run_eql_ptr_same W _ Tagg.underlying132 hj
  go_enter Tagg.func93, Tagg.ntmps93
  go_wp2
  go_quiet (fail)
  go_wp2
  go_ret
  exact ⟨rfl, _, rfl⟩
end Go.Proofs.Ygctag
