import Derived.Test.YgctagRpB
namespace Go.Proofs.Ygctag
open Go.RowKit

theorem NatOwn.slN {w : World} {B : Nat} {v : Value} {V : Int} (h : NatOwn w B v V) (N : Nat) (hV : V < P8 N) : ∃ (a : Option Addr) (n : Nat), v = .slice a n n ∧ n ≤ N ∧ V < P8 n ∧ Sl w a n (fun i => .int .u8 (dg8 V i)) ∧ val (dg8 V) n = V := by
  obtain ⟨g, n, N', hB, rfl, hl, hr, hnN⟩ := h
  have hn := hl.le hV
  by_cases h0 : n = 0
  · subst h0
    exact ⟨none, 0, rfl, by omega, hl.2.1, Sl.zero _ _ _, dg8_val hl.1 hl.2.1⟩
  · exact ⟨some ⟨g, 0, none⟩, n, cutV_pos h0, hn, hl.2.1, (Sl.of_row (hr (by omega))).take hnN, dg8_val hl.1 hl.2.1⟩

theorem takeOwn18 (a : Option Addr) (n c : Nat) (z : Nat → Int) (w : World) (hn : n ≤ c) (hc : c ≤ 9223372036854775807) (hn2 : n ≤ 1022) (hz : Bytes z n) (h : Sl w a n fun i => .int .u8 (z i)) :
    Calls Tagg.prog 18 #[.slice a n c] w fun e w' => ∃ v, e = .returned v ∧ NatOwn w' w.heap.size v (val z n) ∧ Below w.heap.size w w' := by
  refine (take_any a n c z w hn hc h).mono ?_
  rintro e w' ⟨g, rfl, hg, hr, hb⟩
  have ht : takeLen z n = trimLen z n := by unfold takeLen; rw [Nat.min_eq_left (by omega)]
  rw [ht] at hr ⊢
  have hl := lenIs_trim hz
  have htl := trimLen_le z n
  refine ⟨_, rfl, ⟨g, trimLen z n, trimLen z n, hg, rfl, hl, fun h0 => (hr h0).congr fun i hi => ?_, Nat.le_refl _⟩, hb⟩
  rw [val_digit hz i (by omega)]

/-- Balance of the words of V. -/
theorem balance_any (g L : Nat) (V : Int) (w : World) (hL : L ≤ 511) (h0 : 0 ≤ V) (hV : V < P16 L) (hr : w.rowIs g 49 L (fun i => .int .u16 (dg16 V i))) :
    Calls Tagg.prog 20 #[.slice (some ⟨g, 0, none⟩) L L] w fun e w' => ∃ (pa : Option Addr) (lp : Nat) (P : Nat → Int), e = .returned (.slice pa lp lp) ∧ lp ≤ 512 ∧ (∀ i, i < lp → -32768 ≤ P i ∧ P i < 32768) ∧ sum16 P lp = V ∧ Sl w' pa lp (fun i => .int .i32 (P i)) ∧ Below w.heap.size w w' := by
  by_cases hL0 : L = 0
  · subst hL0
    have hV0 : V = 0 := by rw [P16_zero] at hV; omega
    go_enter Tagg.func20, Tagg.ntmps20
    go_wp2
    go_ret
    exact ⟨none, 0, fun _ => 0, rfl, by omega, fun i hi => absurd hi (Nat.not_lt_zero i), by rw [hV0]; rfl, Sl.zero _ _ _, Below.refl _ _⟩
  · refine (balance20 (some ⟨g, 0, none⟩) L L (dg16 V) w (by omega) (by omega) (fun i _ => dg16_bound V i) (Sl.of_row hr)).mono ?_
    rintro e w' ⟨g', B, hB, rfl, hg, hrow, hb⟩
    have hBL : B ≤ L + 1 := by rw [hB]; unfold balLen; split <;> omega
    refine ⟨some ⟨g', 0, none⟩, B, balD (dg16 V) L, rfl, by omega, fun i hi => ?_, by rw [hB, balD_sum, sum16_all h0 hV], (Sl.of_row hrow).take hBL, hb⟩
    unfold balD
    by_cases h : i < L
    · rw [if_pos h]; exact bdig_bound _ _ (dg16_bound V i).1 (dg16_bound V i).2
    · rw [if_neg h]; have := bcar_01 (dg16 V) L; omega

/-- ConvolveRight of balanced digits: the digits of the product. -/
theorem convR_any (a b : Option Addr) (la lb : Nat) (A B : Nat → Int) (w : World) (hla : la ≤ 512) (hlb : lb ≤ 512) (hA : ∀ i, i < la → -32768 ≤ A i ∧ A i < 32768) (hB : ∀ i, i < lb → -32768 ≤ B i ∧ B i < 32768)
    (ha : Sl w a la fun i => .int .i32 (A i)) (hb : Sl w b lb fun i => .int .i32 (B i)) :
    Calls Tagg.prog 15 #[.slice a la la, .slice b lb lb] w fun e w' => ∃ (ca : Option Addr) (m : Nat) (C : Nat → Int), e = .returned (.tuple #[.slice ca m m, .bool true]) ∧ m ≤ 1024 ∧ (∀ i, i < m → -70368744177664 < C i ∧ C i < 70368744177664) ∧ sum16 C m = sum16 A la * sum16 B lb ∧ Sl w' ca m (fun i => .int .i64 (C i)) ∧ Below w.heap.size w w' := by
  have b1 : balB A la := ⟨hla, fun i hi => by have := hA i hi; omega⟩
  have b2 : balB B lb := ⟨hlb, fun i hi => by have := hB i hi; omega⟩
  have hA' : ∀ i, i < la → -2147483648 ≤ A i ∧ A i ≤ 2147483647 := fun i hi => by have := hA i hi; omega
  have hB' : ∀ i, i < lb → -2147483648 ≤ B i ∧ B i ≤ 2147483647 := fun i hi => by have := hB i hi; omega
  by_cases h0 : la = 0 ∨ lb = 0
  · refine (convR_empty a b la lb la lb A B w (by omega) (by omega) hA' hB' ha hb b1 b2 h0).mono ?_
    rintro e w' ⟨rfl, rfl⟩
    refine ⟨none, 0, fun _ => 0, rfl, by omega, fun i hi => absurd hi (Nat.not_lt_zero i), ?_, Sl.zero _ _ _, Below.refl _ _⟩
    rcases h0 with h | h
    · subst h; show (0 : Int) = 0 * _; omega
    · subst h; show (0 : Int) = _ * 0; omega
  · refine (convR_ok a b la lb la lb A B w (by omega) (by omega) b1 b2 hA' hB' ha hb).mono ?_
    rintro e w' ⟨g, m, hm, rfl, hg, hr, hbel⟩
    refine ⟨some ⟨g, 0, none⟩, m, fun i => cSum A B la lb i, rfl, by omega, fun i _ => ?_, cSum_prod A B la lb m (by omega), Sl.of_row hr, hbel⟩
    have := cSum_bound A B la lb i hla hlb b1.2 b2.2
    show -70368744177664 < cSum A B la lb i ∧ cSum A B la lb i < 70368744177664
    omega

/-- Unbalance of a number that is not negative. -/
theorem unbal_ok (a : Option Addr) (len : Nat) (c : Nat → Int) (V : Int) (w : World) (hl : len ≤ 1024) (h0 : 0 ≤ V) (hc : ∀ i, i < len → -70368744177664 < c i ∧ c i < 70368744177664) (hV : sum16 c len = V) (hx : Sl w a len fun i => .int .i64 (c i)) :
    Calls Tagg.prog 22 #[.slice a len len] w fun e w' => ∃ (n : Nat) (ra : Option Addr), e = .returned (.tuple #[.slice ra n n, .bool true]) ∧ n ≤ 1027 ∧ V < P16 n ∧ Sl w' ra n (fun i => .int .u16 (dg16 V i)) ∧ Below w.heap.size w w' := by
  have hU : ubN c len len = V := by rw [ubN_sum c len len (Nat.le_refl _), hV]
  refine (unbalance_any a len len c w (by omega) hx).mono ?_
  rintro e w' ⟨hu, hb⟩
  unfold UbOut at hu
  rw [hU] at hu
  rcases hu with ⟨hbad, _⟩ | ⟨_, _, n, ra, rfl, hnil, hn, hlt, htop, hsl⟩
  · exfalso
    rcases hbad with ⟨i, hi, hn⟩ | hn
    · exact hn (hc i hi)
    · omega
  · exact ⟨n, ra, rfl, by omega, hlt, hsl, hb⟩
end Go.Proofs.Ygctag
