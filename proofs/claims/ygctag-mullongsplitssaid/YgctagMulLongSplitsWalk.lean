import Derived.Test.YgctagMulLongSquareWalk
import Derived.Test.YgctagNatAdd
namespace Go.Proofs.Ygctag
open Go.RowKit
attribute [local go_sem] eql30 neq30

/-- A number moved up by s digits. -/
def upD (V : Int) (s i : Nat) : Int := if i < s then 0 else dg8 V (i - s)
theorem upD_bytes (V : Int) (s n : Nat) : Bytes (upD V s) n := fun i _ => by
  unfold upD
  split
  · omega
  · have := dg8_bound V (i - s); omega
theorem P8_add (a b : Nat) : P8 (a + b) = P8 a * P8 b := by unfold P8; rw [Nat.pow_add, Int.natCast_mul]
theorem val_split (A : Nat → Int) (s n : Nat) : val A (s + n) = val A s + val (fun i => A (s + i)) n * P8 s := by
  induction n with
  | zero => show val A s = val A s + 0 * P8 s; omega
  | succ n ih =>
    rw [← Nat.add_assoc, val_succ, ih, val_succ, P8_add, Int.add_mul, Int.add_assoc, Int.mul_assoc, Int.mul_comm (P8 s)]
theorem val_zero (s : Nat) (A : Nat → Int) (h : ∀ i, i < s → A i = 0) : val A s = 0 := by
  induction s with
  | zero => rfl
  | succ s ih => rw [val_succ, ih (fun i hi => h i (by omega)), h s (by omega)]; omega
theorem val_congr {A B : Nat → Int} {n : Nat} (h : ∀ i, i < n → A i = B i) : val A n = val B n := by
  induction n with
  | zero => rfl
  | succ n ih => rw [val_succ, val_succ, ih (fun i hi => h i (by omega)), h n (by omega)]
theorem upD_val {V : Int} {n : Nat} (s : Nat) (h0 : 0 ≤ V) (h : V < P8 n) : val (upD V s) (s + n) = V * P8 s := by
  rw [val_split, val_zero s _ (fun i hi => by unfold upD; rw [if_pos hi]), Int.zero_add, val_congr (B := dg8 V) (fun i _ => by unfold upD; rw [if_neg (by omega), show s + i - s = i by omega]), dg8_val h0 h]

set_option maxHeartbeats 800000 in
theorem under_ok (B : Nat) (v : Value) (V : Int) (s : Nat) (w : World) (hs : s ≤ 1000000) (h : NatOwn w B v V) (hV : V < P8 10000000) :
    Calls Tagg.prog 54 #[v, .int .i64 (s : Int)] w fun e w' => ∃ g n, e = .returned (.slice (some ⟨g, 0, none⟩) n n) ∧ n ≤ 20000000 ∧ val (upD V s) n = V * P8 s ∧ w'.rowIs g 5 n (fun i => .int .u8 (upD V s i)) ∧ Below w.heap.size w w' := by
  obtain ⟨g, n, N, hB, rfl, hl, hr, hnN⟩ := h
  have hn := hl.le hV
  have hval := upD_val s hl.1 hl.2.1
  have hmk := run_make_row' (P := Tagg.prog) 30 5 (.int .u8 0) 1 Tagg.underlying30 Tagg.info5 rfl .i64 .i64 (s + n) (by omega) (by omega)
  rw [show ((s + n : Nat) : Int) = (s : Int) + (n : Int) by simp] at hmk
  have h1 : ∀ i, i < n → (Value.int IntKind.u8 (dg8 V i)).oneCell' = true := fun _ _ => rfl
  have v1 : IntKind.i64.wrap ((s : Int) + (n : Int)) = (s : Int) + (n : Int) := IntWalk.i64_in _ ⟨by omega, by omega⟩
  have i1 : (s : Int) ≤ (s : Int) + (n : Int) := by omega
  have i2 : ((s : Int) + (n : Int) - (s : Int)).toNat = n := by omega
  by_cases h0 : n = 0
  · subst h0
    rw [cutV_zero]
    clear hmk h1 v1 i1 i2 hr
    have hmk := run_make_row' (P := Tagg.prog) 30 5 (.int .u8 0) 1 Tagg.underlying30 Tagg.info5 rfl .i64 .i64 s (by omega) (by omega)
    have i2 : ((s : Int) - (s : Int)).toNat = 0 := by omega
    have hz : ∀ i, i < s → upD V s i = 0 := fun i hi => by unfold upD; rw [if_pos hi]
    rw [Nat.add_zero] at hval
    have hvalH : Hid (val (upD V s) s = V * P8 s) := hval
    clear hval hl hV
    go_enter Tagg.func54, Tagg.ntmps54
    go_wp2_with (with_reducible refine wpList_copyL ?_; refine wpList_copy_nothing rfl _ _ 30 29 rfl 5 Tagg.underlying30 Tagg.size5 _ _ _ _ _ _ rfl rfl (by simp) ?_)
    go_wp2
    go_ret
    exact ⟨_, s, rfl, by omega, hvalH.out, (World.rowIs_made _ _ _ _).congr fun i hi => by rw [hz i hi], (Below.refl _ _).alloc (Nat.le_refl _) _⟩
  · rw [cutV_pos h0]
    have hrow := hr (by omega)
    have hsl : Sl w (some ⟨g, 0, none⟩) n (fun i => .int .u8 (dg8 V i)) := (Sl.of_row hrow).take hnN
    go_enter Tagg.func54, Tagg.ntmps54
    go_wp2_with (with_reducible refine wpList_copyL ?_; refine wpList_copy_all rfl _ _ 30 29 rfl 5 Tagg.underlying30 Tagg.size5 _ _ _ _ _ _ rfl rfl 5 _ _ _ (World.rowIs_made _ _ _ _) ?_ ?_ h1 ?_)
    · omega
    · exact hsl.below ((Below.refl _ _).alloc (Nat.le_refl _) _)
    · intro w2 hrow2 hb _ _
      have hfin : Hid (w2.rowIs w.heap.size 5 (s + n) (fun i => .int .u8 (upD V s i)) ∧ Below w.heap.size w w2 ∧ val (upD V s) (s + n) = V * P8 s) :=
        ⟨hrow2.congr (g := fun i => .int .u8 (upD V s i)) (fun i hi => by
          unfold upD
          by_cases h : i < s
          · rw [if_pos h, if_neg (by omega)]
          · rw [if_neg h, if_pos (by omega)]), ((Below.refl _ _).alloc (Nat.le_refl _) _).trans hb, hval⟩
      clear hrow2 hb hval hrow hsl hmk hl
      go_wp2
      go_ret
      exact ⟨_, s + n, rfl, by omega, hfin.out.2.2, hfin.out.1, hfin.out.2.1⟩

theorem NatOwn.sl {w : World} {B : Nat} {v : Value} {V : Int} (h : NatOwn w B v V) (hV : V < P8 10000000) : ∃ (a : Option Addr) (n : Nat), v = .slice a n n ∧ n ≤ 10000000 ∧ Sl w a n (fun i => .int .u8 (dg8 V i)) ∧ val (dg8 V) n = V := by
  obtain ⟨g, n, N, hB, rfl, hl, hr, hnN⟩ := h
  have hn := hl.le hV
  by_cases h0 : n = 0
  · subst h0
    exact ⟨none, 0, rfl, by omega, Sl.zero _ _ _, dg8_val hl.1 hl.2.1⟩
  · exact ⟨some ⟨g, 0, none⟩, n, cutV_pos h0, hn, (Sl.of_row (hr (by omega))).take hnN, dg8_val hl.1 hl.2.1⟩

theorem OwnS.drop {w : World} {B g n s : Nat} {A : Nat → Int} (h : OwnS w B (some ⟨g, 0, none⟩) n A) (hb : Bytes A n) (hs : s ≤ n) : Src w (some ⟨g, s, none⟩) (n - s) (fun i => A (s + i)) := by
  rcases h with ⟨h, _⟩ | ⟨g', e, _, hr⟩
  · cases h
  · injection e with e
    injection e with e _
    subst e
    refine ⟨fun i hi => ⟨g, s, rfl, hr.cell (i := s + i) (by omega)⟩, fun i hi => hb (s + i) (by omega), fun _ => ⟨g, s, n, _, rfl, hr⟩⟩

set_option maxRecDepth 100000 in
set_option maxHeartbeats 4000000 in
theorem mulLongSplits_walk (a b : Option Addr) (n m ca cb : Nat) (A B : Nat → Int) (i : Int) (w : World) (hn : n ≤ ca) (hm : m ≤ cb) (hca : ca ≤ 140737488351232) (hcb : cb ≤ 140737488351232) (hna : a = none → n = 0) (hnb : b = none → m = 0)
    (hA : Bytes A n) (hB : Bytes B m) (hi0 : 0 ≤ i) (ha : Sl w a n fun i => .int .u8 (A i)) (hb : Sl w b m fun i => .int .u8 (B i)) :
    Calls Tagg.prog 12 #[.slice a n ca, .slice b m cb, .int .u32 i] w fun e w' => e = .returned (.bool true) ∧ Below w.heap.size w w' := by
  have hD1 := digits_ok a n ca 262144 w hn
  have hD2 := fun W => digits_ok b m cb 262144 W hm
  rw [show ((262144 : Nat) : Int) = 262144 by rfl] at hD1 hD2
  obtain ⟨x, hx⟩ : ∃ x, x = min n 262144 := ⟨_, rfl⟩
  obtain ⟨y, hy⟩ : ∃ y, y = min m 262144 := ⟨_, rfl⟩
  rw [← hx] at hD1
  rw [← hy] at hD2
  have hAx : Bytes A x := hA.take (by omega)
  have hBy : Bytes B y := hB.take (by omega)
  have ha' := ha.take (show x ≤ n by omega)
  have hb' := hb.take (show y ≤ m by omega)
  have hna' : a = none → x = 0 := fun h => by have := hna h; omega
  have hnb' : b = none → y = 0 := fun h => by have := hnb h; omega
  have hx1 : x ≤ 262144 := by omega
  have hy1 : y ≤ 262144 := by omega
  obtain ⟨s, hs⟩ : ∃ s : Nat, (s : Int) = i % ((x : Int) + 1) := ⟨(i % ((x : Int) + 1)).toNat, Int.toNat_of_nonneg (Int.emod_nonneg _ (by omega))⟩
  have hsx : s ≤ x := by have := Int.emod_lt_of_pos i (show (0 : Int) < (x : Int) + 1 by omega); omega
  obtain ⟨r, hr⟩ : ∃ r, x = s + r := ⟨x - s, by omega⟩
  have hrem : i % ((x : Int) + 1) = (s : Int) := hs.symm
  have hrem2 : Int.tmod i ((x : Int) + 1) = (s : Int) := by rw [Int.tmod_eq_emod_of_nonneg hi0]; exact hs.symm
  have u1 : IntKind.u32.wrap ((x : Int) + 1) = (x : Int) + 1 := IntWalk.u32_in _ ⟨by omega, by omega⟩
  have u2 : IntKind.i64.wrap ((x : Int) + 1) = (x : Int) + 1 := IntWalk.i64_in _ ⟨by omega, by omega⟩
  have u3 : IntKind.u32.wrap (s : Int) = (s : Int) := IntWalk.u32_in _ ⟨by omega, by omega⟩
  have u4 : IntKind.i64.wrap (s : Int) = (s : Int) := IntWalk.i64_in _ ⟨by omega, by omega⟩
  have u5 : ((x : Int) + 1 == 0) = false := by simp; omega
  have u6 : (s : Int) ≤ x := by omega
  have hrH : Hid (x = s + r) := hr
  clear hx hy ha hb hA hB hna hnb hs hr
  go_enter Tagg.func12, Tagg.ntmps12
  go_wp2_with fail
  with_reducible refine hD1.mono ?_
  rintro e w0 ⟨⟨c1, rfl, hc1, hc1'⟩, rfl⟩
  have hO1 := ownNat_ok a x c1 A w0 hc1 (by omega) hna' ha'
  go_wp2_with fail
  with_reducible refine hO1.mono ?_
  rintro e w1 ⟨xa, rfl, hxn, hxo, hb1⟩
  clear hO1 hD1 ha'
  go_wp2_with fail
  with_reducible refine (hD2 _).mono ?_
  rintro e w1' ⟨⟨c2, rfl, hc2, hc2'⟩, rfl⟩
  have hO2 := ownNat_ok b y c2 B w1' hc2 (by omega) hnb' (hb'.below hb1)
  clear hD2
  go_wp2_with fail
  with_reducible refine hO2.mono ?_
  rintro e w2 ⟨ya, rfl, hyn, hyo, hb2⟩
  have hx2 := hxo.below hb2
  have hne : ∀ b1 o1 b2 o2, xa = some ⟨b1, o1, none⟩ → ya = some ⟨b2, o2, none⟩ → b1 ≠ b2 := by
    intro b1 o1 b2 o2 e1 e2
    rcases hxo with ⟨rfl, _⟩ | ⟨g, rfl, _, hr⟩
    · cases e1
    · rcases hyo with ⟨rfl, _⟩ | ⟨g', rfl, hB, _⟩
      · cases e2
      · have := hr.lt
        injection e1 with e1
        injection e2 with e2
        injection e1 with e1 _
        injection e2 with e2 _
        omega
  have hsep : ∀ (n m : Nat) (A B : Nat → Int), Sep xa ya n m A B := fun n m A B => .inl hne
  have hw2 : Below w0.heap.size w0 w2 := hb1.trans (hb2.mono hb1.size)
  clear hO2 hxo hb1 hb' hb2
  by_cases hsx2 : s = x
  · subst hsx2
    clear hne hna' hxn hrH
    have hx2H : Hid (OwnS w2 w0.heap.size xa s A) := hx2
    clear hx2
    cases xa with
    | none =>
      have hx2 := hx2H.out
      clear hx2H
      have hLow := mulLong_ok 262144 (by omega) wideC_all none ya s y s y A B w2 (Nat.le_refl _) (Nat.le_refl _) (by omega) (by omega) (by omega) hy1 ((hx2.src hAx).take hsx) (hyo.src hBy) (hsep _ _ _ _)
      have hV1lt := val_mul_lt (hAx.take hsx) hBy (by omega)
      obtain ⟨V1, hV1⟩ : ∃ V1, V1 = val A s * val B y := ⟨_, rfl⟩
      rw [← hV1] at hLow hV1lt
      have hVlt := val_mul_lt hAx hBy (by omega)
      have hVV : Hid (V1 + val A (0) * val B y * P8 s = val A s * val B y) := by
        show V1 + _ = _
        rw [hV1]; show _ + 0 * val B y * P8 s = _; omega
      clear hV1
      obtain ⟨V2, hV2⟩ : ∃ V2, V2 = val A (0) * val B y := ⟨_, rfl⟩
      obtain ⟨V, hV⟩ : ∃ V, V = val A s * val B y := ⟨_, rfl⟩
      have hV2lt : val A (0) * val B y < P8 10000000 := val_mul_lt ((hx2.src hAx).take (Nat.zero_le s)).2.1 hBy (by omega)
      rw [← hV] at hVlt hVV
      rw [← hV2] at hVV hV2lt
      go_wp2_with fail
      with_reducible refine hLow.mono ?_
      rintro e w3 ⟨low, rfl, hlow, hb3⟩
      have hx3 := hx2.below hb3
      have hy3 := hyo.below hb3
      have hw3 := hw2.trans (hb3.mono hw2.size)
      clear hLow hx2 hyo hw2 hb3
      have hHi := mulLong_ok 262144 (by omega) wideC_all none ya (0) y (0) y A B w3 (Nat.le_refl _) (Nat.le_refl _) (by omega) (by omega) (by omega) hy1 ((hx3.src hAx).take (Nat.zero_le s)) (hy3.src hBy) (hsep _ _ _ _)
      rw [← hV2] at hHi
      go_wp2_with fail
      with_reducible refine hHi.mono ?_
      rintro e w4 ⟨hi, rfl, hhi, hb4⟩
      have hx4 := hx3.below hb4
      have hy4 := hy3.below hb4
      have hlow4 := hlow.below hb4
      have hw4 := hw3.trans (hb4.mono hw3.size)
      clear hHi hx3 hy3 hw3 hb4 hlow
      have hU := under_ok _ hi V2 s w4 (by omega) hhi hV2lt
      go_wp2_with fail
      with_reducible refine hU.mono ?_
      rintro e w5 ⟨ug, un, rfl, hun, huv, hur, hb5⟩
      have hx5 := hx4.below hb5
      have hy5 := hy4.below hb5
      have hlow5 := hlow4.below hb5
      have hw5 := hw4.trans (hb5.mono hw4.size)
      clear hU hx4 hy4 hw4 hb5 hlow4 hhi
      have hAll := mulLong_ok 262144 (by omega) wideC_all none ya s y s y A B w5 (Nat.le_refl _) (Nat.le_refl _) (by omega) (by omega) (by omega) hy1 (hx5.src hAx) (hy5.src hBy) (hsep _ _ _ _)
      rw [← hV] at hAll
      go_wp2_with fail
      with_reducible refine hAll.mono ?_
      rintro e w6 ⟨all, rfl, hall, hb6⟩
      have hlow6 := hlow5.below hb6
      have hur6 := hur.of_block (hb6.block ug hur.lt)
      have hw6 := hw5.trans (hb6.mono hw5.size)
      clear hAll hx5 hy5 hw5 hb6 hlow5 hur hsep
      obtain ⟨la, ln, rfl, hln, hlsl, hlv⟩ := hlow6.sl hV1lt
      have hAdd := natAdd_ok la (some ⟨ug, 0, none⟩) ln un ln un (dg8 V1) (upD V2 s) w6 (Nat.le_refl _) (Nat.le_refl _) (by omega) (by omega) hlsl (Sl.of_row hur6) (fun i _ => by have := dg8_bound V1 i; omega) (upD_bytes _ _ _)
      rw [hlv, huv, hVV.out] at hAdd
      clear hlsl hlow6 hur6
      go_wp2_with fail
      with_reducible refine hAdd.mono ?_
      rintro e w7 ⟨sum, rfl, hsum, hb7⟩
      have hall7 := hall.below hb7
      have hw7 := hw6.trans (hb7.mono hw6.size)
      have hAn := answers_ok _ _ all sum V w7 hVlt hall7 hsum
      clear hAdd hall hw6 hb7
      go_wp2_with fail
      with_reducible refine hAn.mono ?_
      rintro e w8 ⟨rfl, d, rfl⟩
      go_wp2
      go_ret
      exact ⟨rfl, below_drewN hw7 _⟩
    | some ad =>
      have hx2 := hx2H.out
      clear hx2H
      have hLow := mulLong_ok 262144 (by omega) wideC_all (some ad) ya s y s y A B w2 (Nat.le_refl _) (Nat.le_refl _) (by omega) (by omega) (by omega) hy1 ((hx2.src hAx).take hsx) (hyo.src hBy) (hsep _ _ _ _)
      have hV1lt := val_mul_lt (hAx.take hsx) hBy (by omega)
      obtain ⟨V1, hV1⟩ : ∃ V1, V1 = val A s * val B y := ⟨_, rfl⟩
      rw [← hV1] at hLow hV1lt
      have hVlt := val_mul_lt hAx hBy (by omega)
      have hVV : Hid (V1 + val A (0) * val B y * P8 s = val A s * val B y) := by
        show V1 + _ = _
        rw [hV1]; show _ + 0 * val B y * P8 s = _; omega
      clear hV1
      obtain ⟨V2, hV2⟩ : ∃ V2, V2 = val A (0) * val B y := ⟨_, rfl⟩
      obtain ⟨V, hV⟩ : ∃ V, V = val A s * val B y := ⟨_, rfl⟩
      have hV2lt : val A (0) * val B y < P8 10000000 := val_mul_lt ((hx2.src hAx).take (Nat.zero_le s)).2.1 hBy (by omega)
      rw [← hV] at hVlt hVV
      rw [← hV2] at hVV hV2lt
      go_wp2_with fail
      with_reducible refine hLow.mono ?_
      rintro e w3 ⟨low, rfl, hlow, hb3⟩
      have hx3 := hx2.below hb3
      have hy3 := hyo.below hb3
      have hw3 := hw2.trans (hb3.mono hw2.size)
      clear hLow hx2 hyo hw2 hb3
      have hHi := mulLong_ok 262144 (by omega) wideC_all (some ad) ya (0) y (0) y A B w3 (Nat.le_refl _) (Nat.le_refl _) (by omega) (by omega) (by omega) hy1 ((hx3.src hAx).take (Nat.zero_le s)) (hy3.src hBy) (hsep _ _ _ _)
      rw [← hV2] at hHi
      go_wp2_with fail
      with_reducible refine hHi.mono ?_
      rintro e w4 ⟨hi, rfl, hhi, hb4⟩
      have hx4 := hx3.below hb4
      have hy4 := hy3.below hb4
      have hlow4 := hlow.below hb4
      have hw4 := hw3.trans (hb4.mono hw3.size)
      clear hHi hx3 hy3 hw3 hb4 hlow
      have hU := under_ok _ hi V2 s w4 (by omega) hhi hV2lt
      go_wp2_with fail
      with_reducible refine hU.mono ?_
      rintro e w5 ⟨ug, un, rfl, hun, huv, hur, hb5⟩
      have hx5 := hx4.below hb5
      have hy5 := hy4.below hb5
      have hlow5 := hlow4.below hb5
      have hw5 := hw4.trans (hb5.mono hw4.size)
      clear hU hx4 hy4 hw4 hb5 hlow4 hhi
      have hAll := mulLong_ok 262144 (by omega) wideC_all (some ad) ya s y s y A B w5 (Nat.le_refl _) (Nat.le_refl _) (by omega) (by omega) (by omega) hy1 (hx5.src hAx) (hy5.src hBy) (hsep _ _ _ _)
      rw [← hV] at hAll
      go_wp2_with fail
      with_reducible refine hAll.mono ?_
      rintro e w6 ⟨all, rfl, hall, hb6⟩
      have hlow6 := hlow5.below hb6
      have hur6 := hur.of_block (hb6.block ug hur.lt)
      have hw6 := hw5.trans (hb6.mono hw5.size)
      clear hAll hx5 hy5 hw5 hb6 hlow5 hur hsep
      obtain ⟨la, ln, rfl, hln, hlsl, hlv⟩ := hlow6.sl hV1lt
      have hAdd := natAdd_ok la (some ⟨ug, 0, none⟩) ln un ln un (dg8 V1) (upD V2 s) w6 (Nat.le_refl _) (Nat.le_refl _) (by omega) (by omega) hlsl (Sl.of_row hur6) (fun i _ => by have := dg8_bound V1 i; omega) (upD_bytes _ _ _)
      rw [hlv, huv, hVV.out] at hAdd
      clear hlsl hlow6 hur6
      go_wp2_with fail
      with_reducible refine hAdd.mono ?_
      rintro e w7 ⟨sum, rfl, hsum, hb7⟩
      have hall7 := hall.below hb7
      have hw7 := hw6.trans (hb7.mono hw6.size)
      have hAn := answers_ok _ _ all sum V w7 hVlt hall7 hsum
      clear hAdd hall hw6 hb7
      go_wp2_with fail
      with_reducible refine hAn.mono ?_
      rintro e w8 ⟨rfl, d, rfl⟩
      go_wp2
      go_ret
      exact ⟨rfl, below_drewN hw7 _⟩
  · obtain ⟨g, rfl⟩ : ∃ g, xa = some ⟨g, 0, none⟩ := by
      rcases hx2 with ⟨_, h0⟩ | ⟨g, rfl, _⟩
      · omega
      · exact ⟨g, rfl⟩
    have hsep2 : ∀ (n m : Nat) (A B : Nat → Int), Sep (some ⟨g, s, none⟩) ya n m A B := fun n m A B => .inl fun b1 o1 b2 o2 e1 e2 => by
      injection e1 with e1
      injection e1 with e1 _
      subst e1
      exact hne _ _ _ _ rfl e2
    have i3 : ¬ x - s = 0 := by omega
    clear hne hna' hxn
    have hLow := mulLong_ok 262144 (by omega) wideC_all (some ⟨g, 0, none⟩) ya s y s y A B w2 (Nat.le_refl _) (Nat.le_refl _) (by omega) (by omega) (by omega) hy1 ((hx2.src hAx).take hsx) (hyo.src hBy) (hsep _ _ _ _)
    have hV1lt := val_mul_lt (hAx.take hsx) hBy (by omega)
    obtain ⟨V1, hV1⟩ : ∃ V1, V1 = val A s * val B y := ⟨_, rfl⟩
    rw [← hV1] at hLow hV1lt
    have hVlt := val_mul_lt hAx hBy (by omega)
    have hVV : Hid (V1 + val (fun i => A (s + i)) (x - s) * val B y * P8 s = val A x * val B y) := by
      show V1 + _ = _
      rw [hV1, Int.mul_right_comm, ← Int.add_mul, ← val_split, show s + (x - s) = x by omega]
    clear hV1
    obtain ⟨V2, hV2⟩ : ∃ V2, V2 = val (fun i => A (s + i)) (x - s) * val B y := ⟨_, rfl⟩
    obtain ⟨V, hV⟩ : ∃ V, V = val A x * val B y := ⟨_, rfl⟩
    have hV2lt : val (fun i => A (s + i)) (x - s) * val B y < P8 10000000 := val_mul_lt (hx2.drop hAx hsx).2.1 hBy (by omega)
    rw [← hV] at hVlt hVV
    rw [← hV2] at hVV hV2lt
    go_wp2_with fail
    with_reducible refine hLow.mono ?_
    rintro e w3 ⟨low, rfl, hlow, hb3⟩
    have hx3 := hx2.below hb3
    have hy3 := hyo.below hb3
    have hw3 := hw2.trans (hb3.mono hw2.size)
    clear hLow hx2 hyo hw2 hb3
    have hHi := mulLong_ok 262144 (by omega) wideC_all (some ⟨g, s, none⟩) ya (x - s) y (x - s) y (fun i => A (s + i)) B w3 (Nat.le_refl _) (Nat.le_refl _) (by omega) (by omega) (by omega) hy1 (hx3.drop hAx hsx) (hy3.src hBy) (hsep2 _ _ _ _)
    rw [← hV2] at hHi
    go_wp2_with fail
    with_reducible refine hHi.mono ?_
    rintro e w4 ⟨hi, rfl, hhi, hb4⟩
    have hx4 := hx3.below hb4
    have hy4 := hy3.below hb4
    have hlow4 := hlow.below hb4
    have hw4 := hw3.trans (hb4.mono hw3.size)
    clear hHi hx3 hy3 hw3 hb4 hlow
    have hU := under_ok _ hi V2 s w4 (by omega) hhi hV2lt
    go_wp2_with fail
    with_reducible refine hU.mono ?_
    rintro e w5 ⟨ug, un, rfl, hun, huv, hur, hb5⟩
    have hx5 := hx4.below hb5
    have hy5 := hy4.below hb5
    have hlow5 := hlow4.below hb5
    have hw5 := hw4.trans (hb5.mono hw4.size)
    clear hU hx4 hy4 hw4 hb5 hlow4 hhi
    have hAll := mulLong_ok 262144 (by omega) wideC_all (some ⟨g, 0, none⟩) ya x y x y A B w5 (Nat.le_refl _) (Nat.le_refl _) (by omega) (by omega) (by omega) hy1 (hx5.src hAx) (hy5.src hBy) (hsep _ _ _ _)
    rw [← hV] at hAll
    go_wp2_with fail
    with_reducible refine hAll.mono ?_
    rintro e w6 ⟨all, rfl, hall, hb6⟩
    have hlow6 := hlow5.below hb6
    have hur6 := hur.of_block (hb6.block ug hur.lt)
    have hw6 := hw5.trans (hb6.mono hw5.size)
    clear hAll hx5 hy5 hw5 hb6 hlow5 hur hsep
    obtain ⟨la, ln, rfl, hln, hlsl, hlv⟩ := hlow6.sl hV1lt
    have hAdd := natAdd_ok la (some ⟨ug, 0, none⟩) ln un ln un (dg8 V1) (upD V2 s) w6 (Nat.le_refl _) (Nat.le_refl _) (by omega) (by omega) hlsl (Sl.of_row hur6) (fun i _ => by have := dg8_bound V1 i; omega) (upD_bytes _ _ _)
    rw [hlv, huv, hVV.out] at hAdd
    clear hlsl hlow6 hur6
    go_wp2_with fail
    with_reducible refine hAdd.mono ?_
    rintro e w7 ⟨sum, rfl, hsum, hb7⟩
    have hall7 := hall.below hb7
    have hw7 := hw6.trans (hb7.mono hw6.size)
    have hAn := answers_ok _ _ all sum V w7 hVlt hall7 hsum
    clear hAdd hall hw6 hb7
    go_wp2_with fail
    with_reducible refine hAn.mono ?_
    rintro e w8 ⟨rfl, d, rfl⟩
    go_wp2
    go_ret
    exact ⟨rfl, below_drewN hw7 _⟩
end Go.Proofs.Ygctag
