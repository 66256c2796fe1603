import Derived.Test.YgctagMulLongRightWalk
import Derived.Test.YgctagWideH
namespace Go.Proofs.Ygctag
open Go.RowKit

theorem ownS_sep2 {w w' : World} {g1 g2 : Option Addr} {n m : Nat} {A B : Nat → Int} {B1 : Nat} (h1 : OwnS w B1 g1 n A) (h2 : OwnS w' w.heap.size g2 m B) : Sep g1 g2 n m A B := by
  refine .inl fun b1 o1 b2 o2 e1 e2 => ?_
  rcases h1 with ⟨rfl, _⟩ | ⟨g, rfl, _, hr⟩
  · cases e1
  · rcases h2 with ⟨rfl, _⟩ | ⟨g', rfl, hB, _⟩
    · cases e2
    · have := hr.lt
      injection e1 with e1
      injection e2 with e2
      injection e1 with e1 _
      injection e2 with e2 _
      omega

set_option maxRecDepth 100000 in
set_option maxHeartbeats 4000000 in
theorem mulLongSquare_walk (a : Option Addr) (n ca : Nat) (A : Nat → Int) (w : World) (hn : n ≤ ca) (hca : ca ≤ 140737488351232) (hna : a = none → n = 0)
    (hA : Bytes A n) (ha : Sl w a n fun i => .int .u8 (A i)) :
    Calls Tagg.prog 13 #[.slice a n ca] w fun e w' => e = .returned (.bool true) ∧ Below w.heap.size w w' := by
  have hD1 := digits_ok a n ca 262144 w hn
  rw [show ((262144 : Nat) : Int) = 262144 by rfl] at hD1
  obtain ⟨x, hx⟩ : ∃ x, x = min n 262144 := ⟨_, rfl⟩
  rw [← hx] at hD1
  have hAx : Bytes A x := hA.take (by omega)
  have ha' := ha.take (show x ≤ n by omega)
  have hna' : a = none → x = 0 := fun h => by have := hna h; omega
  have hx1 : x ≤ 262144 := by omega
  clear hx ha hA hna
  go_enter Tagg.func13, Tagg.ntmps13
  go_wp2_with fail
  with_reducible refine hD1.mono ?_
  rintro e w0 ⟨⟨c1, rfl, hc1, hc1'⟩, rfl⟩
  have hO1 := ownNat_ok a x c1 A w0 hc1 (by omega) hna' ha'
  go_wp2_with fail
  with_reducible refine hO1.mono ?_
  rintro e w1 ⟨xa, rfl, hxn, hxo, hb1⟩
  clear hO1 hD1 ha'
  have hK1 := ownNat_ok xa x x A w1 (Nat.le_refl _) (by omega) (fun h => hna' (hxn.1 h)) hxo.sl
  go_wp2_with fail
  with_reducible refine hK1.mono ?_
  rintro e w2 ⟨kx, rfl, hkxn, hkx, hb2⟩
  have hx2 := hxo.below hb2
  have hsep : Sep xa kx x x A A := ownS_sep2 hxo hkx
  have hw2 : Below w0.heap.size w0 w2 := hb1.trans (hb2.mono hb1.size)
  clear hK1 hxo hb2 hb1
  have hVlt := val_mul_lt hAx hAx (by omega)
  have hL := mulLong_ok 262144 (by omega) wideC_all xa xa x x x x A A w2 (Nat.le_refl _) (Nat.le_refl _) (by omega) (by omega) hx1 hx1 (hx2.src hAx) (hx2.src hAx) (.inr ⟨rfl, rfl, rfl⟩)
  obtain ⟨V, hV⟩ : ∃ V, V = val A x * val A x := ⟨_, rfl⟩
  rw [← hV] at hL hVlt
  go_wp2_with fail
  with_reducible refine hL.mono ?_
  rintro e w3 ⟨got, rfl, hgot, hb3⟩
  have hx3 := hx2.below hb3
  have hk3 := hkx.below hb3
  have hw3 := hw2.trans (hb3.mono hw2.size)
  clear hL hx2 hkx hb3 hw2
  have hL2 := mulLong_ok 262144 (by omega) wideC_all xa kx x x x x A A w3 (Nat.le_refl _) (Nat.le_refl _) (by omega) (by omega) hx1 hx1 (hx3.src hAx) (hk3.src hAx) hsep
  rw [← hV] at hL2
  go_wp2_with fail
  with_reducible refine hL2.mono ?_
  rintro e w4 ⟨got2, rfl, hgot2, hb4⟩
  have hx4 := hx3.below hb4
  have hk4 := hk3.below hb4
  have hgot4 := hgot.below hb4
  have hw4 := hw3.trans (hb4.mono hw3.size)
  clear hL2 hx3 hk3 hb4 hw3 hgot
  have hAn := answers_ok _ _ got got2 V w4 hVlt hgot4 hgot2
  go_wp2_with fail
  with_reducible refine hAn.mono ?_
  rintro e w5 ⟨rfl, d, rfl⟩
  have hE1 := fun d => sameNat_ok xa kx x x x A (w4.drewN d) (by omega) hkxn.symm hx4.sl hk4.sl
  clear hAn hgot4 hgot2
  go_wp2_with fail
  with_reducible refine (hE1 _).mono ?_
  rintro e w6 ⟨rfl, d2, rfl⟩
  go_wp2
  go_ret
  exact ⟨rfl, below_drewN hw4 _⟩
end Go.Proofs.Ygctag
