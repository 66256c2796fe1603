import Derived.Test.YgctagLawA
import Derived.Deep.DeepCutAuto
import Derived.Deep.CutBlock
namespace Go.Proofs.Ygctag
open Go.RowKit

theorem wideC_small : WideC 16384 := fun np nq h1 h2 h3 => ⟨0, by omega, fun w => wideLog_small np nq (by omega) (by omega) w, fun h => absurd rfl h⟩
theorem Below.row {w w' : World} {B g t n : Nat} {f : Nat → Value} (hb : Below B w w') (hr : w.rowIs g t n f) (h : g < B) : w'.rowIs g t n f := hr.of_block (hb.block g h)
theorem Bytes.take {A : Nat → Int} {n m : Nat} (h : Bytes A n) (hm : m ≤ n) : Bytes A m := fun i hi => h i (by omega)

theorem val_mul_lt {A B : Nat → Int} {x y : Nat} (hA : Bytes A x) (hB : Bytes B y) (h : x + y ≤ 10000000) : val A x * val B y < P8 10000000 := by
  have h1 := val_bound hA
  have h2 := val_bound hB
  have h3 : val A x * val B y < P8 x * P8 y := by
    refine Int.lt_of_le_of_lt (Int.mul_le_mul_of_nonneg_left (Int.le_of_lt h2.2) h1.1) ?_
    exact Int.mul_lt_mul_of_pos_right h1.2 (P8_pos y)
  have h4 : P8 x * P8 y = P8 (x + y) := by unfold P8; rw [Nat.pow_add, Int.natCast_mul]
  rw [h4] at h3
  exact Int.lt_of_lt_of_le h3 (P8_mono h)
theorem Below.drewN' {B : Nat} {w w' : World} (h : Below B w w') (q : Nat) : Below B w (w'.drewN q) := ⟨h.os, h.tape, h.output, h.size, h.block⟩
theorem NatOwn.below {w w' : World} {B : Nat} {v : Value} {V : Int} (h : NatOwn w B v V) (hb : Below w.heap.size w w') : NatOwn w' B v V := by
  obtain ⟨g, n, N, h1, h2, h3, h4, h5⟩ := h
  exact ⟨g, n, N, h1, h2, h3, fun h0 => (h4 h0).of_block (hb.block g (h4 h0).lt), h5⟩
theorem OwnS.grown {w w' : World} {B : Nat} {a : Option Addr} {n g : Nat} {A : Nat → Int} (h : OwnS w B a n A) (hg : w.grownBy w' (some g)) (hne : ∀ b, a = some ⟨b, 0, none⟩ → b ≠ g) : OwnS w' B a n A := by
  rcases h with ⟨rfl, rfl⟩ | ⟨b, rfl, hB, hr⟩
  · exact .inl ⟨rfl, rfl⟩
  · refine .inr ⟨b, rfl, hB, hr.of_block (hg.block b hr.lt ?_)⟩
    intro e; injection e with e; exact hne b rfl e
theorem ownS_sep {w : World} {g1 g2 : Option Addr} {n m : Nat} {A B : Nat → Int} {B1 : Nat} (h1 : OwnS w B1 g1 n A) (h2 : OwnS w w.heap.size g2 m B) : Sep g1 g2 n m A B := by
  refine .inl fun b1 o1 b2 o2 e1 e2 => ?_
  rcases h1 with ⟨rfl, _⟩ | ⟨g, rfl, _, hr⟩
  · cases e1
  · rcases h2 with ⟨rfl, _⟩ | ⟨g', rfl, hB, _⟩
    · cases e2
    · have := hr.lt
      injection e1 with e1
      injection e2 with e2
      injection e1 with e1 _
      injection e2 with e2 _
      omega

set_option maxRecDepth 100000 in
set_option maxHeartbeats 4000000 in
theorem mulLongRight_walk (a b : Option Addr) (n m ca cb : Nat) (A B : Nat → Int) (w : World) (hn : n ≤ ca) (hm : m ≤ cb) (hca : ca ≤ 140737488351232) (hcb : cb ≤ 140737488351232) (hna : a = none → n = 0) (hnb : b = none → m = 0)
    (hA : Bytes A n) (hB : Bytes B m) (ha : Sl w a n fun i => .int .u8 (A i)) (hb : Sl w b m fun i => .int .u8 (B i)) :
    Calls Tagg.prog 11 #[.slice a n ca, .slice b m cb] w fun e w' => e = .returned (.bool true) ∧ Below w.heap.size w w' := by
  have hD1 := digits_ok a n ca 16384 w hn
  have hD2 := fun W => digits_ok b m cb 16384 W hm
  rw [show ((16384 : Nat) : Int) = 16384 by rfl] at hD1 hD2
  obtain ⟨x, hx⟩ : ∃ x, x = min n 16384 := ⟨_, rfl⟩
  obtain ⟨y, hy⟩ : ∃ y, y = min m 16384 := ⟨_, rfl⟩
  rw [← hx] at hD1
  rw [← hy] at hD2
  have hAx : Bytes A x := hA.take (by omega)
  have hBy : Bytes B y := hB.take (by omega)
  have ha' := ha.take (show x ≤ n by omega)
  have hb' := hb.take (show y ≤ m by omega)
  have hna' : a = none → x = 0 := fun h => by have := hna h; omega
  have hnb' : b = none → y = 0 := fun h => by have := hnb h; omega
  have hx1 : x ≤ 16384 := by omega
  have hy1 : y ≤ 16384 := by omega
  clear hx hy ha hb hA hB hna hnb
  go_enter Tagg.func11, Tagg.ntmps11
  go_wp2_with fail
  with_reducible refine hD1.mono ?_
  rintro e w0 ⟨⟨c1, rfl, hc1, hc1'⟩, rfl⟩
  have hO1 := ownNat_ok a x c1 A w0 hc1 (by omega) hna' ha'
  go_wp2_with fail
  with_reducible refine hO1.mono ?_
  rintro e w1 ⟨xa, rfl, hxn, hxo, hb1⟩
  clear hO1 hD1 ha'
  go_wp2_with fail
  with_reducible refine (hD2 _).mono ?_
  rintro e w1' ⟨⟨c2, rfl, hc2, hc2'⟩, rfl⟩
  have hO2 := ownNat_ok b y c2 B w1' hc2 (by omega) hnb' (hb'.below hb1)
  clear hD2
  go_wp2_with fail
  with_reducible refine hO2.mono ?_
  rintro e w2 ⟨ya, rfl, hyn, hyo, hb2⟩
  have hxo2 := hxo.below hb2
  have hsep : Sep xa ya x y A B := by
    refine .inl fun b1 o1 b2 o2 e1 e2 => ?_
    rcases hxo with ⟨rfl, _⟩ | ⟨g, rfl, _, hr⟩
    · cases e1
    · rcases hyo with ⟨rfl, _⟩ | ⟨g', rfl, hB, _⟩
      · cases e2
      · have := hr.lt
        injection e1 with e1
        injection e2 with e2
        injection e1 with e1 _
        injection e2 with e2 _
        omega
  have hsep' : Sep ya xa y x B A := by
    rcases hsep with h | ⟨e1, e2, e3⟩
    · exact .inl fun g1 o1 g2 o2 h3 h4 => Ne.symm (h g2 o2 g1 o1 h4 h3)
    · exact .inr ⟨e1.symm, e2.symm, e3.symm⟩
  have hw2 : Below w0.heap.size w0 w2 := hb1.trans (hb2.mono hb1.size)
  have hB1 : w0.heap.size ≤ w1'.heap.size := hb1.size
  clear hO2 hxo hb1 hb' hb2
  have hK1 := ownNat_ok xa x x A w2 (Nat.le_refl _) (by omega) (fun h => hna' (hxn.1 h)) hxo2.sl
  go_wp2_with fail
  with_reducible refine hK1.mono ?_
  rintro e w3 ⟨kx, rfl, hkxn, hkx, hb3⟩
  have hx3 := hxo2.below hb3
  have hy3 := hyo.below hb3
  have hw3 := hw2.trans (hb3.mono hw2.size)
  clear hK1 hxo2 hyo hb3 hw2
  have hK2 := ownNat_ok ya y y B w3 (Nat.le_refl _) (by omega) (fun h => hnb' (hyn.1 h)) hy3.sl
  go_wp2_with fail
  with_reducible refine hK2.mono ?_
  rintro e w4 ⟨ky, rfl, hkyn, hky, hb4⟩
  have hx4 := hx3.below hb4
  have hy4 := hy3.below hb4
  have hkx4 := hkx.below hb4
  have hw4 := hw3.trans (hb4.mono hw3.size)
  clear hK2 hx3 hy3 hkx hb4 hw3
  have hVlt := val_mul_lt hAx hBy (by omega)
  have hM := school_ok xa ya x x y y A B w4 (Nat.le_refl _) (Nat.le_refl _) (by omega) (by omega) (by omega) (by omega) hx4.sl hy4.sl hAx hBy
  obtain ⟨V, hV⟩ : ∃ V, V = val A x * val B y := ⟨_, rfl⟩
  rw [← hV] at hM hVlt
  go_wp2_with fail
  with_reducible refine hM.mono ?_
  rintro e w5 ⟨want, rfl, hwant, hb5⟩
  have hx5 := hx4.below hb5
  have hy5 := hy4.below hb5
  have hkx5 := hkx4.below hb5
  have hky5 := hky.below hb5
  have hw5 := hw4.trans (hb5.mono hw4.size)
  clear hM hx4 hy4 hkx4 hky hb5 hw4
  have hL := mulLong_ok 16384 (by omega) wideC_small xa ya x y x y A B w5 (Nat.le_refl _) (Nat.le_refl _) (by omega) (by omega) hx1 hy1 (hx5.src hAx) (hy5.src hBy) hsep
  rw [← hV] at hL
  go_wp2_with fail
  with_reducible refine hL.mono ?_
  rintro e w6 ⟨got, rfl, hgot, hb6⟩
  have hx6 := hx5.below hb6
  have hy6 := hy5.below hb6
  have hkx6 := hkx5.below hb6
  have hky6 := hky5.below hb6
  have hw6 := hw5.trans (hb6.mono hw5.size)
  have hwant6 := hwant.below hb6
  have hAn := answers_ok _ _ got want V w6 hVlt hgot hwant6
  have hgl : Hid (∀ (z : Option Addr) (k : Nat) (C : Nat → Int) (B : Nat), OwnS w5 B z k C → ∀ g, z = some ⟨g, 0, none⟩ → g < w5.heap.size) := by
    intro z k C B h g e
    rcases h with ⟨rfl, _⟩ | ⟨g', rfl, _, hr⟩
    · cases e
    · injection e with e; injection e with e _; subst e; exact hr.lt
  have sx := hgl.out _ _ _ _ hx5
  have sy := hgl.out _ _ _ _ hy5
  have skx := hgl.out _ _ _ _ hkx5
  have sky := hgl.out _ _ _ _ hky5
  have hsz6 : w5.heap.size ≤ w6.heap.size := hb6.size
  clear hL hwant hx5 hy5 hkx5 hky5 hb6 hgl
  go_wp2_with fail
  with_reducible refine hAn.mono ?_
  rintro e w7 ⟨rfl, d, rfl⟩
  clear hAn
  have hx6' : OwnS (w6.drewN d) _ _ _ _ := hx6
  have hy6' : OwnS (w6.drewN d) _ _ _ _ := hy6
  have hkx6' : OwnS (w6.drewN d) _ _ _ _ := hkx6
  have hky6' : OwnS (w6.drewN d) _ _ _ _ := hky6
  have hgot' : NatOwn (w6.drewN d) _ _ _ := hgot
  have hwant6' : NatOwn (w6.drewN d) _ _ _ := hwant6
  have hw6' : Below _ w0 (w6.drewN d) := below_drewN hw6 d
  have hsz6' : w5.heap.size ≤ (w6.drewN d).heap.size := hsz6
  clear hx6 hy6 hkx6 hky6 hgot hwant6 hw6 hsz6
  generalize w6.drewN d = w7 at *
  have hL2 := mulLong_ok 16384 (by omega) wideC_small ya xa y x y x B A w7 (Nat.le_refl _) (Nat.le_refl _) (by omega) (by omega) hy1 hx1 (hy6'.src hBy) (hx6'.src hAx) hsep'
  rw [Int.mul_comm, ← hV] at hL2
  go_wp2_with fail
  with_reducible refine hL2.mono ?_
  rintro e w8 ⟨got2, rfl, hgot2, hb8⟩
  have hx8 : OwnS w8 _ _ _ _ := hx6'.below hb8
  have hy8 : OwnS w8 _ _ _ _ := hy6'.below hb8
  have hkx8 : OwnS w8 _ _ _ _ := hkx6'.below hb8
  have hky8 : OwnS w8 _ _ _ _ := hky6'.below hb8
  have hw8 : Below w0.heap.size w0 w8 := hw6'.trans (hb8.mono hw6'.size)
  have hwant8 : NatOwn w8 _ _ _ := hwant6'.below hb8
  have hgot8 : NatOwn w8 w5.heap.size got V := hgot'.below hb8
  have hAn2 := answers_ok _ _ got2 want V w8 hVlt hgot2 hwant8
  clear hL2 hwant6' hx6' hy6' hkx6' hky6' hb8 hgot'
  go_wp2_with fail
  with_reducible refine hAn2.mono ?_
  rintro e w9 ⟨rfl, d2, rfl⟩
  clear hAn2
  obtain ⟨gg, ng, NG, hgg, rfl, hlg, hrg, hng⟩ := hgot8
  obtain ⟨ag, eg, -, hag⟩ := cutV_nil gg ng
  rw [eg]
  have hx9 : OwnS (w8.drewN d2) _ _ _ _ := hx8
  have hy9 : OwnS (w8.drewN d2) _ _ _ _ := hy8
  have hkx9 : OwnS (w8.drewN d2) _ _ _ _ := hkx8
  have hky9 : OwnS (w8.drewN d2) _ _ _ _ := hky8
  have hw9 : Below _ w0 (w8.drewN d2) := below_drewN hw8 d2
  have hF := flip_ok gg ng NG ng ag (dg8 V) (w8.drewN d2) hag hng (by have := hlg.le hVlt; omega) (fun h => row_draws (hrg h) d2)
  clear hx8 hy8 hkx8 hky8 hw8 hrg hwant8 hgot2
  generalize w8.drewN d2 = w9 at *
  go_wp2_with fail
  with_reducible refine hF.mono ?_
  rintro e w10 ⟨⟨v, rfl⟩, hgr⟩
  have hx := hx9.grown hgr (fun b e => by have := sx b e; omega)
  have hy := hy9.grown hgr (fun b e => by have := sy b e; omega)
  have hkx := hkx9.grown hgr (fun b e => by have := skx b e; omega)
  have hky := hky9.grown hgr (fun b e => by have := sky b e; omega)
  have hw10 : Below w0.heap.size w0 w10 := hw9.grown hgr hw9.size (fun k hk => by injection hk with hk; subst hk; have := hw5.size; omega)
  have hE1 := sameNat_ok xa kx x x x A w10 (by omega) hkxn.symm hx.sl hkx.sl
  have hE2 := fun d => sameNat_ok ya ky y y y B (w10.drewN d) (by omega) hkyn.symm hy.sl hky.sl
  clear hx9 hy9 hkx9 hky9 hgr hx hy hkx hky hF sx sy skx sky
  go_wp2_with fail
  with_reducible refine hE1.mono ?_
  rintro e w11 ⟨rfl, d3, rfl⟩
  go_wp2_with fail
  with_reducible refine (hE2 _).mono ?_
  rintro e w12 ⟨rfl, d4, rfl⟩
  go_wp2
  go_ret
  exact ⟨rfl, below_drewN hw10 _⟩
end Go.Proofs.Ygctag
