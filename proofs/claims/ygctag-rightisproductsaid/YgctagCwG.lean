import Derived.Test.YgctagCwF
namespace Go.Proofs.Ygctag
open Go.RowKit

theorem num_of {b : Nat} (s : Bool) (m d : Nat) (x : Rat) (hb : b < 18446744073709551616) (hr : Ieee.double.read b = .number s m (-(d : Int))) (hx : x * ((2 ^ d : Nat) : Rat) = sgn s * (m : Rat)) : Num b x := by
  refine ⟨hb, s, m, _, hr, ?_⟩
  unfold nv
  have e1 : (2 : Rat) ^ (-(d : Int)) * ((2 ^ d : Nat) : Rat) = 1 := by rw [← z2_split (a := -(d : Int)) (b := 0) (n := d) (by omega), Rat.zpow_zero]
  have : x = x * (2 ^ (-(d : Int)) * ((2 ^ d : Nat) : Rat)) := by rw [e1, Rat.mul_one]
  rw [this]
  grind
theorem quart_num : Num 4598175219545276416 (1 / 4) := num_of false 4503599627370496 54 _ (by decide) (by decide +kernel) (by unfold sgn; rw [if_neg (by decide), show ((2 ^ 54 : Nat) : Rat) = 18014398509481984 from rfl, show ((4503599627370496 : Nat) : Rat) = 4503599627370496 from rfl]; grind)
theorem nquart_num : Num 13821547256400052224 (-(1 / 4)) := num_of true 4503599627370496 54 _ (by decide) (by decide +kernel) (by unfold sgn; rw [if_pos rfl, show ((2 ^ 54 : Nat) : Rat) = 18014398509481984 from rfl, show ((4503599627370496 : Nat) : Rat) = 4503599627370496 from rfl]; grind)
theorem half_num : Num 4602678819172646912 (1 / 2) := num_of false 4503599627370496 53 _ (by decide) (by decide +kernel) (by unfold sgn; rw [if_neg (by decide), show ((2 ^ 53 : Nat) : Rat) = 9007199254740992 from rfl, show ((4503599627370496 : Nat) : Rat) = 4503599627370496 from rfl]; grind)
theorem nhalf_num : Num 13826050856027422720 (-(1 / 2)) := num_of true 4503599627370496 53 _ (by decide) (by decide +kernel) (by unfold sgn; rw [if_pos rfl, show ((2 ^ 53 : Nat) : Rat) = 9007199254740992 from rfl, show ((4503599627370496 : Nat) : Rat) = 4503599627370496 from rfl]; grind)
theorem big_num : Num 4841369599423283200 4503599627370496 := num_of false 4503599627370496 0 _ (by decide) (by decide +kernel) (by unfold sgn; rw [if_neg (by decide), show ((2 ^ 0 : Nat) : Rat) = 1 from rfl, show ((4503599627370496 : Nat) : Rat) = 4503599627370496 from rfl]; grind)
theorem nbig_num : Num 14064741636278059008 (-4503599627370496) := num_of true 4503599627370496 0 _ (by decide) (by decide +kernel) (by unfold sgn; rw [if_pos rfl, show ((2 ^ 0 : Nat) : Rat) = 1 from rfl, show ((4503599627370496 : Nat) : Rat) = 4503599627370496 from rfl]; grind)

theorem ord_lt {a b : Nat} {x y : Rat} (ha : Num a x) (hb : Num b y) (h : x < y) : FloatKind.f64.format.order a b = some .lt := by
  show Ieee.double.order a b = _
  rcases order_num ha hb with ⟨_, e⟩ | ⟨h1, _⟩ | ⟨h1, _⟩
  · exact e
  · exfalso; grind
  · exfalso; grind
theorem ord_gt {a b : Nat} {x y : Rat} (ha : Num a x) (hb : Num b y) (h : y < x) : FloatKind.f64.format.order a b = some .gt := by
  show Ieee.double.order a b = _
  rcases order_num ha hb with ⟨h1, _⟩ | ⟨h1, _⟩ | ⟨_, e⟩
  · exfalso; grind
  · exfalso; grind
  · exact e

theorem quarter100 {v : Nat} {x : Rat} (hx : Num v x) (h : ab x < 1 / 4) (w : World) : Calls Tagg.prog 100 #[.float .f64 v] w fun e w' => e = .returned (.bool true) ∧ w' = w := by
  have h1 := le_ab x
  have o1 := ord_lt hx quart_num (by grind)
  have o2 := ord_gt hx nquart_num (by grind)
  clear h1 hx h
  go_enter Tagg.func100, Tagg.ntmps100
  go_wp2
  go_ret
  exact ⟨rfl, rfl⟩

theorem uu12 : uu ≤ 1 / 1000000000000 := by unfold uu; grind
theorem eta12 : eta ≤ 1 / 1000000000000 := by
  have h1 := z2_mono (a := -1075) (b := -80) (by decide)
  have h2 : (2 : Rat) ^ (-80 : Int) * ((2 ^ 80 : Nat) : Rat) = 1 := by rw [← z2_split (a := -80) (b := 0) (n := 80) (by omega), Rat.zpow_zero]
  have h3 : ((2 ^ 80 : Nat) : Rat) = 1208925819614629174706176 := rfl
  rw [h3] at h2
  unfold eta
  grind
/-- A difference of at most 1, rounded. -/
theorem sub_near {v : Nat} {x : Rat} (n : Int) (hv : Num v x) (hn : n.natAbs < 2 ^ 53) (h : ab (x - (n : Rat)) ≤ 1) :
    floatBits .sub .f64 v (fi n) = some (fsub v (fi n)) ∧ ∃ d, Num (fsub v (fi n)) d ∧ ab (d - (x - (n : Rat))) ≤ 1 / 100000000000 := by
  obtain ⟨r, z, h1, h2, h3⟩ := sub_num hv (num_fi n hn) (Rat.le_trans h (by
    have := z2_mono (a := 0) (b := 1000) (by decide)
    rw [Rat.zpow_zero] at this
    exact this))
  have e : fsub v (fi n) = r := by unfold fsub; rw [h1]; rfl
  rw [e]
  refine ⟨h1, z, h2, ?_⟩
  unfold Rd at h3
  have u1 := uu12
  have u0 := uu_pos
  have e1 := eta12
  have := Rat.mul_le_mul_of_nonneg_left h (Rat.le_of_lt u0)
  grind
theorem int_le {a b : Int} (h : (a : Rat) < (b : Rat) + 1) : a ≤ b := by
  have : ((b : Rat) + 1) = ((b + 1 : Int) : Rat) := by rw [Rat.intCast_add]; rfl
  rw [this] at h
  have := Rat.intCast_lt_intCast.1 h
  omega

set_option maxRecDepth 100000 in
set_option maxHeartbeats 1000000 in
theorem nearest101 {v : Nat} {x : Rat} (c : Int) (hv : Num v x) (hc : c.natAbs ≤ 1125899906842624) (h : ab (x - (c : Rat)) ≤ 1 / 8) (w : World) :
    Calls Tagg.prog 101 #[.float .f64 v] w fun e w' => e = .returned (.tuple #[.int .i64 c, .bool true]) ∧ w' = w := by
  have hl := le_ab (x - (c : Rat))
  have hcR : (c : Rat) ≤ 1125899906842624 ∧ -1125899906842624 ≤ (c : Rat) := by
    refine ⟨?_, ?_⟩
    · have := Rat.intCast_le_intCast.2 (show c ≤ 1125899906842624 by omega)
      exact this
    · have := Rat.intCast_le_intCast.2 (show -1125899906842624 ≤ c by omega)
      rw [Rat.intCast_neg] at this
      exact this
  have o1 := ord_lt hv big_num (by grind)
  have o2 := ord_gt hv nbig_num (by grind)
  obtain ⟨n, hn, hcase⟩ := trunc_num hv (by
    rw [show (2 : Rat) ^ (52 : Int) = ((2 ^ 52 : Nat) : Rat) from z2_nat 52, show ((2 ^ 52 : Nat) : Rat) = 4503599627370496 from rfl]
    apply ab_le <;> grind)
  have rc := fun w => run_convert_float_int (P := Tagg.prog) w 46 2 .f64 .i64 v n (by rw [Tagg.underlying46]; rfl) Tagg.underlying2 hn
  -- the last difference
  obtain ⟨s1, d1, nd1, hd1⟩ := sub_near c hv (by omega) (by grind)
  have hQ := quarter100 nd1 (by
    have := le_ab (d1 - (x - (c : Rat)))
    unfold ab
    split <;> grind)
  have rs1 := fun w t => run_float_arith (P := Tagg.prog) w .sub t .f64 _ _ _ s1
  have fc := fi_convI c (by omega)
  -- which integer was cut
  have hncase : n = c ∨ (n = c - 1 ∧ 7 / 8 ≤ x - (n : Rat) ∧ x - (n : Rat) ≤ 1) ∨ (n = c + 1 ∧ x - (n : Rat) ≤ -(7 / 8) ∧ -1 ≤ x - (n : Rat)) := by
    rcases hcase with ⟨x0, a1, a2⟩ | ⟨x0, a1, a2⟩
    · have b1 : n ≤ c := int_le (by grind)
      have b2 : c ≤ n + 1 := int_le (by rw [Rat.intCast_add, show ((1 : Int) : Rat) = 1 from rfl]; grind)
      by_cases e : n = c
      · exact .inl e
      · have e2 : n = c - 1 := by omega
        refine .inr (.inl ⟨e2, ?_, by grind⟩)
        have e3 : (n : Rat) = (c : Rat) - 1 := by rw [e2, Rat.intCast_sub]; rfl
        grind
    · have b1 : c ≤ n := int_le (by grind)
      have b2 : n ≤ c + 1 := int_le (by rw [Rat.intCast_add, show ((1 : Int) : Rat) = 1 from rfl]; grind)
      by_cases e : n = c
      · exact .inl e
      · have e2 : n = c + 1 := by omega
        refine .inr (.inr ⟨e2, ?_, by grind⟩)
        have e3 : (n : Rat) = (c : Rat) + 1 := by rw [e2, Rat.intCast_add]; rfl
        grind
  have hnb : n.natAbs < 2 ^ 53 := by omega
  have fn := fi_convI n hnb
  obtain ⟨s2, d2, nd2, hd2⟩ := sub_near n hv hnb (by
    rcases hncase with e | ⟨e, a1, a2⟩ | ⟨e, a1, a2⟩
    · rw [e]; grind
    · apply ab_le <;> grind
    · apply ab_le <;> grind)
  have rs2 := fun w t => run_float_arith (P := Tagg.prog) w .sub t .f64 _ _ _ s2
  have hl2 := le_ab (d2 - (x - (n : Rat)))
  have hpick : Hid ((n = c ∧ FloatKind.f64.format.order (fsub v (fi n)) 4602678819172646912 = some .lt ∧ FloatKind.f64.format.order (fsub v (fi n)) 13826050856027422720 = some .gt) ∨
      (n = c - 1 ∧ FloatKind.f64.format.order (fsub v (fi n)) 4602678819172646912 = some .gt ∧ FloatKind.f64.format.order (fsub v (fi n)) 13826050856027422720 = some .gt) ∨
      (n = c + 1 ∧ FloatKind.f64.format.order (fsub v (fi n)) 4602678819172646912 = some .lt ∧ FloatKind.f64.format.order (fsub v (fi n)) 13826050856027422720 = some .lt)) := by
    rcases hncase with e | ⟨e, a1, a2⟩ | ⟨e, a1, a2⟩
    · have e3 : (n : Rat) = (c : Rat) := by rw [e]
      exact .inl ⟨e, ord_lt nd2 half_num (by grind), ord_gt nd2 nhalf_num (by grind)⟩
    · exact .inr (.inl ⟨e, ord_gt nd2 half_num (by grind), ord_gt nd2 nhalf_num (by grind)⟩)
    · exact .inr (.inr ⟨e, ord_lt nd2 half_num (by grind), ord_lt nd2 nhalf_num (by grind)⟩)
  clear hcase hn hv h hl hcR nd1 hd1 s1 hncase s2 nd2 hd2 hl2
  rcases hpick.out with ⟨e, p1, p2⟩ | ⟨e, p1, p2⟩ | ⟨e, p1, p2⟩
  · clear hpick
    subst e
    generalize fsub v (fi n) = d at *
    generalize fi n = f at *
    go_enter Tagg.func101, Tagg.ntmps101
    go_wp2_with fail
    with_reducible refine (hQ _).mono ?_
    rintro e w1 ⟨rfl, rfl⟩
    go_wp2
    go_ret2
    exact ⟨rfl, rfl⟩
  · clear hpick
    have v1 : IntKind.i64.wrap (n + 1) = c := by rw [show n + 1 = c by omega]; exact IntWalk.i64_in _ ⟨by omega, by omega⟩
    generalize fsub v (fi n) = d at *
    generalize fi n = f at *
    generalize fsub v (fi c) = dc at *
    generalize fi c = fcc at *
    clear e
    go_enter Tagg.func101, Tagg.ntmps101
    go_wp2_with fail
    with_reducible refine (hQ _).mono ?_
    rintro e w1 ⟨rfl, rfl⟩
    go_wp2
    go_ret2
    exact ⟨rfl, rfl⟩
  · clear hpick
    have v1 : IntKind.i64.wrap (n - 1) = c := by rw [show n - 1 = c by omega]; exact IntWalk.i64_in _ ⟨by omega, by omega⟩
    generalize fsub v (fi n) = d at *
    generalize fi n = f at *
    generalize fsub v (fi c) = dc at *
    generalize fi c = fcc at *
    clear e
    go_enter Tagg.func101, Tagg.ntmps101
    go_wp2_with fail
    with_reducible refine (hQ _).mono ?_
    rintro e w1 ⟨rfl, rfl⟩
    go_wp2
    go_ret2
    exact ⟨rfl, rfl⟩

theorem quarter_any {v : Nat} {x : Rat} (hx : Num v x) : ∃ b : Bool, ∀ w : World, Calls Tagg.prog 100 #[.float .f64 v] w fun e w' => e = .returned (.bool b) ∧ w' = w := by
  have o1 := order_num hx quart_num
  have o2 := order_num hx nquart_num
  have key : ∀ (r1 r2 : Ordering), FloatKind.f64.format.order v 4598175219545276416 = some r1 → FloatKind.f64.format.order v 13821547256400052224 = some r2 → ∃ b : Bool, ∀ w : World, Calls Tagg.prog 100 #[.float .f64 v] w fun e w' => e = .returned (.bool b) ∧ w' = w := by
    intro r1 r2 p1 p2
    cases r1 <;> cases r2
    case lt.lt => refine ⟨false, fun w => ?_⟩; go_enter Tagg.func100, Tagg.ntmps100; go_wp2; go_ret; exact ⟨rfl, rfl⟩
    case lt.eq => refine ⟨true, fun w => ?_⟩; go_enter Tagg.func100, Tagg.ntmps100; go_wp2; go_ret; exact ⟨rfl, rfl⟩
    case lt.gt => refine ⟨true, fun w => ?_⟩; go_enter Tagg.func100, Tagg.ntmps100; go_wp2; go_ret; exact ⟨rfl, rfl⟩
    case eq.lt => refine ⟨false, fun w => ?_⟩; go_enter Tagg.func100, Tagg.ntmps100; go_wp2; go_ret; exact ⟨rfl, rfl⟩
    case eq.eq => refine ⟨true, fun w => ?_⟩; go_enter Tagg.func100, Tagg.ntmps100; go_wp2; go_ret; exact ⟨rfl, rfl⟩
    case eq.gt => refine ⟨true, fun w => ?_⟩; go_enter Tagg.func100, Tagg.ntmps100; go_wp2; go_ret; exact ⟨rfl, rfl⟩
    case gt.lt => refine ⟨false, fun w => ?_⟩; go_enter Tagg.func100, Tagg.ntmps100; go_wp2; go_ret; exact ⟨rfl, rfl⟩
    case gt.eq => refine ⟨false, fun w => ?_⟩; go_enter Tagg.func100, Tagg.ntmps100; go_wp2; go_ret; exact ⟨rfl, rfl⟩
    case gt.gt => refine ⟨false, fun w => ?_⟩; go_enter Tagg.func100, Tagg.ntmps100; go_wp2; go_ret; exact ⟨rfl, rfl⟩
  rcases o1 with ⟨_, e1⟩ | ⟨_, e1⟩ | ⟨_, e1⟩ <;> rcases o2 with ⟨_, e2⟩ | ⟨_, e2⟩ | ⟨_, e2⟩
  all_goals exact key _ _ e1 e2
end Go.Proofs.Ygctag
