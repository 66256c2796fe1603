import Derived.Test.YgctagAccC
namespace Go.Proofs.Ygctag
open Go.RowKit

/-- One word of V - X. -/
def SubC (V X : Int) (q : Nat) (d c : Int) : Prop := ∀ w, Calls Tagg.prog 103 #[.int .u64 (dgZ V q), .int .u64 d, .int .u64 c] w fun e w' =>
  e = .returned (.tuple #[.int .u64 (dgZ (V - X) q), .int .u64 (borrowZ V X (q + 1))]) ∧ w' = w
theorem SubC.out {V X : Int} {q : Nat} {d c : Int} (h : SubC V X q d c) (w : World) : Calls Tagg.prog 103 #[.int .u64 (dgZ V q), .int .u64 d, .int .u64 c] w fun e w' =>
  e = .returned (.tuple #[.int .u64 (dgZ (V - X) q), .int .u64 (borrowZ V X (q + 1))]) ∧ w' = w := h w
theorem subC (V X : Int) (q : Nat) (d c : Int) (hd : dgZ X q = d) (hc : borrowZ V X q = c) : SubC V X q d c := by
  intro w
  have h := accsub_any (dgZ V q) (dgZ X q) (borrowZ V X q) (dgZ_nonneg _ _) (dgZ_nonneg _ _) (dgZ_lt _ _) (borrowZ_bound V X q).1 (borrowZ_bound V X q).2 w
  unfold borI at h
  rw [← (sub_word V X q).1, ← (sub_word V X q).2, hd, hc] at h
  exact h

set_option maxRecDepth 100000 in
set_option maxHeartbeats 2000000 in
theorem accPlace_neg (a lo i : Nat) (V : Int) (w : World) (hlo : lo < 18446744073709551616) (hi : i < 4160) (ha : AccAt w a V) :
    Calls Tagg.prog 68 #[.pointer (some ⟨a, 0, none⟩), .bool true, .int .u64 0, .int .u64 lo, .int .i64 i] w fun e w' => e = .returned (.tuple #[]) ∧ AccAt w' a (V - (lo : Int) * 2 ^ i) ∧ w.grownBy w' (some a) := by
  obtain ⟨wd, hwd⟩ : ∃ wd, wd = i / 64 := ⟨_, rfl⟩
  obtain ⟨s, hs⟩ : ∃ s, s = i % 64 := ⟨_, rfl⟩
  have e1 : (i : Int) / 64 = (wd : Int) := by omega
  have e2 : (i : Int) % 64 = (s : Int) := by omega
  have hw : wd ≤ 64 := by omega
  have hs64 : s < 64 := by omega
  obtain ⟨t1, t2, t3⟩ := two_words lo s hlo hs64
  have p1 : 0 ≤ (lo : Int) * 2 ^ s % 18446744073709551616 := Int.emod_nonneg _ (by decide)
  have p2 : (lo : Int) * 2 ^ s % 18446744073709551616 < 18446744073709551616 := Int.emod_lt_of_pos _ (by decide)
  obtain ⟨x1, x2, x3, x4⟩ := placed _ _ p1 p2 t2 t3 wd
  have ew : IntKind.u64.wrap ((lo : Int) * 2 ^ s) = (lo : Int) * 2 ^ s % 18446744073709551616 := u64w _
  have eo : bits .or .u64 0 ((lo : Int) / 2 ^ (64 - s)) = (lo : Int) / 2 ^ (64 - s) := by
    obtain ⟨Y, hY⟩ := Int.eq_ofNat_of_zero_le t2
    rw [hY]
    have := bits_or_u64_nat 0 Y (by decide) (by omega)
    rw [Nat.zero_or] at this
    exact this
  have ei : (lo : Int) * 2 ^ i = ((lo : Int) * 2 ^ s % 18446744073709551616 + (lo : Int) / 2 ^ (64 - s) * 18446744073709551616) * P64 wd := by
    rw [t1, P64, pow_cast, Int.mul_assoc, ← Int.pow_add]
    congr 2; omega
  rw [ei]
  have xc := borrow_at V ((lo : Int) * 2 ^ s % 18446744073709551616 + (lo : Int) / 2 ^ (64 - s) * 18446744073709551616) wd
  have xl := fun j h => dgZ_low V (-((lo : Int) * 2 ^ s % 18446744073709551616 + (lo : Int) / 2 ^ (64 - s) * 18446744073709551616)) (i := wd) (j := j) h
  rw [Int.neg_mul, ← Int.sub_eq_add_neg] at xl
  generalize ((lo : Int) * 2 ^ s % 18446744073709551616 + (lo : Int) / 2 ^ (64 - s) * 18446744073709551616) * P64 wd = X at *
  obtain ⟨Q, hQ⟩ : ∃ Q, (lo : Int) / 2 ^ (64 - s) = Q := ⟨_, rfl⟩
  rw [hQ] at eo t2 t3 x2
  generalize (lo : Int) * 2 ^ s % 18446744073709551616 = Pp at *
  have x5 := dgZ_small x3 x4 (Nat.le_refl (wd + 2))
  clear ei t1 hs hwd
  have hr0 : w.rowIs a 44 68 (fun j => .int .u64 (if j < wd then dgZ (V - X) j else dgZ V j)) := ha.row.congr fun j hj => by
    by_cases h : j < wd
    · rw [if_pos h, xl j h]
    · rw [if_neg h]
  have step : Hid (∀ (wr : World) (q : Nat), q < 68 → w.grownBy wr (some a) → wr.rowIs a 44 68 (fun j => .int .u64 (if j < q then dgZ (V - X) j else dgZ V j)) →
      wr.cell? ⟨a, q, none⟩ = some (.int .u64 (dgZ V q)) ∧ wr.frozen? ⟨a, q, none⟩ = false ∧
      (∀ wx, wx = (wr.setCell ⟨a, q, none⟩ (.int .u64 (dgZ (V - X) q))).drew → w.grownBy wx (some a) ∧ wx.rowIs a 44 68 (fun j => .int .u64 (if j < q + 1 then dgZ (V - X) j else dgZ V j)))) := by
    show ∀ (wr : World) (q : Nat), _
    intro wr q hq hg hr
    refine ⟨?_, hr.frozen q, ?_⟩
    · have := hr.cell hq; rw [if_neg (Nat.lt_irrefl q)] at this; exact this
    · rintro wx rfl; exact ⟨grown_set hg 1 _ _, row_up hr⟩
  have hA1 := subC V X wd Pp 0 x1 xc
  have hA2 := subC V X (wd + 1) Q _ x2 rfl
  have hA3 := subC V X (wd + 2) 0 _ x5 rfl
  have hA4 : Hid (∀ q, wd + 2 ≤ q → SubC V X q 0 (borrowZ V X q)) := fun q hq => subC V X q 0 _ (dgZ_small x3 x4 hq) rfl
  have hdone : Hid (∀ q, wd + 2 ≤ q → borrowZ V X q = 0 → ∀ j, q ≤ j → dgZ (V - X) j = dgZ V j) := fun q hq hc j hj => (sub_done x3 (Int.lt_of_lt_of_le x4 (P64_mono hq)) hc j hj).1
  have hw1 : (wd : Int) ≤ 64 := by omega
  clear xl xc x1 x2 x3 x4 x5 p1 p2 hlo ha
  go_enter Tagg.func68, Tagg.ntmps68
  have zs : (0 : Int) / 2 ^ (64 - s) = 0 := Int.zero_ediv _
  go_wp2_with fail
  go_quiet (fail)
  go_upto_region 4 with fail
  have hr1 := row_draws hr0 nq
  have hg1 : w.grownBy (w.drewN nq) (some a) := ⟨rfl, rfl, rfl, Nat.le_refl _, fun _ _ _ => rfl⟩
  generalize w.drewN nq = w1 at *
  clear ew eo hQ e1 e2 hr0 zs t2 t3 hi hs64
  go_cut [15] (fun c wx => c = .int .u64 (borrowZ V X (wd + 1)) ∧ w.grownBy wx (some a) ∧ wx.rowIs a 44 68 (fun j => .int .u64 (if j < wd + 1 then dgZ (V - X) j else dgZ V j)))
  case first =>
    obtain ⟨c1, f1, n1⟩ := step.out w1 wd (by omega) hg1 hr1
    clear hg1 hr1
    go_region_with (go_at_call 103; with_reducible refine (hA1.out _).mono ?_; rintro e w2 ⟨rfl, rfl⟩)
    all_goals (go_wp2_with fail; go_meet; exact ⟨rfl, n1 _ rfl⟩)
  case rest =>
    obtain ⟨rfl, hg2, hr2⟩ := hcut
    clear hr1 hg1 hA1 w1
    go_upto_region 5 with fail
    go_cut [15] (fun c wx => c = .int .u64 (borrowZ V X (wd + 1 + 1)) ∧ w.grownBy wx (some a) ∧ wx.rowIs a 44 68 (fun j => .int .u64 (if j < wd + 1 + 1 then dgZ (V - X) j else dgZ V j)))
    case first =>
      obtain ⟨c1, f1, n1⟩ := step.out wc (wd + 1) (by omega) hg2 hr2
      clear hg2 hr2
      have i1 : (wd : Int) + 1 < 68 := by omega
      have i2 : 0 ≤ (wd : Int) + 1 := by omega
      have i3 : ((wd : Int) + 1).toNat = wd + 1 := by omega
      have i4 : IntKind.i64.wrap ((wd : Int) + 1) = (wd : Int) + 1 := IntWalk.i64_in _ ⟨by omega, by omega⟩
      go_region_with (go_at_call 103; with_reducible refine (hA2.out _).mono ?_; rintro e w2 ⟨rfl, rfl⟩)
      all_goals (go_wp2_with fail; go_meet; exact ⟨rfl, n1 _ rfl⟩)
    case rest =>
      obtain ⟨rfl, hg3, hr3⟩ := hcut
      clear hr2 hg2 hA2
      go_upto_region 6 with fail
      go_cut [15] (fun c wx => c = .int .u64 (borrowZ V X (wd + 2 + 1)) ∧ w.grownBy wx (some a) ∧ wx.rowIs a 44 68 (fun j => .int .u64 (if j < wd + 2 + 1 then dgZ (V - X) j else dgZ V j)))
      case first =>
        obtain ⟨c1, f1, n1⟩ := step.out _ (wd + 2) (by omega) hg3 hr3
        clear hg3 hr3
        have i1 : (wd : Int) + 2 < 68 := by omega
        have i2 : 0 ≤ (wd : Int) + 2 := by omega
        have i3 : ((wd : Int) + 2).toNat = wd + 2 := by omega
        have i4 : IntKind.i64.wrap ((wd : Int) + 2) = (wd : Int) + 2 := IntWalk.i64_in _ ⟨by omega, by omega⟩
        go_region_with (go_at_call 103; with_reducible refine (hA3.out _).mono ?_; rintro e w2 ⟨rfl, rfl⟩)
        all_goals (go_wp2_with fail; go_meet; exact ⟨rfl, n1 _ rfl⟩)
      case rest =>
        obtain ⟨rfl, hg4, hr4⟩ := hcut
        clear hr3 hg3 hA3
        go_wp2_with fail
        go_loopw [15, 16] (fun c i wr => ∃ q : Nat, wd + 3 ≤ q ∧ q ≤ 68 ∧ i = .int .i64 q ∧ c = .int .u64 (borrowZ V X q) ∧ w.grownBy wr (some a) ∧ wr.rowIs a 44 68 (fun j => .int .u64 (if j < q then dgZ (V - X) j else dgZ V j))) (fun _ i _ => 68 - (intOf i).toNat)
        case atStart => exact ⟨wd + 3, by omega, by omega, by go_num, rfl, hg4, hr4⟩
        case round =>
          clear hg4 hr4
          obtain ⟨q, hq0, hq, rfl, rfl, hg, hr⟩ := hrel
          by_cases hlt : q < 68
          · by_cases hc : borrowZ V X q = 0
            · go_wp2
              refine bodyPost_ret (v := .tuple #[]) (by simp [results, Tagg.results68, go_sem]) rfl ?_
              refine ⟨rfl, AccAt.of_row (hr.congr fun j hj => ?_), hg⟩
              by_cases h : j < q
              · rw [if_pos h]
              · rw [if_neg h, hdone.out q (by omega) hc j (by omega)]
            · obtain ⟨c1, f1, n1⟩ := step.out _ q hlt hg hr
              have hA := hA4.out q (by omega)
              have n2 := n1 _ rfl
              clear hg hr n1 step hA4 hdone
              go_wp2_with fail
              go_region_with (go_at_call 103; with_reducible refine (hA.out _).mono ?_; rintro e w2 ⟨rfl, rfl⟩)
              all_goals (go_wp2; exact ⟨⟨q + 1, by omega, by omega, by go_num, rfl, n2⟩, by simp [intOf]; omega⟩)
          · have e : q = 68 := by omega
            subst e
            go_wp2
            refine bodyPost_ret (v := .tuple #[]) (by simp [results, Tagg.results68, go_sem]) rfl ?_
            exact ⟨rfl, AccAt.of_row (hr.congr fun j hj => by rw [if_pos hj]), hg⟩
end Go.Proofs.Ygctag
