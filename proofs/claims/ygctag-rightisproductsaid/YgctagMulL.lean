import Derived.Test.YgctagLong
import Derived.Deep.DeepCutAuto
import Derived.Deep.CutBlock
namespace Go.Proofs.Ygctag
open Go.RowKit
attribute [local go_sem] eql30 neq30

/-- n digits A that can be read, in a row. -/
def Src (w : World) (a : Option Addr) (n : Nat) (A : Nat → Int) : Prop := Sl w a n (fun i => .int .u8 (A i)) ∧ Bytes A n ∧ (0 < n → ∃ g o N f, a = some ⟨g, o, none⟩ ∧ w.rowIs g 5 N f)
theorem Src.below {w w' : World} {a : Option Addr} {n : Nat} {A : Nat → Int} (h : Src w a n A) (hb : Below w.heap.size w w') : Src w' a n A :=
  ⟨h.1.below hb, h.2.1, fun h0 => by obtain ⟨g, o, N, f, e, r⟩ := h.2.2 h0; exact ⟨g, o, N, f, e, r.of_block (hb.block g r.lt)⟩⟩
theorem Src.take {w : World} {a : Option Addr} {n m : Nat} {A : Nat → Int} (h : Src w a n A) (hm : m ≤ n) : Src w a m A :=
  ⟨h.1.take hm, fun i hi => h.2.1 i (by omega), fun h0 => h.2.2 (by omega)⟩
theorem cutV_slice (a : Option Addr) (n : Nat) : ∃ a', cutV a n = .slice a' n n ∧ (0 < n → a' = a) := by
  by_cases h : n = 0
  · subst h; exact ⟨none, rfl, fun h => absurd h (by decide)⟩
  · exact ⟨a, cutV_pos h, fun _ => rfl⟩
/-- In two blocks, or one and the same. -/
def Sep (a b : Option Addr) (la lb : Nat) (A B : Nat → Int) : Prop := (∀ g1 o1 g2 o2, a = some ⟨g1, o1, none⟩ → b = some ⟨g2, o2, none⟩ → g1 ≠ g2) ∨ (a = b ∧ la = lb ∧ A = B)

/-- What is asked of the road for wide factors, up to L digits. -/
def WideC (L : Nat) : Prop := ∀ np nq : Nat, 192 ≤ nq → nq ≤ np → np ≤ L → ∃ k : Nat, k ≤ 23 ∧ (∀ w, Calls Tagg.prog 90 #[.int .i64 np, .int .i64 nq] w fun e w' => e = .returned (.int .u8 (k : Int)) ∧ w' = w) ∧
  (k ≠ 0 → ∀ (p q : Option Addr) (P Q : Nat → Int) (w : World), Src w p np P → Src w q nq Q → Sep p q np nq P Q → Calls Tagg.prog 91 #[.slice p np np, .slice q nq nq, .int .u8 (k : Int)] w fun e w' => ∃ v, e = .returned v ∧ NatOwn w' w.heap.size v (val P np * val Q nq) ∧ Below w.heap.size w w')
theorem blk_cnt (la h : Nat) (h0 : 0 < h) (hl : 0 < la) : la ≤ (la + h - 1) / h * h ∧ 0 < (la + h - 1) / h := by
  have h1 := Nat.div_add_mod (la + h - 1) h
  have h2 := Nat.mod_lt (la + h - 1) h0
  rw [Nat.mul_comm] at h1
  refine ⟨by omega, ?_⟩
  exact Nat.div_pos (by omega) h0

theorem natOwn_mono {w : World} {B B' : Nat} {v : Value} {V : Int} (h : NatOwn w B v V) (hb : B' ≤ B) : NatOwn w B' v V := by
  obtain ⟨g, n, N, h1, h2⟩ := h
  exact ⟨g, n, N, by omega, h2⟩
theorem below_drewN {B : Nat} {a w : World} (h : Below B a w) (d : Nat) : Below B a (w.drewN d) := ⟨h.os, h.tape, h.output, h.size, h.block⟩
theorem sameMem_ok (p q : Option Addr) (np nq : Nat) (P Q : Nat → Int) (w : World) (hp : 0 < np) (hq : 0 < nq) (hx : Src w p np P) (hy : Src w q nq Q) (hs : Sep p q np nq P Q) :
    Calls Tagg.prog 93 #[.slice p np np, .slice q nq nq] w fun e w' => ∃ s : Bool, e = .returned (.bool s) ∧ (s = true → np = nq ∧ P = Q) ∧ Below w.heap.size w w' ∧ w'.heap.size = w.heap.size := by
  by_cases hl : np = nq
  · subst hl
    obtain ⟨g1, o1, N1, f1, rfl, r1⟩ := hx.2.2 hp
    obtain ⟨g2, o2, N2, f2, rfl, r2⟩ := hy.2.2 hp
    rcases hs with h | ⟨h1, h2, h3⟩
    · refine (sameMem_blk g1 g2 o1 o2 np np np N1 N2 f1 f2 w (h _ _ _ _ rfl rfl) hp r1 r2).mono ?_
      rintro e w' ⟨rfl, d, rfl⟩
      exact ⟨false, rfl, fun h => absurd h (by decide), below_drewN (Below.refl _ _) d, rfl⟩
    · injection h1 with h1
      injection h1 with h4 h5
      subst h4 h5
      refine (sameMem_same g1 o1 np np np w hp).mono ?_
      rintro e w' ⟨rfl, d, rfl⟩
      exact ⟨true, rfl, fun _ => ⟨rfl, h3⟩, below_drewN (Below.refl _ _) d, rfl⟩
  · refine (sameMem_len p q np nq np nq w hl).mono ?_
    rintro e w' ⟨rfl, d, rfl⟩
    exact ⟨false, rfl, fun h => absurd h (by decide), below_drewN (Below.refl _ _) d, rfl⟩

set_option maxRecDepth 100000 in
set_option maxHeartbeats 4000000 in
theorem mulLong_ok (L : Nat) (hL : L ≤ 262144) (hwd : WideC L) (a b : Option Addr) (la lb ca cb : Nat) (A B : Nat → Int) (w : World) (hca : la ≤ ca) (hcb : lb ≤ cb) (hca2 : ca ≤ 1000000000) (hcb2 : cb ≤ 1000000000) (hla : la ≤ L) (hlb : lb ≤ L)
    (hx : Src w a la A) (hy : Src w b lb B) (hsep : Sep a b la lb A B) :
    Calls Tagg.prog 51 #[.slice a la ca, .slice b lb cb] w fun e w' => ∃ v, e = .returned v ∧ NatOwn w' w.heap.size v (val A la * val B lb) ∧ Below w.heap.size w w' := by
  have hS1 := strip89 a la ca A w hca (by omega) hx.1
  have hS2 := strip89 b lb cb B w hcb (by omega) hy.1
  have ta := trimLen_le A la
  have tb := trimLen_le B lb
  have vA := val_trim A la
  have vB := val_trim B lb
  have hx' := hx.take ta
  have hy' := hy.take tb
  have hsep' : Sep a b (trimLen A la) (trimLen B lb) A B := by
    rcases hsep with h | ⟨h1, h2, h3⟩
    · exact .inl h
    · subst h1 h2 h3; exact .inr ⟨rfl, rfl, rfl⟩
  obtain ⟨V, hV⟩ : ∃ V, V = val A la * val B lb := ⟨_, rfl⟩
  have hV2 : V = val A (trimLen A la) * val B (trimLen B lb) := by rw [hV, vA, vB]
  rw [← hV]
  clear vA vB hx hy hsep hV
  generalize trimLen A la = na at *
  generalize trimLen B lb = nb at *
  obtain ⟨a', hca', haa⟩ := cutV_slice a na
  obtain ⟨b', hcb', hbb⟩ := cutV_slice b nb
  rw [hca'] at hS1
  rw [hcb'] at hS2
  have hxs : Src w a' na A := ⟨fun i hi => by rw [haa (by omega)]; exact hx'.1 i hi, hx'.2.1, fun h0 => by rw [haa h0]; exact hx'.2.2 h0⟩
  have hys : Src w b' nb B := ⟨fun i hi => by rw [hbb (by omega)]; exact hy'.1 i hi, hy'.2.1, fun h0 => by rw [hbb h0]; exact hy'.2.2 h0⟩
  have hss : 0 < na → 0 < nb → Sep a' b' na nb A B := fun h1 h2 => by rw [haa h1, hbb h2]; exact hsep'
  clear hx' hy' hsep' hca' hcb' haa hbb
  go_enter Tagg.func51, Tagg.ntmps51
  go_wp2_with fail
  with_reducible refine hS1.mono ?_
  rintro e w1 ⟨rfl, rfl⟩
  go_wp2_with fail
  with_reducible refine hS2.mono ?_
  rintro e w2 ⟨rfl, rfl⟩
  clear hS1 hS2
  have hVH : Hid (V = val A na * val B nb) := hV2
  clear hV2
  go_upto_if 20 with fail
  go_cut [0, 1] (fun va vb wx => ∃ (p q : Option Addr) (np nq : Nat) (P Q : Nat → Int), va = .slice p np np ∧ vb = .slice q nq nq ∧ nq ≤ np ∧ np ≤ L ∧ Src w2 p np P ∧ Src w2 q nq Q ∧ (0 < np → 0 < nq → Sep p q np nq P Q) ∧ V = val P np * val Q nq ∧ w2 = wx)
  case first =>
    by_cases hlt : na < nb
    · have i1 : (na : Int) < nb := by omega
      have hs2 : 0 < nb → 0 < na → Sep b' a' nb na B A := fun h1 h2 => by
        rcases hss h2 h1 with h | ⟨e1, e2, e3⟩
        · exact .inl fun g1 o1 g2 o2 h3 h4 => Ne.symm (h g2 o2 g1 o1 h4 h3)
        · exact .inr ⟨e1.symm, e2.symm, e3.symm⟩
      have hrel : Hid (∃ (p q : Option Addr) (np nq : Nat) (P Q : Nat → Int), Value.slice b' nb nb = .slice p np np ∧ Value.slice a' na na = .slice q nq nq ∧ nq ≤ np ∧ np ≤ L ∧ Src w2 p np P ∧ Src w2 q nq Q ∧ (0 < np → 0 < nq → Sep p q np nq P Q) ∧ V = val P np * val Q nq) :=
        ⟨b', a', nb, na, B, A, rfl, rfl, by omega, by omega, hys, hxs, hs2, by rw [hVH.out, Int.mul_comm]⟩
      clear hxs hys hss hs2
      go_wp2
      go_meet
      obtain ⟨p, q, np, nq, P, Q, h1, h2, h3, h4, h5, h6, h7, h8⟩ := hrel.out
      exact ⟨p, q, np, nq, P, Q, h1, h2, h3, h4, h5, h6, h7, h8, rfl⟩
    · have i1 : (nb : Int) ≤ na := by omega
      have hrel : Hid (∃ (p q : Option Addr) (np nq : Nat) (P Q : Nat → Int), Value.slice a' na na = .slice p np np ∧ Value.slice b' nb nb = .slice q nq nq ∧ nq ≤ np ∧ np ≤ L ∧ Src w2 p np P ∧ Src w2 q nq Q ∧ (0 < np → 0 < nq → Sep p q np nq P Q) ∧ V = val P np * val Q nq) :=
        ⟨a', b', na, nb, A, B, rfl, rfl, by omega, by omega, hxs, hys, hss, hVH.out⟩
      clear hxs hys hss
      go_wp2
      go_meet
      obtain ⟨p, q, np, nq, P, Q, h1, h2, h3, h4, h5, h6, h7, h8⟩ := hrel.out
      exact ⟨p, q, np, nq, P, Q, h1, h2, h3, h4, h5, h6, h7, h8, rfl⟩
  case rest =>
    clear hxs hys hss hVH
    obtain ⟨p, q, np, nq, P, Q, rfl, rfl, hnq, hnp, hxs, hys, hss, hV, rfl⟩ := hcut
    have hVH : Hid (V = val P np * val Q nq) := hV
    clear hV
    by_cases hsh : nq < 192
    · have i1 : (nq : Int) < 192 := by omega
      have hM := school_ok p q np np nq nq P Q w2 (Nat.le_refl _) (Nat.le_refl _) (by omega) (by omega) (by omega) (by omega) hxs.1 hys.1 hxs.2.1 hys.2.1
      clear hxs hys hss
      go_wp2_with fail
      with_reducible refine hM.mono ?_
      rintro e w3 ⟨v, rfl, hown, hbel⟩
      rw [← hVH.out] at hown
      go_wp2
      go_ret
      exact ⟨_, rfl, hown, hbel⟩
    · have i1 : (192 : Int) ≤ nq := by omega
      obtain ⟨kw, hkw, hW, hWW⟩ := hwd np nq (by omega) hnq hnp
      go_wp2_with fail
      with_reducible refine (hW _).mono ?_
      rintro e w3 ⟨rfl, rfl⟩
      clear hW
      by_cases hk0 : kw = 0
      · subst hk0
        clear hWW
        go_upto_block 0 with fail
        go_cut [6] (fun v wx => ∃ k h : Nat, k ≤ 9 ∧ h = 2 ^ k ∧ 256 ≤ h ∧ v = .int .i64 (h : Int) ∧ w3 = wx)
        case first =>
          clear hxs hys hss hVH
          go_wp2_with fail
          go_loopw [6] (fun v wr => ∃ k h : Nat, k ≤ 9 ∧ h = 2 ^ k ∧ v = .int .i64 (h : Int) ∧ wr = w3) (fun v _ => 1024 - (intOf v).toNat)
          case atStart => exact ⟨0, 1, by omega, rfl, rfl, rfl⟩
          case round =>
            obtain ⟨k, h, hk, hh, rfl, rfl⟩ := hrel
            have hle : 2 ^ k ≤ 2 ^ 9 := Nat.pow_le_pow_right (by decide) hk
            have hh5 : h ≤ 512 := by omega
            have hh0 : 0 < h := by rw [hh]; exact Nat.two_pow_pos k
            have hH : Hid (h = 2 ^ k) := hh
            clear hle
            by_cases hlt : h < nq ∧ h < 512
            · have j1 : (h : Int) < nq := by omega
              have j2 : (h : Int) < 512 := by omega
              have hk9 : k + 1 ≤ 9 := by
                by_cases h9 : k = 9
                · subst h9; omega
                · omega
              clear hh
              go_wp2
              go_roundw
              case rel => exact ⟨k + 1, 2 * h, by omega, by rw [hH.out, Nat.pow_succ]; omega, by go_num, by trivial⟩
              case measure => simp [intOf]; omega
            · have hge : 192 ≤ h := by omega
              have hge2 : 256 ≤ h := by
                by_cases h8 : k ≤ 7
                · have := Nat.pow_le_pow_right (n := 2) (by decide) h8; omega
                · have := Nat.pow_le_pow_right (n := 2) (by decide) (show 8 ≤ k by omega); omega
              clear hh
              have hfin : Hid (∃ k' h' : Nat, k' ≤ 9 ∧ h' = 2 ^ k' ∧ 256 ≤ h' ∧ Value.int .i64 (h : Int) = .int .i64 (h' : Int)) := ⟨k, h, hk, hH.out, hge2, rfl⟩
              by_cases hq : h < nq
              · have j1 : (h : Int) < nq := by omega
                have j2 : (512 : Int) ≤ h := by omega
                clear hlt
                go_wp2
                go_meet
                obtain ⟨k', h', q1, q2, q3, q4⟩ := hfin.out
                exact ⟨k', h', q1, q2, q3, q4, rfl⟩
              · have j1 : (nq : Int) ≤ h := by omega
                clear hlt
                go_wp2
                go_meet
                obtain ⟨k', h', q1, q2, q3, q4⟩ := hfin.out
                exact ⟨k', h', q1, q2, q3, q4, rfl⟩
        case rest =>
          obtain ⟨k, h, hk, hh, hge, rfl, rfl⟩ := hcut
          have hle : 2 ^ k ≤ 2 ^ 9 := Nat.pow_le_pow_right (by decide) hk
          have hh5 : h ≤ 512 := by omega
          have hH : Hid (h = 2 ^ k) := hh
          clear hh hle
          obtain ⟨nx, hnx⟩ : ∃ nx, nx = (np + h - 1) / h := ⟨_, rfl⟩
          obtain ⟨ny, hny⟩ : ∃ ny, ny = (nq + h - 1) / h := ⟨_, rfl⟩
          have cx := blk_cnt np h (by omega) (by omega)
          have cy := blk_cnt nq h (by omega) (by omega)
          have hB1 := blocks_ok k h np np p P w3 hk hH.out (by omega) (by omega) hxs.1 hxs.2.1
          rw [← hnx] at cx hB1
          rw [← hny] at cy
          have hnx4 : nx ≤ 1024 := by rw [hnx]; apply Nat.lt_succ_iff.mp; exact Nat.div_lt_of_lt_mul (by omega)
          have hny4 : ny ≤ 1024 := by rw [hny]; apply Nat.lt_succ_iff.mp; exact Nat.div_lt_of_lt_mul (by omega)
          have hnxH : Hid (nx = (np + h - 1) / h) := hnx
          have hnyH : Hid (ny = (nq + h - 1) / h) := hny
          clear hnx hny
          have hPb := hxs.2.1
          have hQb := hys.2.1
          go_wp2_with fail
          with_reducible refine hB1.mono ?_
          rintro e w4 ⟨xb, rfl, hxb, hxr, hbel4⟩
          clear hB1
          have hx4 := hxs.below hbel4
          have hy4 := hys.below hbel4
          clear hxs hys
          have hlx := hxr.lt
          have hS := sameMem_ok p q np nq P Q w4 (by omega) (by omega) hx4 hy4 (hss (by omega) (by omega))
          go_wp2_with fail
          with_reducible refine hS.mono ?_
          rintro e w5 ⟨sm, rfl, hsm, hbel5, hsz5⟩
          clear hS
          have hxr5 := hxr.of_block (hbel5.block xb hxr.lt)
          have hy5 := hy4.below hbel5
          have hbel35 : Below w3.heap.size w3 w5 := hbel4.trans (hbel5.mono hbel4.size)
          clear hxr hx4 hy4 hbel4 hbel5 hss
          go_upto_if 57 with fail
          go_cut [8] (fun v wx => ∃ yb : Nat, v = .slice (some ⟨yb, 0, none⟩) (ny * (2 * h) : Nat) (ny * (2 * h) : Nat) ∧ wx.rowIs xb 126 (nx * (2 * h)) (fun i => .int .u32 (Tr (blk P np h) (k + 1) (2 * h) i)) ∧ wx.rowIs yb 126 (ny * (2 * h)) (fun i => .int .u32 (Tr (blk Q nq h) (k + 1) (2 * h) i)) ∧ Below w3.heap.size w3 wx)
          case first =>
            cases sm with
            | true =>
              obtain ⟨rfl, rfl⟩ := hsm rfl
              have hfin : Hid (w5.rowIs xb 126 (nx * (2 * h)) (fun i => .int .u32 (Tr (blk P np h) (k + 1) (2 * h) i)) ∧ Below w3.heap.size w3 w5) := ⟨hxr5, hbel35⟩
              have hnn : ny = nx := by rw [hnxH.out, hnyH.out]
              subst hnn
              clear hsm hxr5 hbel35 hy5
              go_wp2
              go_meet
              exact ⟨xb, rfl, hfin.out.1, hfin.out.1, hfin.out.2⟩
            | false =>
              have hB2 := blocks_ok k h nq nq q Q w5 hk hH.out (by omega) (by omega) hy5.1 hy5.2.1
              rw [← hnyH.out] at hB2
              clear hsm hy5
              go_wp2_with fail
              with_reducible refine hB2.mono ?_
              rintro e w6 ⟨yb, rfl, hyb, hyr, hbel6⟩
              have hfin : Hid (w6.rowIs xb 126 (nx * (2 * h)) (fun i => .int .u32 (Tr (blk P np h) (k + 1) (2 * h) i)) ∧ w6.rowIs yb 126 (ny * (2 * h)) (fun i => .int .u32 (Tr (blk Q nq h) (k + 1) (2 * h) i)) ∧ Below w3.heap.size w3 w6) := ⟨hxr5.of_block (hbel6.block xb hxr5.lt), hyr, hbel35.trans (hbel6.mono hbel35.size)⟩
              clear hB2 hyr hbel6 hxr5 hbel35
              go_wp2
              go_meet
              exact ⟨yb, rfl, hfin.out.1, hfin.out.2.1, hfin.out.2.2⟩
          case rest =>
            clear hxr5 hbel35 hy5 hsm hsz5 hxb hlx
            obtain ⟨yb, rfl, hxr, hyr, hbel⟩ := hcut
            have hC := convolve_ok k h xb nx yb ny (nx * (2 * h)) (ny * (2 * h)) (blk P np h) (blk Q nq h) 256 wc hk hH.out cx.2 cy.2 hnx4 hny4 (Nat.le_refl _) (Nat.le_refl _)
              (fun i p => blk_bound _ _ _ _ _ hPb) (fun i p => blk_bound _ _ _ _ _ hQb) (fun i p => blk_zero _ _ _ _ _) (fun i p => blk_zero _ _ _ _ _) hxr hyr
            have hvx := blk_val P np h 256 nx cx.1
            have hvy := blk_val Q nq h 256 ny cy.1
            have hVV : V = val P np * val Q nq := hVH.out
            clear hxr hyr hVH
            go_wp2_with fail
            with_reducible refine hC.mono ?_
            rintro e w7 ⟨cb, cc, rfl, hcb, hcr, hcc, hev, hbel7⟩
            rw [hvx, hvy] at hev
            have hev2 : V = val cc ((nx + ny) * h) := hVV.trans hev.symm
            have hlen : (nx + ny) * h ≤ 2097152 := Nat.le_trans (Nat.mul_le_mul (show nx + ny ≤ 2048 by omega) hh5) (by decide)
            have hK := carry_ok cb ((nx + ny) * h) ((nx + ny) * h) cc w7 hlen hcr hcc
            rw [← hev2] at hK
            have hbel37 := hbel.trans (hbel7.mono hbel.size)
            clear hC hcr hcc hev hev2 hVV hvx hvy hbel hbel7
            go_wp2_with fail
            with_reducible refine hK.mono ?_
            rintro e w8 ⟨v, rfl, hown, hbel8⟩
            have hfin : Hid (NatOwn w8 w3.heap.size v V ∧ Below w3.heap.size w3 w8) := ⟨natOwn_mono hown hbel37.size, hbel37.trans (hbel8.mono hbel37.size)⟩
            clear hown hbel8 hbel37 hK
            go_wp2
            go_ret
            exact ⟨_, rfl, hfin.out.1, hfin.out.2⟩
      · have hWc := hWW hk0 p q P Q w3 hxs hys (hss (by omega) (by omega))
        rw [← hVH.out] at hWc
        have k1 : (0 : Int) < kw := by omega
        clear hWW hxs hys hss
        go_wp2_with fail
        with_reducible refine hWc.mono ?_
        rintro e w4 ⟨v, rfl, hown, hbel⟩
        have hfin : Hid (NatOwn w4 w3.heap.size v V ∧ Below w3.heap.size w3 w4) := ⟨hown, hbel⟩
        clear hown hbel hWc
        go_wp2
        go_ret
        exact ⟨_, rfl, hfin.out.1, hfin.out.2⟩
end Go.Proofs.Ygctag
