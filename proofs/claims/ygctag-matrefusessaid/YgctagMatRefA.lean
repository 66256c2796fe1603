import Derived.Test.YgctagMatR
namespace Go.Proofs.Ygctag
open Go.RowKit

theorem neq65 (w : World) (a : Option Addr) (n c : Nat) : (binOp .neq 65 (.slice a n c) (.slice none 0 0)).run Tagg.prog w = .ok (.bool (!a.isNone)) w := run_neq_slice_nil_any w 65 46 a n c 0 0 Tagg.underlying65
theorem eql65 (w : World) (a : Option Addr) (n c : Nat) : (binOp .eql 65 (.slice a n c) (.slice none 0 0)).run Tagg.prog w = .ok (.bool a.isNone) w := Lib.run_eql_slice_nil w 65 46 a n c 0 0 Tagg.underlying65
attribute [local go_sem] neq65 eql65

def insideB (rows cols other : Int) (S : Bool) : Bool := decide (S = true ∧ 0 ≤ other ∧ other < rows ∧ 0 < cols)

theorem row_below {w w' : World} {b : Nat} {t : TypeId} {n : Nat} {f : Nat → Value} (h : w.rowIs b t n f) (hb : Below w.heap.size w w') : w'.rowIs b t n f := h.of_block (hb.block b h.lt)

def basicB (r c s : Int) : Bool := decide (0 ≤ r ∧ 0 ≤ c ∧ r ≤ 512 ∧ c ≤ 512 ∧ c ≤ s)

theorem sound_fails {rows cols stride : Int} {n t : Nat} (h1 : 0 ≤ rows) (h5 : cols ≤ stride) (hc : 0 < cols) (ht : (t : Int) < rows) (h : (0 < t ∧ (n : Int) < stride) ∨ (n : Int) < (t : Int) * stride + cols) : soundB rows cols stride n = false := by
  apply decide_eq_false
  rintro ⟨_, _, _, _, _, hh | hh | ⟨ha, hb⟩⟩
  · omega
  · omega
  · rcases h with ⟨h0, h6⟩ | h6
    · have := ha (by omega); omega
    · have : (t : Int) * stride ≤ (rows - 1) * stride := Int.mul_le_mul_of_nonneg_right (by omega) (by omega)
      omega


/-- The statements behind the first n. -/
def tailN : Nat → Code → Code
  | 0, c => c
  | n + 1, .seq _ b => tailN n b
  | _ + 1, c => c

theorem fits_one (rows cols stride : Int) (n o : Nat) (ho : o ≤ 512) : fitsB rows cols stride n o 1 1 o = (soundB rows cols stride n && (cols == (o : Int))) := by
  have h := sound_new o 1 ho (by omega)
  rw [Nat.mul_one] at h
  unfold fitsB
  rw [show soundB (o : Int) 1 1 o = true from h]
  simp

set_option maxRecDepth 1000000 in
set_option maxHeartbeats 8000000 in
theorem refuses8_fine (rows cols stride size : Int) (o n hD : Nat) (S : Bool) (hS : soundB rows cols stride n = S) (hn : n ≤ 1023) (ho : o ≤ 512) (W0 wc : World) (B : Nat) (rD : wc.rowIs hD 46 n fun _ => .float .f64 0)
    (bM : Box wc (hD + 1) (.int .i64 rows) (.int .i64 cols) (.int .i64 stride) (.slice (some ⟨hD, 0, none⟩) n n)) (bel : Below B W0 wc) (hB : B ≤ wc.heap.size)
    (v5 v6 v7 v8 v9 v14 v15 v16 v17 v18 v19 v20 v21 v22 v23 v24 v25 v26 v27 v28 v29 v30 v31 v32 v33 v34 v35 v36 v37 v38 v39 v40 v41 v42 v43 v44 v45 v46 v47 v48 v49 v50 v51 v52 v53 v54 v55 v56 v57 v58 v59 v60 v61 v62 v63 v64 v65 v66 v67 v68 v69 v70 v71 v72 v73 v74 v75 v76 v77 v78 v79 v80 v81 v82 v83 v84 v85 v86 v87 v88 v89 v90 v91 v92 v93 v94 v95 v96 v97 v98 v99 v100 v101 v102 v103 v104 v105 v106 v107 v108 v109 v110 v111 v112 v113 v114 v115 v116 v117 v118 v119 v120 v121 v122 v123 v124 v125 v126 v127 v128 v129 v130 v131 v132 v133 v134 v135 v136 v137 v138 v139 v140 v141 v142 v143 v144 v145 v146 v147 v148 v149 v150 v151 v152 v153 v154 v155 v156 v157 v158 v159 v160 v161 v162 v163 v164 v165 v166 v167 v168 v169 v170 v171 v172 v173 v174 v175 v176 v177 v178 v179 v180 v181 v182 v183 v184 v185 v186 v187 v188 v189 v190 v191 v192 v193 v194 v195 v196 v197 v198 v199 v200 v201 v202 v203 v204 v205 v206 v207 v208 v209 v210 v211 v212 v213 v214 v215 v216 v217 v218 v219 v220 v221 v222 v223 : Value) :
    Code.wp Tagg.prog (tailN 8 (Tagg.f10.body.getD .skip)) (bodyPost Tagg.prog Tagg.f10 fun e w' => e = .returned (.bool true) ∧ Below B W0 w')
      ⟨#[.int .i64 rows, .int .i64 cols, .int .i64 stride, .int .i64 size, .int .i64 o, v5, v6, v7, v8, v9, .bool false, .pointer (some ⟨hD + 1, 0, none⟩), .int .i64 n, .bool S, v14, v15, v16, v17, v18, v19, v20, v21, v22, v23, v24, v25, v26, v27, v28, v29, v30, v31, v32, v33, v34, v35, v36, v37, v38, v39, v40, v41, v42, v43, v44, v45, v46, v47, v48, v49, v50, v51, v52, v53, v54, v55, v56, v57, v58, v59, v60, v61, v62, v63, v64, v65, v66, v67, v68, v69, v70, v71, v72, v73, v74, v75, v76, v77, v78, v79, v80, v81, v82, v83, v84, v85, v86, v87, v88, v89, v90, v91, v92, v93, v94, v95, v96, v97, v98, v99, v100, v101, v102, v103, v104, v105, v106, v107, v108, v109, v110, v111, v112, v113, v114, v115, v116, v117, v118, v119, v120, v121, v122, v123, v124, v125, v126, v127, v128, v129, v130, v131, v132, v133, v134, v135, v136, v137, v138, v139, v140, v141, v142, v143, v144, v145, v146, v147, v148, v149, v150, v151, v152, v153, v154, v155, v156, v157, v158, v159, v160, v161, v162, v163, v164, v165, v166, v167, v168, v169, v170, v171, v172, v173, v174, v175, v176, v177, v178, v179, v180, v181, v182, v183, v184, v185, v186, v187, v188, v189, v190, v191, v192, v193, v194, v195, v196, v197, v198, v199, v200, v201, v202, v203, v204, v205, v206, v207, v208, v209, v210, v211, v212, v213, v214, v215, v216, v217, v218, v219, v220, v221, v222, v223], []⟩ wc := by
  conv => arg 2; whnf
  have hN := fun w => new_ok o 1 (by omega) (by omega) w
  unfold matV at hN
  simp only [Nat.mul_one, Int.natCast_one] at hN
  go_wp2_with fail
  with_reducible refine (hN _).mono ?_
  rintro e w3 ⟨g, rfl, hg, rB, hb3⟩
  have hBl := Nat.le_trans hB hb3.size
  have rD3 := row_below rD hb3
  have bM3 := bM.below hb3
  have bel3 := bel.trans (hb3.mono hB)
  clear bM rD bel hb3 hN
  obtain ⟨F, hF⟩ : ∃ F, F = fitsB rows cols stride n o 1 1 o := ⟨_, rfl⟩
  have hF2 : (S && (cols == (o : Int))) = F := by rw [hF, fits_one _ _ _ _ _ ho, hS]
  have G1 := fun w hx hy => mul_gen rows cols stride (some ⟨hD, 0, none⟩) n n (o : Int) 1 1 (some ⟨g, 0, none⟩) o o (fun _ => 0) (fun _ => 0) w (by omega) (by omega) (Nat.le_refl _) hx hy
  have G2 := fun w hx hy => mulT_gen rows cols stride (some ⟨hD, 0, none⟩) n n (o : Int) 1 1 (some ⟨g, 0, none⟩) o o (fun _ => 0) (fun _ => 0) w (by omega) (by omega) (Nat.le_refl _) (Nat.le_refl _) hx hy
  have G3 := fun w hx hy => mulB_gen rows cols stride (some ⟨hD, 0, none⟩) n n (o : Int) 1 1 (some ⟨g, 0, none⟩) o o (fun _ => 0) (fun _ => 0) w (by omega) (by omega) (Nat.le_refl _) (Nat.le_refl _) hx hy
  have G4 := fun w => mulB_none rows cols stride (some ⟨hD, 0, none⟩) n n (o : Int) 1 1 (some ⟨g, 0, none⟩) o o w (by omega) (by omega)
  rw [← hF] at G1 G2 G3
  unfold matV at G1 G2 G3 G4
  clear hF
  obtain ⟨m0, m1, m2, m3⟩ := bM3.cells
  have lM := bM3.lt
  have hfn : (0 : Int) ≤ (o : Int) := by omega
  have hfn2 : (o : Int) ≤ 512 := by omega
  go_upto_region 18 with fail
  generalize eX : w3.alloc _ = X
  have hbX : Below w3.heap.size w3 X := by rw [← eX]; exact (Below.refl _ _).alloc (Nat.le_refl _) _
  have bN4 : Box X w3.heap.size (.int .i64 o) (.int .i64 1) (.int .i64 1) (.slice (some ⟨g, 0, none⟩) o o) := by rw [← eX]; exact Box.new _ _ _ _ _
  clear eX m0 m1 m2 m3 lM
  have hBl4 := Nat.le_trans hBl hbX.size
  have rD4 := row_below rD3 hbX
  have rB4 := row_below rB hbX
  have bM4 := bM3.below hbX
  have bel4 := bel3.trans (hbX.mono hBl)
  clear bM3 rD3 bel3 hbX
  generalize w3.heap.size = p17 at *
  go_cut [19] (fun v wx => v = .bool F ∧ wx = X)
  case first =>
    cases S
    · go_wp2_with fail
      go_meet
      exact ⟨by rw [← hF2]; rfl, rfl⟩
    · have hb : (cols == (o : Int)) = F := by simpa using hF2
      go_wp2_with fail
      go_meet
      exact ⟨rfl, rfl⟩
  case rest =>
    obtain ⟨rfl, rfl⟩ := hcut
    clear hF2 hS
    obtain ⟨m0, m1, m2, m3⟩ := bM4.cells
    obtain ⟨k0, k1, k2, k3⟩ := bN4.cells
    have lM := bM4.lt
    have lN := bN4.lt
    go_wp2_with fail
    with_reducible refine (G1 _ (Sl.of_row rD4) (Sl.of_row rB4)).mono ?_
    rintro e w5 ⟨r5, c5, s5, a5, n5, q5, rfl, hz5, hb5⟩
    have Hz5 : Hid (F = false → r5 = 0 ∧ c5 = 0 ∧ s5 = 0 ∧ a5 = none ∧ n5 = 0 ∧ q5 = 0) := hz5
    clear hz5 m0 m1 m2 m3 k0 k1 k2 k3 lM lN
    have hBl5 := Nat.le_trans hBl4 hb5.size
    have rD5 := row_below rD4 hb5
    have bM5 := bM4.below hb5
    have bN5 := bN4.below hb5
    have bel5 := bel4.trans (hb5.mono hBl4)
    have rB5 := row_below rB4 hb5
    clear bM4 bN4 rD4 bel4 G1 hb5 rB4
    unfold matV
    obtain ⟨m0, m1, m2, m3⟩ := bM5.cells
    obtain ⟨k0, k1, k2, k3⟩ := bN5.cells
    have lM := bM5.lt
    have lN := bN5.lt
    go_upto_region 20 with fail
    generalize eX : w5.alloc _ = X6
    have hbX : Below w5.heap.size w5 X6 := by rw [← eX]; exact (Below.refl _ _).alloc (Nat.le_refl _) _
    have x206 : Box X6 w5.heap.size (.int .i64 r5) (.int .i64 c5) (.int .i64 s5) (.slice a5 n5 q5) := by rw [← eX]; exact Box.new _ _ _ _ _
    clear eX m0 m1 m2 m3 k0 k1 k2 k3 lM lN
    have hBl6 := Nat.le_trans hBl5 hbX.size
    have rD6 := row_below rD5 hbX
    have bM6 := bM5.below hbX
    have bN6 := bN5.below hbX
    have bel6 := bel5.trans (hbX.mono hBl5)
    have rB6 := row_below rB5 hbX
    clear bM5 bN5 rD5 bel5 hbX rB5
    generalize w5.heap.size = p20 at *
    obtain ⟨m0, m1, m2, m3⟩ := bM6.cells
    obtain ⟨k0, k1, k2, k3⟩ := bN6.cells
    have lM := bM6.lt
    have lN := bN6.lt
    go_wp2_with fail
    with_reducible refine (G2 _ (Sl.of_row rD6) (Sl.of_row rB6)).mono ?_
    rintro e w7 ⟨r7, c7, s7, a7, n7, q7, rfl, hz7, hb7⟩
    have Hz7 : Hid (F = false → r7 = 0 ∧ c7 = 0 ∧ s7 = 0 ∧ a7 = none ∧ n7 = 0 ∧ q7 = 0) := hz7
    clear hz7 m0 m1 m2 m3 k0 k1 k2 k3 lM lN
    have hBl7 := Nat.le_trans hBl6 hb7.size
    have rD7 := row_below rD6 hb7
    have bM7 := bM6.below hb7
    have bN7 := bN6.below hb7
    have bel7 := bel6.trans (hb7.mono hBl6)
    have rB7 := row_below rB6 hb7
    have x207 := x206.below hb7
    clear bM6 bN6 rD6 bel6 G2 hb7 rB6 x206
    unfold matV
    obtain ⟨m0, m1, m2, m3⟩ := bM7.cells
    obtain ⟨k0, k1, k2, k3⟩ := bN7.cells
    have lM := bM7.lt
    have lN := bN7.lt
    go_upto_region 21 with fail
    generalize eX : w7.alloc _ = X8
    have hbX : Below w7.heap.size w7 X8 := by rw [← eX]; exact (Below.refl _ _).alloc (Nat.le_refl _) _
    have x228 : Box X8 w7.heap.size (.int .i64 r7) (.int .i64 c7) (.int .i64 s7) (.slice a7 n7 q7) := by rw [← eX]; exact Box.new _ _ _ _ _
    clear eX m0 m1 m2 m3 k0 k1 k2 k3 lM lN
    have hBl8 := Nat.le_trans hBl7 hbX.size
    have rD8 := row_below rD7 hbX
    have bM8 := bM7.below hbX
    have bN8 := bN7.below hbX
    have bel8 := bel7.trans (hbX.mono hBl7)
    have rB8 := row_below rB7 hbX
    have x208 := x207.below hbX
    clear bM7 bN7 rD7 bel7 hbX rB7 x207
    generalize w7.heap.size = p22 at *
    obtain ⟨m0, m1, m2, m3⟩ := bM8.cells
    obtain ⟨k0, k1, k2, k3⟩ := bN8.cells
    have lM := bM8.lt
    have lN := bN8.lt
    go_wp2_with fail
    with_reducible refine (G3 _ (Sl.of_row rD8) (Sl.of_row rB8)).mono ?_
    rintro e w9 ⟨r9, c9, s9, a9, n9, q9, rfl, hz9, hb9⟩
    have Hz9 : Hid (F = false → r9 = 0 ∧ c9 = 0 ∧ s9 = 0 ∧ a9 = none ∧ n9 = 0 ∧ q9 = 0) := hz9
    clear hz9 m0 m1 m2 m3 k0 k1 k2 k3 lM lN
    have hBl9 := Nat.le_trans hBl8 hb9.size
    have rD9 := row_below rD8 hb9
    have bM9 := bM8.below hb9
    have bN9 := bN8.below hb9
    have bel9 := bel8.trans (hb9.mono hBl8)
    have rB9 := row_below rB8 hb9
    have x209 := x208.below hb9
    have x229 := x228.below hb9
    clear bM8 bN8 rD8 bel8 G3 hb9 rB8 x208 x228
    unfold matV
    obtain ⟨m0, m1, m2, m3⟩ := bM9.cells
    obtain ⟨k0, k1, k2, k3⟩ := bN9.cells
    have lM := bM9.lt
    have lN := bN9.lt
    go_upto_region 22 with fail
    generalize eX : w9.alloc _ = X10
    have hbX : Below w9.heap.size w9 X10 := by rw [← eX]; exact (Below.refl _ _).alloc (Nat.le_refl _) _
    have x2410 : Box X10 w9.heap.size (.int .i64 r9) (.int .i64 c9) (.int .i64 s9) (.slice a9 n9 q9) := by rw [← eX]; exact Box.new _ _ _ _ _
    clear eX m0 m1 m2 m3 k0 k1 k2 k3 lM lN
    have hBl10 := Nat.le_trans hBl9 hbX.size
    have rD10 := row_below rD9 hbX
    have bM10 := bM9.below hbX
    have bN10 := bN9.below hbX
    have bel10 := bel9.trans (hbX.mono hBl9)
    have rB10 := row_below rB9 hbX
    have x2010 := x209.below hbX
    have x2210 := x229.below hbX
    clear bM9 bN9 rD9 bel9 hbX rB9 x209 x229
    generalize w9.heap.size = p24 at *
    obtain ⟨m0, m1, m2, m3⟩ := bM10.cells
    obtain ⟨k0, k1, k2, k3⟩ := bN10.cells
    go_wp2_with fail
    with_reducible refine (G4 _).mono ?_
    rintro e w11 ⟨rfl, hb11⟩
    clear m0 m1 m2 m3 k0 k1 k2 k3
    have bel11 := bel10.trans (hb11.mono hBl10)
    have hBl11 := Nat.le_trans hBl10 hb11.size
    have x2011 := x2010.below hb11
    have x2211 := x2210.below hb11
    have x2411 := x2410.below hb11
    clear x2010 x2210 x2410 bM10 bN10 rD10 bel10 G4 hb11
    obtain ⟨y0, y1, y2, y3⟩ := x2011.cells
    obtain ⟨z0, z1, z2, z3⟩ := x2211.cells
    obtain ⟨t0, t1, t2, t3⟩ := x2411.cells
    have ly := x2011.lt
    have lz := x2211.lt
    have lt := x2411.lt
    clear x2011 x2211 x2411
    cases F
    · obtain ⟨rfl, rfl, rfl, rfl, rfl, rfl⟩ := Hz5.out rfl
      obtain ⟨rfl, rfl, rfl, rfl, rfl, rfl⟩ := Hz7.out rfl
      obtain ⟨rfl, rfl, rfl, rfl, rfl, rfl⟩ := Hz9.out rfl
      go_wp2
      go_ret
      exact ⟨rfl, bel11.alloc hBl11 _⟩
    · go_wp2
      go_ret
      exact ⟨rfl, bel11.alloc hBl11 _⟩
end Go.Proofs.Ygctag
