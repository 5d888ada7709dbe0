import Derived.Test.YtakonddhaabobaaGreatSzA
import Derived.Test.YtakonddhaabobaaGreatLO
set_option linter.all false
namespace Go.Pi
set_option linter.unusedVariables false
abbrev E14 := PkT × (Int × Unit) → Option (PkT × (RxT × Unit))
abbrev E29 := RxT × (List Int × Unit) → Option (List (List Bool) × Unit)
def g17_1 (k : Nat) : LB ((List Int) × (List SetT) × Int × Int × Unit) (Unit ⊕ (Bool × Unit)) := fun (v0, v1, v2, v3, _) =>
 (bif decide (v3 < v2) then
  (at? v1 v3).bind fun v4 =>
  (at? v0 v3).bind fun v5 =>
  (F23 k (v4, v5, ())).bind fun (v6, _) =>
  (bif (!v6) then
   some (.inr (.inr (false, ())))
  else
   some (.inl (v0, v1, v2, (w64 (v3 + (1 : Int))), ())))
 else
  some (.inr (.inl ())))
def g17 (k : Nat) (l0 : List SetT) (b0 : List Int) : (Option (Bool × Unit)) :=
 (iter k (g17_1 k) (b0, l0, (l0.length : Int), (0 : Int), ())).bind fun
 | .inl _ => some (true, ())
 | .inr (v7, _) => some (v7, ())
theorem F17_g (k : Nat) (l0 : List SetT) (b0 : List Int) : F17 k (l0, b0, ()) = g17 k l0 b0 := by kernel_rfl
def g6 (k : Nat) (g0 : GrT) (b0 : List Int) (i0 : Int) : (Option (Bool × Unit)) :=
 ((bif decide (i0 ≥ (g0.2.2.2.2.1.length : Int)) then
   (bif decide (i0 ≤ (w64 ((b0.length : Int) - (g0.2.2.2.2.2.1.length : Int)))) then
    (hi? (List.length b0) (w64 (i0 - (g0.2.2.2.2.1.length : Int)))).bind fun v0 =>
    (F17 k (g0.2.2.2.2.1, (slC (Option.some (w64 (i0 - (g0.2.2.2.2.1.length : Int)))) (Option.none) v0 (List.length b0) b0), ())).bind fun (v1, _) =>
    (bif v1 then
     (hi? (List.length b0) i0).bind fun v2 =>
     (F17 k (g0.2.2.2.2.2.1, (slC (Option.some i0) (Option.none) v2 (List.length b0) b0), ())).bind fun (v3, _) =>
     some (v3, ())
    else
     some (false, ()))
   else
    some (false, ()))
  else
   some (false, ()))).bind fun (v4, _) =>
 some (v4, ())
theorem F6_g (k : Nat) (g0 : GrT) (b0 : List Int) (i0 : Int) : F6 k (g0, b0, i0, ()) = g6 k g0 b0 i0 := by kernel_rfl
def g9_1 (k : Nat) : LB ((List Int) × Int × Int × GrT × (List Int) × Unit) ((List Int) × Unit) := fun (v0, v1, v2, v3, v4, _) =>
 (bif decide (v2 < v1) then
  (F6 k (v3, v0, v2, ())).bind fun (v5, _) =>
  ((bif v5 then
    room ((List.length v4) + (List.length ([v2] : List Int))) 8 (some (v0, v1, v2, v3, (v4 ++ ([v2] : List Int)), ()))
   else
    some (v0, v1, v2, v3, v4, ()))).bind fun (v6, v7, v8, v9, v10, _) =>
  some (.inl (v6, v7, (w64 (v8 + (1 : Int))), v9, v10, ()))
 else
  some (.inr (v4, ())))
def g9 (k : Nat) (g0 : GrT) (b0 : List Int) : (Option ((List Int) × Unit)) :=
 (iter k (g9_1 k) (b0, (w64 ((b0.length : Int) + (1 : Int))), (0 : Int), g0, ([] : List Int), ())).bind fun (v11, _) =>
 some (v11, ())
theorem F9_g (k : Nat) (g0 : GrT) (b0 : List Int) : F9 k (g0, b0, ()) = g9 k g0 b0 := by kernel_rfl
def g19_1 (k : Nat) : LB ((List Int) × Int × SetT × SetT × Unit) (SetT × SetT × Unit) := fun (v0, v1, v2, v3, _) =>
 (bif decide (v1 < (v0.length : Int)) then
  (at? v0 v1).bind fun v4 =>
  nz (64 : Int) (inr? (IntKind.u8.wrap (Int.tdiv v4 (64 : Int))) 4 ((at? v0 v1).bind fun v5 =>
  nz (64 : Int) (nn (Int.tmod v5 (64 : Int)) (inr? (IntKind.u8.wrap (Int.tdiv v4 (64 : Int))) 4 (some (.inl (v0, (w64 (v1 + (1 : Int))), v2, (Arr.upd v3 (Int.toNat (IntKind.u8.wrap (Int.tdiv v4 (64 : Int)))) (IntKind.u64.wrap (((BitVec.toNat ((BitVec.ofInt (Go.IntKind.bits Go.IntKind.u64) (Arr.get v3 (Int.toNat (IntKind.u8.wrap (Int.tdiv v4 (64 : Int)))))) ||| (BitVec.ofInt (Go.IntKind.bits Go.IntKind.u64) (IntKind.u64.wrap ((1 : Int) * ((2 : Int) ^ (Min.min (Int.toNat (Int.tmod v5 (64 : Int))) (Go.IntKind.bits Go.IntKind.u64)))))))) : Nat) : Int))), ())))))))
 else
  some (.inr (v2, v3, ())))
def g19 (k : Nat) (b0 : List Int) : (Option (SetT × Unit)) :=
 (iter k (g19_1 k) (b0, (0 : Int), (⟨([0, 0, 0, 0] : List Int), rfl⟩ : SetT), (⟨([0, 0, 0, 0] : List Int), rfl⟩ : SetT), ())).bind fun (v6, v7, _) =>
 some (v7, ())
theorem F19_g (k : Nat) (b0 : List Int) : F19 k (b0, ()) = g19 k b0 := by kernel_rfl
def g11_1 (k : Nat) : LB (Int × SetT × SetT × (List Int) × Unit) (SetT × (List Int) × Unit) := fun (v0, v1, v2, v3, _) =>
 (bif decide (v0 < (256 : Int)) then
  (F18 k (v1, (IntKind.u8.wrap v0), ())).bind fun (v4, _) =>
  ((bif (!v4) then
    room ((List.length v3) + (List.length ([(IntKind.u8.wrap v0)] : List Int))) 1 (some (v0, v1, v2, (v3 ++ ([(IntKind.u8.wrap v0)] : List Int)), ()))
   else
    some (v0, v1, v2, v3, ()))).bind fun (v5, v6, v7, v8, _) =>
  some (.inl ((w64 (v5 + (1 : Int))), v6, v7, v8, ()))
 else
  some (.inr (v2, v3, ())))
def g11 (k : Nat) (s0 : SetT) : (Option (SetT × Unit)) :=
 (iter k (g11_1 k) ((0 : Int), s0, (⟨([0, 0, 0, 0] : List Int), rfl⟩ : SetT), ([] : List Int), ())).bind fun (v9, v10, _) =>
 (F19 k (v10, ())).bind fun (v11, _) =>
 some (v11, ())
theorem F11_g (k : Nat) (s0 : SetT) : F11 k (s0, ()) = g11 k s0 := by kernel_rfl
def g4 (k : Nat) (b0 : List Int) : (Option PkT) :=
 some (b0, (0 : Int), ())
def g22 (k : Nat) (r0 : RxT) (b0 : List Int) : (Option (Bool × Unit)) :=
 (F29 k (r0, b0, ())).bind fun (v0, _) =>
 (at? v0 (0 : Int)).bind fun v1 =>
 (List.get?Internal v0 (Int.toNat (0 : Int))).bind fun v2 =>
 (List.get?Internal v0 (Int.toNat (0 : Int))).bind fun v3 =>
 (at? v3 (b0.length : Int)).bind fun v4 =>
 (List.get?Internal v0 (Int.toNat (0 : Int))).bind fun v5 =>
 (List.get?Internal v5 (Int.toNat (b0.length : Int))).bind fun v6 =>
 some (v6, ())
theorem F22_g (k : Nat) (r0 : RxT) (b0 : List Int) : F22 k (r0, b0, ()) = g22 k r0 b0 := by kernel_rfl
def g15 (k : Nat) (r0 : RxT) : (Option (Bool × Unit)) :=
 (F22 k (r0, ([] : List Int), ())).bind fun (v0, _) =>
 some (v0, ())
theorem F15_g (k : Nat) (r0 : RxT) : F15 k (r0, ()) = g15 k r0 := by kernel_rfl
def g5_2 (k : Nat) : LB (Int × Int × PkT × Int × Int × (List TokT) × (List (List UInt8)) × TokT) (Int × PkT × Int × Int × (List TokT) × (List (List UInt8)) × TokT) := fun (v16, v17, v18, v19, v20, v21, v22, v23, v24, v25, _) =>
 ((bif decide (v17 < (5 : Int)) then
   (F15 k (v24, ())).bind fun (v26, _) =>
   some (v16, v17, v26, v18, v19, v20, v21, v22, v23, v24, v25, ())
  else
   some (v16, v17, false, v18, v19, v20, v21, v22, v23, v24, v25, ()))).bind fun (v27, v28, v29, v30, v31, v32, v33, v34, v35, v36, v37, _) =>
 (bif v29 then
  (F14 k (v30, (1 : Int), ())).bind fun (v38, v39, _) =>
  some (.inl (v27, (w64 (v28 + (1 : Int))), v38, v31, v32, v33, v34, v35, v39, v37, ()))
 else
  some (.inr (v27, v30, v31, v32, v33, v34, v35, v36, v37, ())))
def g5_1 (k : Nat) : LB (Int × PkT × Int × Int × (List TokT) × (List (List UInt8)) × Unit) (PkT × Int × Int × (List TokT) × Unit) := fun (v4, v5, v6, v7, v8, v9, _) =>
 (bif decide (v4 ≥ (0 : Int)) then
  (at? v9 (v8.length : Int)).bind fun v10 =>
  (List.get?Internal v9 (Int.toNat (v8.length : Int))).bind fun v11 =>
  (F13 k (v5, (3 : Int), ())).bind fun (v12, v13, _) =>
  (F14 k (v12, v13, ())).bind fun (v14, v15, _) =>
  (iter k (g5_2 k) (v4, (0 : Int), v14, v6, v7, v8, v9, v11, v15, false, ())).bind fun (v40, v41, v42, v43, v44, v45, v46, v47, v48, _) =>
  (F15 k (v47, ())).bind fun (v49, _) =>
  ((bif v49 then
    (F16 k (v41, ())).bind fun (v50, v51, _) =>
    some (v40, v50, v42, v43, v44, v45, v46, (RxT.mk (1 : Int) v51 ([] : List RxT)), v48, ())
   else
    some (v40, v41, v42, v43, v44, v45, v46, v47, v48, ()))).bind fun (v52, v53, v54, v55, v56, v57, v58, v59, v60, _) =>
  ((bif decide ((v56.length : Int) > (0 : Int)) then
    (F13 k (v53, (4 : Int), ())).bind fun (v61, v62, _) =>
    some (v52, v61, v54, v55, v56, v57, v58, v59, (v62 == (0 : Int)), ())
   else
    some (v52, v53, v54, v55, v56, v57, v58, v59, false, ()))).bind fun (v63, v64, v65, v66, v67, v68, v69, v70, v71, _) =>
  room ((List.length v67) + (List.length ([(v69, v70, v71, ())] : List TokT))) 88 (some (.inl ((w64 (v63 - (1 : Int))), v64, v65, v66, (v67 ++ ([(v69, v70, v71, ())] : List TokT)), v68, ())))
 else
  some (.inr (v5, v6, v7, v8, ())))
def g5_5 (k : Nat) : LB (Int × Int × Int × Int × PkT × Int × Int × (List TokT) × (List (List UInt8)) × (List ScT) × (List RuT) × Int × Int × (List Int) × Unit) (Int × Int × Int × PkT × Int × Int × (List TokT) × (List (List UInt8)) × (List ScT) × (List RuT) × Int × Int × (List Int) × Unit) := fun (v121, v122, v123, v124, v125, v126, v127, v128, v129, v130, v131, v132, v133, v134, _) =>
 (bif decide (v124 > (0 : Int)) then
  (F13 k (v125, (w64 (v121 + (v128.length : Int))), ())).bind fun (v135, v136, _) =>
  ((bif decide (v136 ≥ v121) then
    some (v121, v122, v123, v124, (w64 ((-(1 : Int)) - (w64 (v136 - v121)))), v135, v126, v127, v128, v129, v130, v131, v132, v133, v134, ())
   else
    some (v121, v122, v123, v124, v136, v135, v126, v127, v128, v129, v130, v131, v132, v133, v134, ()))).bind fun (v137, v138, v139, v140, v141, v142, v143, v144, v145, v146, v147, v148, v149, v150, v151, _) =>
  ((bif decide (v141 < (0 : Int)) then
    (at? v145 (w64 ((-(1 : Int)) - v141))).bind fun v152 =>
    (List.get?Internal v145 (Int.toNat (w64 ((-(1 : Int)) - v141)))).bind fun v153 =>
    some (v137, v138, v139, v140, v141, v153.2.2.1, v142, v143, v144, v145, v146, v147, v148, v149, v150, v151, ())
   else
    some (v137, v138, v139, v140, v141, false, v142, v143, v144, v145, v146, v147, v148, v149, v150, v151, ()))).bind fun (v154, v155, v156, v157, v158, v159, v160, v161, v162, v163, v164, v165, v166, v167, v168, v169, _) =>
  ((bif v159 then
    some (v154, v155, v156, v157, (-(1 : Int)), v160, v161, v162, v163, v164, v165, v166, v167, v168, v169, ())
   else
    some (v154, v155, v156, v157, v158, v160, v161, v162, v163, v164, v165, v166, v167, v168, v169, ()))).bind fun (v170, v171, v172, v173, v174, v175, v176, v177, v178, v179, v180, v181, v182, v183, v184, _) =>
  room ((List.length v184) + (List.length ([v174] : List Int))) 8 (some (.inl (v170, v171, v172, (w64 (v173 - (1 : Int))), v175, v176, v177, v178, v179, v180, v181, v182, v183, (v184 ++ ([v174] : List Int)), ())))
 else
  some (.inr (v121, v122, v123, v125, v126, v127, v128, v129, v130, v131, v132, v133, v134, ())))
def g5_4 (k : Nat) : LB (Int × Int × Int × PkT × Int × Int × (List TokT) × (List (List UInt8)) × (List ScT) × (List RuT) × Unit) (Int × Int × PkT × Int × Int × (List TokT) × (List (List UInt8)) × (List ScT) × (List RuT) × Unit) := fun (v95, v96, v97, v98, v99, v100, v101, v102, v103, v104, _) =>
 (bif decide (v97 ≥ (0 : Int)) then
  (F13 k (v98, (3 : Int), ())).bind fun (v105, v106, _) =>
  ((bif decide ((w64 (v106 - (1 : Int))) > (0 : Int)) then
    some (v95, v96, v97, v105, v99, v100, v101, v102, v103, v104, v96, (-(1 : Int)), ())
   else
    some (v95, v96, v97, v105, v99, v100, v101, v102, v103, v104, v96, (w64 (v106 - (1 : Int))), ()))).bind fun (v107, v108, v109, v110, v111, v112, v113, v114, v115, v116, v117, v118, _) =>
  (F13 k (v110, (4 : Int), ())).bind fun (v119, v120, _) =>
  (iter k (g5_5 k) (v107, v108, v109, v120, v119, v111, v112, v113, v114, v115, v116, v117, v118, ([] : List Int), ())).bind fun (v185, v186, v187, v188, v189, v190, v191, v192, v193, v194, v195, v196, v197, _) =>
  room ((List.length v194) + (List.length ([(v195, v197, v196, ())] : List RuT))) 40 (some (.inl (v185, v186, (w64 (v187 - (1 : Int))), v188, v189, v190, v191, v192, v193, (v194 ++ ([(v195, v197, v196, ())] : List RuT)), ())))
 else
  some (.inr (v95, v96, v98, v99, v100, v101, v102, v103, v104, ())))
def g5_3 (k : Nat) : LB (Int × Int × PkT × Int × Int × (List TokT) × (List (List UInt8)) × (List ScT) × (List RuT) × Unit) (PkT × Int × Int × (List TokT) × (List (List UInt8)) × (List ScT) × (List RuT) × Unit) := fun (v82, v83, v84, v85, v86, v87, v88, v89, v90, _) =>
 (bif decide (v83 < v82) then
  (at? ([[115], [116], [117]] : List (List UInt8)) v83).bind fun v91 =>
  (List.get?Internal ([[115], [116], [117]] : List (List UInt8)) (Int.toNat v83)).bind fun v92 =>
  room ((List.length v88) + (List.length ([v92] : List (List UInt8)))) 16 ((F13 k (v84, (3 : Int), ())).bind fun (v93, v94, _) =>
  (iter k (g5_4 k) (v82, v83, v94, v93, v85, v86, v87, (v88 ++ ([v92] : List (List UInt8))), v89, v90, ())).bind fun (v198, v199, v200, v201, v202, v203, v204, v205, v206, _) =>
  some (.inl (v198, (w64 (v199 + (1 : Int))), v200, v201, v202, v203, v204, v205, v206, ())))
 else
  some (.inr (v84, v85, v86, v87, v88, v89, v90, ())))
def g5_6 (k : Nat) : LB (Int × PkT × Int × Int × (List TokT) × (List (List UInt8)) × (List ScT) × (List RuT) × (List SetT) × Unit) (PkT × Int × Int × (List TokT) × (List (List UInt8)) × (List ScT) × (List RuT) × (List SetT) × Unit) := fun (v216, v217, v218, v219, v220, v221, v222, v223, v224, _) =>
 (bif decide (v216 > (0 : Int)) then
  (F16 k (v217, ())).bind fun (v225, v226, _) =>
  room ((List.length v224) + (List.length ([v226] : List SetT))) 32 (some (.inl ((w64 (v216 - (1 : Int))), v225, v218, v219, v220, v221, v222, v223, (v224 ++ ([v226] : List SetT)), ())))
 else
  some (.inr (v217, v218, v219, v220, v221, v222, v223, v224, ())))
def g5_7 (k : Nat) : LB (Int × PkT × Int × Int × (List TokT) × (List (List UInt8)) × (List ScT) × (List RuT) × (List SetT) × (List SetT) × Unit) (PkT × Int × Int × (List TokT) × (List (List UInt8)) × (List ScT) × (List RuT) × (List SetT) × (List SetT) × Unit) := fun (v237, v238, v239, v240, v241, v242, v243, v244, v245, v246, _) =>
 ((bif decide (v237 > (0 : Int)) then
   some (v237, true, v238, v239, v240, v241, v242, v243, v244, v245, v246, ())
  else
   some (v237, ((w64 ((v245.length : Int) + (v246.length : Int))) == (0 : Int)), v238, v239, v240, v241, v242, v243, v244, v245, v246, ()))).bind fun (v247, v248, v249, v250, v251, v252, v253, v254, v255, v256, v257, _) =>
 (bif v248 then
  (F16 k (v249, ())).bind fun (v258, v259, _) =>
  room ((List.length v257) + (List.length ([v259] : List SetT))) 32 (some (.inl ((w64 (v247 - (1 : Int))), v258, v250, v251, v252, v253, v254, v255, v256, (v257 ++ ([v259] : List SetT)), ())))
 else
  some (.inr (v249, v250, v251, v252, v253, v254, v255, v256, v257, ())))
def g5 (k : Nat) (p0 : PkT) : (Option (PkT × GrT × Unit)) :=
 (F13 k (p0, (14 : Int), ())).bind fun (v0, v1, _) =>
 (F13 k (v0, (3 : Int), ())).bind fun (v2, v3, _) =>
 (iter k (g5_1 k) (v3, v2, (0 : Int), (w64 ((1 : Int) + v1)), ([] : List TokT), ([[97], [98], [99], [100]] : List (List UInt8)), ())).bind fun (v72, v73, v74, v75, _) =>
 (F13 k (v72, (4 : Int), ())).bind fun (v76, v77, _) =>
 (at? ([[49], [110, 97, 110], [45, 105, 110, 102], [48, 46, 53]] : List (List UInt8)) v77).bind fun v78 =>
 (List.get?Internal ([[49], [110, 97, 110], [45, 105, 110, 102], [48, 46, 53]] : List (List UInt8)) (Int.toNat v77)).bind fun v79 =>
 (F13 k (v76, (3 : Int), ())).bind fun (v80, v81, _) =>
 (iter k (g5_3 k) ((w64 ((1 : Int) + v81)), (0 : Int), v80, v73, v74, v75, ([] : List (List UInt8)), ([(([104] : List UInt8), v79, ())] : List ScT), ([] : List RuT), ())).bind fun (v207, v208, v209, v210, v211, v212, v213, _) =>
 (F13 k (v207, (3 : Int), ())).bind fun (v214, v215, _) =>
 (iter k (g5_6 k) (v215, v214, v208, v209, v210, v211, v212, v213, ([] : List SetT), ())).bind fun (v227, v228, v229, v230, v231, v232, v233, v234, _) =>
 (F13 k (v227, (3 : Int), ())).bind fun (v235, v236, _) =>
 (iter k (g5_7 k) (v236, v235, v228, v229, v230, v231, v232, v233, v234, ([] : List SetT), ())).bind fun (v260, v261, v262, v263, v264, v265, v266, v267, v268, _) =>
 some (v260, (v263, v264, v265, v266, v267, v268, v262, ()), ())
theorem F5_g (k : Nat) (p0 : PkT) : F5 k (p0, ()) = g5 k p0 := by kernel_rfl
def g2_1 (k : Nat) : LB ((List Int) × Int × Int × GrT × (List TokT) × (List (List UInt8)) × (List ScT) × (List RuT) × (List SetT) × Int × (List TokT) × (List (List UInt8)) × (List ScT) × (List RuT) × (List SetT) × Int × (List Int) × Unit) (((List Int) × Int × (List Int) × Unit) ⊕ (Bool × Unit)) := fun (v8, v9, v10, v11, v12, v13, v14, v15, v16, v17, v18, v19, v20, v21, v22, v23, v24, _) =>
 (bif decide (v10 ≤ (v8.length : Int)) then
  ((F6 k (v11, v8, v10, ())).bind fun (v25, _) =>
   ((F6 k ((v12, v13, v14, v15, v16, ([] : List SetT), v17, ()), v8, v10, ())).bind fun (v26, _) =>
    (bif v26 then
     (F6 k ((v18, v19, v20, v21, ([] : List SetT), v22, v23, ()), v8, v10, ())).bind fun (v27, _) =>
     some (v8, v9, v10, v25, (if (true = true) then (!(v25 == v27)) else (v25 == v27)), v11, v12, v13, v14, v15, v16, v17, v18, v19, v20, v21, v22, v23, v24, ())
    else
     some (v8, v9, v10, v25, (if (true = true) then (!(v25 == false)) else (v25 == false)), v11, v12, v13, v14, v15, v16, v17, v18, v19, v20, v21, v22, v23, v24, ()))).bind fun (v28, v29, v30, v31, v32, v33, v34, v35, v36, v37, v38, v39, v40, v41, v42, v43, v44, v45, v46, _) =>
   (bif v32 then
    some (.inl (false, ()))
   else
    ((bif v31 then
      ((bif decide (v29 ≥ (v46.length : Int)) then
        some (v28, v29, v30, true, v33, v34, v35, v36, v37, v38, v39, v40, v41, v42, v43, v44, v45, v46, ())
       else
        (at? v46 v29).bind fun v47 =>
        (List.get?Internal v46 (Int.toNat v29)).bind fun v48 =>
        some (v28, v29, v30, (v48 != v30), v33, v34, v35, v36, v37, v38, v39, v40, v41, v42, v43, v44, v45, v46, ()))).bind fun (v49, v50, v51, v52, v53, v54, v55, v56, v57, v58, v59, v60, v61, v62, v63, v64, v65, v66, _) =>
      (bif v52 then
       some (.inl (false, ()))
      else
       some (.inr (v49, (w64 (v50 + (1 : Int))), v51, v53, v54, v55, v56, v57, v58, v59, v60, v61, v62, v63, v64, v65, v66, ())))
     else
      some (.inr (v28, v29, v30, v33, v34, v35, v36, v37, v38, v39, v40, v41, v42, v43, v44, v45, v46, ()))) : Option ((Bool × Unit) ⊕ ((List Int) × Int × Int × GrT × (List TokT) × (List (List UInt8)) × (List ScT) × (List RuT) × (List SetT) × Int × (List TokT) × (List (List UInt8)) × (List ScT) × (List RuT) × (List SetT) × Int × (List Int) × Unit))).bind fun
    | .inl (v67, _) => some (.inl (v67, ()))
    | .inr (v68, v69, v70, v71, v72, v73, v74, v75, v76, v77, v78, v79, v80, v81, v82, v83, v84, _) => some (.inr (v68, v69, v70, v71, v72, v73, v74, v75, v76, v77, v78, v79, v80, v81, v82, v83, v84, ()))) : Option ((Bool × Unit) ⊕ ((List Int) × Int × Int × GrT × (List TokT) × (List (List UInt8)) × (List ScT) × (List RuT) × (List SetT) × Int × (List TokT) × (List (List UInt8)) × (List ScT) × (List RuT) × (List SetT) × Int × (List Int) × Unit))).bind fun
  | .inl (v85, _) => some (.inr (.inr (v85, ())))
  | .inr (v86, v87, v88, v89, v90, v91, v92, v93, v94, v95, v96, v97, v98, v99, v100, v101, v102, _) => some (.inl (v86, v87, (w64 (v88 + (1 : Int))), v89, v90, v91, v92, v93, v94, v95, v96, v97, v98, v99, v100, v101, v102, ()))
 else
  some (.inr (.inl (v8, v9, v24, ()))))
def g2 (k : Nat) (b0 : List Int) (b1 : List Int) : (Option (Bool × Unit)) :=
 (F3 ()).bind fun (v0, _) =>
 (bif (!v0) then
  some (false, ())
 else
  ((bif decide ((b0.length : Int) > (40 : Int)) then
    some (b0, b1, true, ())
   else
    some (b0, b1, decide ((b1.length : Int) > (40 : Int)), ()))).bind fun (v1, v2, v3, _) =>
  (bif v3 then
   some (true, ())
  else
   (F4 k (v1, ())).bind fun v4 =>
   (F5 k ((v4.1, v4.2.1, ()), ())).bind fun (v5, v6, _) =>
   (F9 k (v6, v2, ())).bind fun (v7, _) =>
   (iter k (g2_1 k) (v2, (0 : Int), (0 : Int), v6, v6.1, v6.2.1, v6.2.2.1, v6.2.2.2.1, v6.2.2.2.2.1, v6.2.2.2.2.2.2.1, v6.1, v6.2.1, v6.2.2.1, v6.2.2.2.1, v6.2.2.2.2.2.1, v6.2.2.2.2.2.2.1, v7, ())).bind fun
   | .inl (v103, v104, v105, _) => (F11 k ((⟨([0, 0, 0, 0] : List Int), rfl⟩ : SetT), ())).bind fun (v106, _) =>
    ((bif (v104 == (v105.length : Int)) then
      (F9 k ((([] : List TokT), ([] : List (List UInt8)), ([] : List ScT), ([] : List RuT), ([v106] : List SetT), ([] : List SetT), (0 : Int), ()), v103, ())).bind fun (v107, _) =>
      some (((v107.length : Int) == (v103.length : Int)), ())
     else
      some (false, ()))).bind fun (v108, _) =>
    some (v108, ())
   | .inr (v109, _) => some (v109, ())))
theorem F2_g (k : Nat) (b0 : List Int) (b1 : List Int) : F2 k (b0, b1, ()) = g2 k b0 b1 := by kernel_rfl
def g14_1 (k : Nat) (e : E14) : LB (Int × Int × Int × Int × PkT × Int × SetT × Int × SetT × (List RxT) × Unit) (PkT × Int × SetT × Int × SetT × (List RxT) × Unit) := fun (v18, v19, v20, v21, v22, v23, v24, v25, v26, v27, _) =>
 (bif decide (v21 < v20) then
  (e (v22, (w64 (v18 - (1 : Int))), ())).bind fun (v28, v29, _) =>
  ((bif ((RxT.k v29) == v19) then
    some (v18, v19, v20, v21, true, v28, v23, v24, v25, v26, v27, v29, ())
   else
    (bif decide (v19 ≥ (4 : Int)) then
     some (v18, v19, v20, v21, decide ((RxT.k v29) ≥ (4 : Int)), v28, v23, v24, v25, v26, v27, v29, ())
    else
     some (v18, v19, v20, v21, false, v28, v23, v24, v25, v26, v27, v29, ())))).bind fun (v30, v31, v32, v33, v34, v35, v36, v37, v38, v39, v40, v41, _) =>
  ((bif v34 then
    (F16 k (v35, ())).bind fun (v42, v43, _) =>
    some (v30, v31, v32, v33, v42, v36, v37, v38, v39, v40, (RxT.mk (1 : Int) v43 ([] : List RxT)), ())
   else
    some (v30, v31, v32, v33, v35, v36, v37, v38, v39, v40, v41, ()))).bind fun (v44, v45, v46, v47, v48, v49, v50, v51, v52, v53, v54, _) =>
  room ((List.length v53) + (List.length ([v54] : List RxT))) 64 (some (.inl (v44, v45, v46, (w64 (v47 + (1 : Int))), v48, v49, v50, v51, v52, (v53 ++ ([v54] : List RxT)), ())))
 else
  some (.inr (v22, v23, v24, v25, v26, v27, ())))
def g14 (k : Nat) (e : E14) (p0 : PkT) (i0 : Int) : (Option (PkT × RxT × Unit)) :=
 (F13 k (p0, (9 : Int), ())).bind fun (v0, v1, _) =>
 ((bif decide (i0 ≤ (0 : Int)) then
   some (i0, v1, true, v0, (0 : Int), (⟨([0, 0, 0, 0] : List Int), rfl⟩ : SetT), ())
  else
   some (i0, v1, decide (v1 < (4 : Int)), v0, (0 : Int), (⟨([0, 0, 0, 0] : List Int), rfl⟩ : SetT), ()))).bind fun (v2, v3, v4, v5, v6, v7, _) =>
 (bif v4 then
  (F16 k (v5, ())).bind fun (v8, v9, _) =>
  some (v8, (RxT.mk (1 : Int) v9 ([] : List RxT)), ())
 else
  nz (5 : Int) (((bif decide ((w64 ((2 : Int) + (Int.tmod (w64 (v3 + (1 : Int))) (5 : Int)))) ≤ (3 : Int)) then
    (F13 k (v5, (2 : Int), ())).bind fun (v10, v11, _) =>
    some (v2, (w64 ((2 : Int) + (Int.tmod (w64 (v3 + (1 : Int))) (5 : Int)))), (w64 ((2 : Int) + v11)), v10, v6, v7, ())
   else
    some (v2, (w64 ((2 : Int) + (Int.tmod (w64 (v3 + (1 : Int))) (5 : Int)))), (1 : Int), v5, v6, v7, ()))).bind fun (v12, v13, v14, v15, v16, v17, _) =>
  (iter k (g14_1 k e) (v12, v13, v14, (0 : Int), v15, v16, v17, v13, (⟨([0, 0, 0, 0] : List Int), rfl⟩ : SetT), ([] : List RxT), ())).bind fun (v55, v56, v57, v58, v59, v60, _) =>
  some (v55, (RxT.mk v58 v59 v60), ())))
theorem R14_g (k : Nat) (e : E14) (h : LOk (S := SyS) prog 14 (.st 5) [.val (.int .i64)] [.val (.st 0)] e) (p0 : PkT) (i0 : Int) : R14 k e h (p0, i0, ()) = g14 k e p0 i0 := by kernel_rfl
def g29_1 (k : Nat) : LB ((List Int) × Int × Int × RxT × (List (List Bool)) × Unit) ((List (List Bool)) × Unit) := fun (v1, v2, v3, v4, v5, _) =>
 (bif decide ((w64 (v3 + (1 : Int))) < v2) then
  (at? v5 v3).bind fun v6 =>
  (List.get?Internal v5 (Int.toNat v3)).bind fun v7 =>
  (at? v1 v3).bind fun v8 =>
  (F18 k ((RxT.s v4), v8, ())).bind fun (v9, _) =>
  (List.get?Internal v5 (Int.toNat v3)).bind fun v10 =>
  (at? v10 (w64 (v3 + (1 : Int)))).bind fun v11 =>
  (List.get?Internal v5 (Int.toNat v3)).bind fun v12 =>
  (List.get?Internal v12 (Int.toNat (w64 (v3 + (1 : Int))))).bind fun v13 =>
  some (.inl (v1, v2, (w64 (v3 + (1 : Int))), v4, (List.set v5 (Int.toNat v3) (List.set v12 (Int.toNat (w64 (v3 + (1 : Int)))) v9)), ()))
 else
  some (.inr (v5, ())))
def g29_4 (k : Nat) : LB ((List Int) × Int × Int × Int × Int × RxT × (List (List Bool)) × (List (List Bool)) × Unit) ((List Int) × Int × Int × Int × RxT × (List (List Bool)) × (List (List Bool)) × Unit) := fun (v29, v30, v31, v32, v33, v34, v35, v36, _) =>
 (bif decide (v33 < v30) then
  ((at? v35 v32).bind fun v37 =>
   (List.get?Internal v35 (Int.toNat v32)).bind fun v38 =>
   (at? v35 v32).bind fun v39 =>
   (List.get?Internal v35 (Int.toNat v32)).bind fun v40 =>
   (List.get?Internal v35 (Int.toNat v32)).bind fun v41 =>
   (at? v41 v33).bind fun v42 =>
   (List.get?Internal v35 (Int.toNat v32)).bind fun v43 =>
   (List.get?Internal v43 (Int.toNat v33)).bind fun v44 =>
   (bif v44 then
    (List.get?Internal v35 (Int.toNat v32)).bind fun v45 =>
    (at? v45 v33).bind fun v46 =>
    (List.get?Internal v35 (Int.toNat v32)).bind fun v47 =>
    (List.get?Internal v47 (Int.toNat v33)).bind fun v48 =>
    some (v29, v30, v31, v32, v33, v34, (List.set v35 (Int.toNat v32) (List.set v47 (Int.toNat v33) true)), v36, ())
   else
    (at? v36 v32).bind fun v49 =>
    (List.get?Internal v36 (Int.toNat v32)).bind fun v50 =>
    (List.get?Internal v36 (Int.toNat v32)).bind fun v51 =>
    (at? v51 v33).bind fun v52 =>
    (List.get?Internal v36 (Int.toNat v32)).bind fun v53 =>
    (List.get?Internal v53 (Int.toNat v33)).bind fun v54 =>
    (List.get?Internal v35 (Int.toNat v32)).bind fun v55 =>
    (at? v55 v33).bind fun v56 =>
    (List.get?Internal v35 (Int.toNat v32)).bind fun v57 =>
    (List.get?Internal v57 (Int.toNat v33)).bind fun v58 =>
    some (v29, v30, v31, v32, v33, v34, (List.set v35 (Int.toNat v32) (List.set v57 (Int.toNat v33) v54)), v36, ()))).bind fun (v59, v60, v61, v62, v63, v64, v65, v66, _) =>
  some (.inl (v59, v60, v61, v62, (w64 (v63 + (1 : Int))), v64, v65, v66, ()))
 else
  some (.inr (v29, v30, v31, v32, v34, v35, v36, ())))
def g29_3 (k : Nat) : LB ((List Int) × Int × Int × Int × RxT × (List (List Bool)) × (List (List Bool)) × Unit) ((List Int) × Int × Int × RxT × (List (List Bool)) × Unit) := fun (v22, v23, v24, v25, v26, v27, v28, _) =>
 (bif decide (v25 < v23) then
  (iter k (g29_4 k) (v22, v23, v24, v25, v25, v26, v27, v28, ())).bind fun (v67, v68, v69, v70, v71, v72, v73, _) =>
  some (.inl (v67, v68, v69, (w64 (v70 + (1 : Int))), v71, v72, v73, ()))
 else
  some (.inr (v22, v23, v24, v26, v27, ())))
def g29_2 (k : Nat) (e : E29) : LB ((List Int) × Int × Int × RxT × (List (List Bool)) × Unit) ((List (List Bool)) × Unit) := fun (v15, v16, v17, v18, v19, _) =>
 (bif decide (v17 < ((RxT.a v18).length : Int)) then
  (at? (RxT.a v18) v17).bind fun v20 =>
  (e (v20, v15, ())).bind fun (v21, _) =>
  (iter k (g29_3 k) (v15, v16, v17, (0 : Int), v18, v19, v21, ())).bind fun (v74, v75, v76, v77, v78, _) =>
  some (.inl (v74, v75, (w64 (v76 + (1 : Int))), v77, v78, ()))
 else
  some (.inr (v19, ())))
def g29_5 (k : Nat) (e : E29) : LB ((List Int) × Int × RxT × (List (List Bool)) × Unit) ((List (List Bool)) × Unit) := fun (v81, v82, v83, v84, _) =>
 (bif decide (v82 < ((RxT.a v83).length : Int)) then
  (at? (RxT.a v83) v82).bind fun v85 =>
  (e (v85, v81, ())).bind fun (v86, _) =>
  (F51 k (v84, v86, ())).bind fun (v87, _) =>
  some (.inl (v81, (w64 (v82 + (1 : Int))), v83, v87, ()))
 else
  some (.inr (v84, ())))
def g29_6 (k : Nat) : LB (Int × Int × (List (List Bool)) × Unit) ((List (List Bool)) × Unit) := fun (v99, v100, v101, _) =>
 (bif decide (v100 < v99) then
  (at? v101 v100).bind fun v102 =>
  (List.get?Internal v101 (Int.toNat v100)).bind fun v103 =>
  (List.get?Internal v101 (Int.toNat v100)).bind fun v104 =>
  (at? v104 v100).bind fun v105 =>
  (List.get?Internal v101 (Int.toNat v100)).bind fun v106 =>
  (List.get?Internal v106 (Int.toNat v100)).bind fun v107 =>
  some (.inl (v99, (w64 (v100 + (1 : Int))), (List.set v101 (Int.toNat v100) (List.set v106 (Int.toNat v100) true)), ()))
 else
  some (.inr (v101, ())))
def g29_9 (k : Nat) : LB (Int × Int × Int × Int × RxT × (List (List Bool)) × (List (List Bool)) × Unit) (Int × Int × Int × RxT × (List (List Bool)) × (List (List Bool)) × Unit) := fun (v121, v122, v123, v124, v125, v126, v127, _) =>
 ((bif decide (v124 < v121) then
   (at? v126 v122).bind fun v128 =>
   (List.get?Internal v126 (Int.toNat v122)).bind fun v129 =>
   (List.get?Internal v126 (Int.toNat v122)).bind fun v130 =>
   (at? v130 v123).bind fun v131 =>
   (List.get?Internal v126 (Int.toNat v122)).bind fun v132 =>
   (List.get?Internal v132 (Int.toNat v123)).bind fun v133 =>
   some (v121, v122, v123, v124, v133, v125, v126, v127, ())
  else
   some (v121, v122, v123, v124, false, v125, v126, v127, ()))).bind fun (v134, v135, v136, v137, v138, v139, v140, v141, _) =>
 (bif v138 then
  ((at? v140 v135).bind fun v142 =>
   (List.get?Internal v140 (Int.toNat v135)).bind fun v143 =>
   (at? v140 v135).bind fun v144 =>
   (List.get?Internal v140 (Int.toNat v135)).bind fun v145 =>
   (List.get?Internal v140 (Int.toNat v135)).bind fun v146 =>
   (at? v146 v137).bind fun v147 =>
   (List.get?Internal v140 (Int.toNat v135)).bind fun v148 =>
   (List.get?Internal v148 (Int.toNat v137)).bind fun v149 =>
   (bif v149 then
    (List.get?Internal v140 (Int.toNat v135)).bind fun v150 =>
    (at? v150 v137).bind fun v151 =>
    (List.get?Internal v140 (Int.toNat v135)).bind fun v152 =>
    (List.get?Internal v152 (Int.toNat v137)).bind fun v153 =>
    some (v134, v135, v136, v137, v139, (List.set v140 (Int.toNat v135) (List.set v152 (Int.toNat v137) true)), v141, ())
   else
    (at? v141 v136).bind fun v154 =>
    (List.get?Internal v141 (Int.toNat v136)).bind fun v155 =>
    (List.get?Internal v141 (Int.toNat v136)).bind fun v156 =>
    (at? v156 v137).bind fun v157 =>
    (List.get?Internal v141 (Int.toNat v136)).bind fun v158 =>
    (List.get?Internal v158 (Int.toNat v137)).bind fun v159 =>
    (List.get?Internal v140 (Int.toNat v135)).bind fun v160 =>
    (at? v160 v137).bind fun v161 =>
    (List.get?Internal v140 (Int.toNat v135)).bind fun v162 =>
    (List.get?Internal v162 (Int.toNat v137)).bind fun v163 =>
    some (v134, v135, v136, v137, v139, (List.set v140 (Int.toNat v135) (List.set v162 (Int.toNat v137) v159)), v141, ()))).bind fun (v164, v165, v166, v167, v168, v169, v170, _) =>
  some (.inl (v164, v165, v166, (w64 (v167 + (1 : Int))), v168, v169, v170, ()))
 else
  some (.inr (v134, v135, v136, v139, v140, v141, ())))
def g29_8 (k : Nat) : LB (Int × Int × Int × RxT × (List (List Bool)) × (List (List Bool)) × Unit) (Int × Int × RxT × (List (List Bool)) × (List (List Bool)) × Unit) := fun (v115, v116, v117, v118, v119, v120, _) =>
 (bif decide (v117 < v115) then
  (iter k (g29_9 k) (v115, v116, v117, (w64 (v117 + (1 : Int))), v118, v119, v120, ())).bind fun (v171, v172, v173, v174, v175, v176, _) =>
  some (.inl (v171, v172, (w64 (v173 + (1 : Int))), v174, v175, v176, ()))
 else
  some (.inr (v115, v116, v118, v119, v120, ())))
def g29_7 (k : Nat) : LB (Int × Int × RxT × (List (List Bool)) × (List (List Bool)) × Unit) (RxT × (List (List Bool)) × (List (List Bool)) × Unit) := fun (v110, v111, v112, v113, v114, _) =>
 (bif decide (v111 < v110) then
  (iter k (g29_8 k) (v110, v111, v111, v112, v113, v114, ())).bind fun (v177, v178, v179, v180, v181, _) =>
  some (.inl (v177, (w64 (v178 + (1 : Int))), v179, v180, v181, ()))
 else
  some (.inr (v112, v113, v114, ())))
def g29 (k : Nat) (e : E29) (r0 : RxT) (b0 : List Int) : (Option ((List (List Bool)) × Unit)) :=
 (F49 k ((w64 ((b0.length : Int) + (1 : Int))), ())).bind fun (v0, _) =>
 ((bif ((RxT.k r0) == (1 : Int)) then
   (iter k (g29_1 k) (b0, (w64 ((b0.length : Int) + (1 : Int))), (0 : Int), r0, v0, ())).bind fun (v14, _) =>
   some (.inl (v14, ()))
  else
   ((bif ((RxT.k r0) == (3 : Int)) then
     (iter k (g29_2 k e) (b0, (w64 ((b0.length : Int) + (1 : Int))), (0 : Int), r0, v0, ())).bind fun (v79, _) =>
     some (.inl (v79, ()))
    else
     (bif ((RxT.k r0) == (2 : Int)) then
      (F50 k ((w64 ((b0.length : Int) + (1 : Int))), ())).bind fun (v80, _) =>
      (iter k (g29_5 k e) (b0, (0 : Int), r0, v80, ())).bind fun (v88, _) =>
      some (.inl (v88, ()))
     else
      some (.inr (b0, (w64 ((b0.length : Int) + (1 : Int))), r0, ())))) : Option (((List (List Bool)) × Unit) ⊕ ((List Int) × Int × RxT × Unit))).bind fun
   | .inl (v89, _) => some (.inl (v89, ()))
   | .inr (v90, v91, v92, _) => some (.inr (v90, v91, v92, ()))) : Option (((List (List Bool)) × Unit) ⊕ ((List Int) × Int × RxT × Unit))).bind fun
 | .inl (v93, _) => some (v93, ())
 | .inr (v94, v95, v96, _) => (at? (RxT.a v96) (0 : Int)).bind fun v97 =>
  (e (v97, v94, ())).bind fun (v98, _) =>
  (bif ((RxT.k v96) == (6 : Int)) then
   (iter k (g29_6 k) (v95, (0 : Int), v98, ())).bind fun (v108, _) =>
   some (v108, ())
  else
   (F50 k (v95, ())).bind fun (v109, _) =>
   (iter k (g29_7 k) (v95, (0 : Int), v96, v109, v98, ())).bind fun (v182, v183, v184, _) =>
   (bif ((RxT.k v182) == (5 : Int)) then
    (F51 k (v184, v183, ())).bind fun (v185, _) =>
    some (v185, ())
   else
    some (v183, ())))
theorem R29_g (k : Nat) (e : E29) (h : HOk (S := SyS) prog 29 sSpan sTab e) (r0 : RxT) (b0 : List Int) : R29 k e h (r0, b0, ()) = g29 k e r0 b0 := by kernel_rfl
end Go.Pi

