/-
  MADE BY PROGRAM (gentt.py): the types and the functions of this translation are as the evaluator takes them.
-/
import Derived.Test.YtnaafeeloicklaaGreatDoorEngS
import Derived.Test.YtnaafeeloicklaaGreatDoorProg
import Derived.KernelRfl
namespace Go.Eng
open Go Go.Proofs
set_option maxHeartbeats 4000000

theorem tok1 : TIok Tryz.prog 1 (tt0 1) := ⟨⟨_, Tryz.underlying1, trivial⟩, Tryz.t1, _, by kernel_rfl, rfl, rfl, rfl, by kernel_rfl, by kernel_rfl⟩
theorem tok2 : TIok Tryz.prog 2 (tt0 2) := ⟨⟨_, Tryz.underlying2, rfl⟩, Tryz.t2, _, by kernel_rfl, rfl, rfl, rfl, by kernel_rfl, by kernel_rfl⟩
theorem tok3 : TIok Tryz.prog 3 (tt0 3) := ⟨⟨_, Tryz.underlying3, rfl⟩, Tryz.t3, _, by kernel_rfl, rfl, rfl, rfl, by kernel_rfl, by kernel_rfl⟩
theorem tok4 : TIok Tryz.prog 4 (tt0 4) := ⟨⟨_, Tryz.underlying4, trivial⟩, Tryz.t4, _, by kernel_rfl, rfl, rfl, rfl, by kernel_rfl, by kernel_rfl⟩
theorem tok5 : TIok Tryz.prog 5 (tt0 5) := ⟨⟨_, Tryz.underlying5, rfl⟩, Tryz.t5, _, by kernel_rfl, rfl, rfl, rfl, by kernel_rfl, by kernel_rfl⟩
theorem tok6 : TIok Tryz.prog 6 (tt0 6) := ⟨⟨_, Tryz.underlying6, rfl⟩, Tryz.t6, _, by kernel_rfl, rfl, rfl, rfl, by kernel_rfl, by kernel_rfl⟩
theorem tok7 : TIok Tryz.prog 7 (tt0 7) := ⟨⟨_, Tryz.underlying7, rfl⟩, Tryz.t7, _, by kernel_rfl, rfl, rfl, rfl, by kernel_rfl, by kernel_rfl⟩
theorem tok8 : TIok Tryz.prog 8 (tt0 8) := ⟨⟨_, Tryz.underlying8, rfl⟩, Tryz.t8, _, by kernel_rfl, rfl, rfl, rfl, by kernel_rfl, by kernel_rfl⟩
theorem tok9 : TIok Tryz.prog 9 (tt0 9) := ⟨⟨_, Tryz.underlying9, trivial⟩, Tryz.t9, _, by kernel_rfl, rfl, rfl, rfl, by kernel_rfl, by kernel_rfl⟩
theorem tok10 : TIok Tryz.prog 10 (tt0 10) := ⟨⟨_, Tryz.underlying10, trivial⟩, Tryz.t10, _, by kernel_rfl, rfl, rfl, rfl, by kernel_rfl, by kernel_rfl⟩
theorem tok11 : TIok Tryz.prog 11 (tt0 11) := ⟨⟨_, Tryz.underlying11, trivial⟩, Tryz.t11, _, by kernel_rfl, rfl, rfl, rfl, by kernel_rfl, by kernel_rfl⟩
theorem tok12 : TIok Tryz.prog 12 (tt0 12) := ⟨⟨_, Tryz.underlying12, rfl⟩, Tryz.t12, _, by kernel_rfl, rfl, rfl, rfl, by kernel_rfl, by kernel_rfl⟩
theorem tok13 : TIok Tryz.prog 13 (tt0 13) := ⟨⟨_, Tryz.underlying13, rfl⟩, Tryz.t13, _, by kernel_rfl, rfl, rfl, rfl, by kernel_rfl, by kernel_rfl⟩
theorem tok14 : TIok Tryz.prog 14 (tt0 14) := ⟨⟨_, Tryz.underlying14, rfl⟩, Tryz.t14, _, by kernel_rfl, rfl, rfl, rfl, by kernel_rfl, by kernel_rfl⟩
theorem tok15 : TIok Tryz.prog 15 (tt0 15) := ⟨⟨_, Tryz.underlying15, rfl⟩, Tryz.t15, _, by kernel_rfl, rfl, rfl, rfl, by kernel_rfl, by kernel_rfl⟩
theorem tok16 : TIok Tryz.prog 16 (tt0 16) := ⟨⟨_, Tryz.underlying16, rfl⟩, Tryz.t16, _, by kernel_rfl, rfl, rfl, rfl, by kernel_rfl, by kernel_rfl⟩
theorem tok17 : TIok Tryz.prog 17 (tt0 17) := ⟨⟨_, Tryz.underlying17, rfl⟩, Tryz.t17, _, by kernel_rfl, rfl, rfl, rfl, by kernel_rfl, by kernel_rfl⟩
theorem tok18 : TIok Tryz.prog 18 (tt0 18) := ⟨⟨_, Tryz.underlying18, rfl⟩, Tryz.t18, _, by kernel_rfl, rfl, rfl, rfl, by kernel_rfl, by kernel_rfl⟩
theorem tok19 : TIok Tryz.prog 19 (tt0 19) := ⟨⟨_, Tryz.underlying19, rfl⟩, Tryz.t19, _, by kernel_rfl, rfl, rfl, rfl, by kernel_rfl, by kernel_rfl⟩
theorem tok21 : TIok Tryz.prog 21 (tt0 21) := ⟨⟨_, Tryz.underlying21, rfl⟩, Tryz.t21, _, by kernel_rfl, rfl, rfl, rfl, by kernel_rfl, by kernel_rfl⟩
theorem tok22 : TIok Tryz.prog 22 (tt0 22) := ⟨⟨_, Tryz.underlying22, rfl⟩, Tryz.t22, _, by kernel_rfl, rfl, rfl, rfl, by kernel_rfl, by kernel_rfl⟩
theorem tok23 : TIok Tryz.prog 23 (tt0 23) := ⟨⟨_, Tryz.underlying23, ⟨rfl, rfl⟩⟩, Tryz.t23, _, by kernel_rfl, rfl, rfl, rfl, by kernel_rfl, by kernel_rfl⟩
theorem tok24 : TIok Tryz.prog 24 (tt0 24) := ⟨⟨_, Tryz.underlying24, ⟨rfl, rfl⟩⟩, Tryz.t24, _, by kernel_rfl, rfl, rfl, rfl, by kernel_rfl, by kernel_rfl⟩
theorem tok25 : TIok Tryz.prog 25 (tt0 25) := ⟨⟨_, Tryz.underlying25, ⟨rfl, rfl⟩⟩, Tryz.t25, _, by kernel_rfl, rfl, rfl, rfl, by kernel_rfl, by kernel_rfl⟩
theorem tok26 : TIok Tryz.prog 26 (tt0 26) := ⟨⟨_, Tryz.underlying26, ⟨rfl, rfl⟩⟩, Tryz.t26, _, by kernel_rfl, rfl, rfl, rfl, by kernel_rfl, by kernel_rfl⟩
theorem tok27 : TIok Tryz.prog 27 (tt0 27) := ⟨⟨_, Tryz.underlying27, rfl⟩, Tryz.t27, _, by kernel_rfl, rfl, rfl, rfl, by kernel_rfl, by kernel_rfl⟩
theorem tok28 : TIok Tryz.prog 28 (tt0 28) := ⟨⟨_, Tryz.underlying28, rfl⟩, Tryz.t28, _, by kernel_rfl, rfl, rfl, rfl, by kernel_rfl, by kernel_rfl⟩
theorem tok29 : TIok Tryz.prog 29 (tt0 29) := ⟨⟨_, Tryz.underlying29, rfl⟩, Tryz.t29, _, by kernel_rfl, rfl, rfl, rfl, by kernel_rfl, by kernel_rfl⟩
theorem tok30 : TIok Tryz.prog 30 (tt0 30) := ⟨⟨_, Tryz.underlying30, rfl⟩, Tryz.t30, _, by kernel_rfl, rfl, rfl, rfl, by kernel_rfl, by kernel_rfl⟩
theorem tok31 : TIok Tryz.prog 31 (tt0 31) := ⟨⟨_, Tryz.underlying31, rfl⟩, Tryz.t31, _, by kernel_rfl, rfl, rfl, rfl, by kernel_rfl, by kernel_rfl⟩
theorem tok32 : TIok Tryz.prog 32 (tt0 32) := ⟨⟨_, Tryz.underlying32, rfl⟩, Tryz.t32, _, by kernel_rfl, rfl, rfl, rfl, by kernel_rfl, by kernel_rfl⟩
theorem tok33 : TIok Tryz.prog 33 (tt0 33) := ⟨⟨_, Tryz.underlying33, trivial⟩, Tryz.t33, _, by kernel_rfl, rfl, rfl, rfl, by kernel_rfl, by kernel_rfl⟩
theorem tok34 : TIok Tryz.prog 34 (tt0 34) := ⟨⟨_, Tryz.underlying34, rfl⟩, Tryz.t34, _, by kernel_rfl, rfl, rfl, rfl, by kernel_rfl, by kernel_rfl⟩
theorem tok35 : TIok Tryz.prog 35 (tt0 35) := ⟨⟨_, Tryz.underlying35, trivial⟩, Tryz.t35, _, by kernel_rfl, rfl, rfl, rfl, by kernel_rfl, by kernel_rfl⟩
theorem tok36 : TIok Tryz.prog 36 (tt0 36) := ⟨⟨_, Tryz.underlying36, trivial⟩, Tryz.t36, _, by kernel_rfl, rfl, rfl, rfl, by kernel_rfl, by kernel_rfl⟩
theorem tok38 : TIok Tryz.prog 38 (tt0 38) := ⟨⟨_, Tryz.underlying38, trivial⟩, Tryz.t38, _, by kernel_rfl, rfl, rfl, rfl, by kernel_rfl, by kernel_rfl⟩
theorem tok39 : TIok Tryz.prog 39 (tt0 39) := ⟨⟨_, Tryz.underlying39, ⟨rfl, rfl⟩⟩, Tryz.t39, _, by kernel_rfl, rfl, rfl, rfl, by kernel_rfl, by kernel_rfl⟩
theorem tok40 : TIok Tryz.prog 40 (tt0 40) := ⟨⟨_, Tryz.underlying40, ⟨rfl, rfl⟩⟩, Tryz.t40, _, by kernel_rfl, rfl, rfl, rfl, by kernel_rfl, by kernel_rfl⟩
theorem tok42 : TIok Tryz.prog 42 (tt0 42) := ⟨⟨_, Tryz.underlying42, trivial⟩, Tryz.t42, _, by kernel_rfl, rfl, rfl, rfl, by kernel_rfl, by kernel_rfl⟩
theorem tok44 : TIok Tryz.prog 44 (tt0 44) := ⟨⟨_, Tryz.underlying44, trivial⟩, Tryz.t44, _, by kernel_rfl, rfl, rfl, rfl, by kernel_rfl, by kernel_rfl⟩
theorem tok45 : TIok Tryz.prog 45 (tt1 45) := ⟨⟨_, Tryz.underlying45, trivial⟩, Tryz.t45, _, by kernel_rfl, rfl, rfl, rfl, by kernel_rfl, by kernel_rfl⟩
theorem tok46 : TIok Tryz.prog 46 (tt1 46) := ⟨⟨_, Tryz.underlying46, trivial⟩, Tryz.t46, _, by kernel_rfl, rfl, rfl, rfl, by kernel_rfl, by kernel_rfl⟩
theorem tok47 : TIok Tryz.prog 47 (tt1 47) := ⟨⟨_, Tryz.underlying47, trivial⟩, Tryz.t47, _, by kernel_rfl, rfl, rfl, rfl, by kernel_rfl, by kernel_rfl⟩
theorem tok48 : TIok Tryz.prog 48 (tt1 48) := ⟨⟨_, Tryz.underlying48, trivial⟩, Tryz.t48, _, by kernel_rfl, rfl, rfl, rfl, by kernel_rfl, by kernel_rfl⟩
theorem tok50 : TIok Tryz.prog 50 (tt1 50) := ⟨⟨_, Tryz.underlying50, trivial⟩, Tryz.t50, _, by kernel_rfl, rfl, rfl, rfl, by kernel_rfl, by kernel_rfl⟩
theorem tok51 : TIok Tryz.prog 51 (tt1 51) := ⟨⟨_, Tryz.underlying51, trivial⟩, Tryz.t51, _, by kernel_rfl, rfl, rfl, rfl, by kernel_rfl, by kernel_rfl⟩
theorem tok52 : TIok Tryz.prog 52 (tt1 52) := ⟨⟨_, Tryz.underlying52, trivial⟩, Tryz.t52, _, by kernel_rfl, rfl, rfl, rfl, by kernel_rfl, by kernel_rfl⟩
theorem tok54 : TIok Tryz.prog 54 (tt1 54) := ⟨⟨_, Tryz.underlying54, trivial⟩, Tryz.t54, _, by kernel_rfl, rfl, rfl, rfl, by kernel_rfl, by kernel_rfl⟩
theorem tok55 : TIok Tryz.prog 55 (tt1 55) := ⟨⟨_, Tryz.underlying55, trivial⟩, Tryz.t55, _, by kernel_rfl, rfl, rfl, rfl, by kernel_rfl, by kernel_rfl⟩
theorem tok56 : TIok Tryz.prog 56 (tt1 56) := ⟨⟨_, Tryz.underlying56, rfl⟩, Tryz.t56, _, by kernel_rfl, rfl, rfl, rfl, by kernel_rfl, by kernel_rfl⟩
theorem tok57 : TIok Tryz.prog 57 (tt1 57) := ⟨⟨_, Tryz.underlying57, rfl⟩, Tryz.t57, _, by kernel_rfl, rfl, rfl, rfl, by kernel_rfl, by kernel_rfl⟩
theorem tok59 : TIok Tryz.prog 59 (tt1 59) := ⟨⟨_, Tryz.underlying59, trivial⟩, Tryz.t59, _, by kernel_rfl, rfl, rfl, rfl, by kernel_rfl, by kernel_rfl⟩
theorem tok61 : TIok Tryz.prog 61 (tt1 61) := ⟨⟨_, Tryz.underlying61, trivial⟩, Tryz.t61, _, by kernel_rfl, rfl, rfl, rfl, by kernel_rfl, by kernel_rfl⟩
theorem tok62 : TIok Tryz.prog 62 (tt1 62) := ⟨⟨_, Tryz.underlying62, trivial⟩, Tryz.t62, _, by kernel_rfl, rfl, rfl, rfl, by kernel_rfl, by kernel_rfl⟩
theorem tok63 : TIok Tryz.prog 63 (tt1 63) := ⟨⟨_, Tryz.underlying63, trivial⟩, Tryz.t63, _, by kernel_rfl, rfl, rfl, rfl, by kernel_rfl, by kernel_rfl⟩
theorem tok64 : TIok Tryz.prog 64 (tt1 64) := ⟨⟨_, Tryz.underlying64, trivial⟩, Tryz.t64, _, by kernel_rfl, rfl, rfl, rfl, by kernel_rfl, by kernel_rfl⟩
theorem tok65 : TIok Tryz.prog 65 (tt1 65) := ⟨⟨_, Tryz.underlying65, trivial⟩, Tryz.t65, _, by kernel_rfl, rfl, rfl, rfl, by kernel_rfl, by kernel_rfl⟩
theorem tok66 : TIok Tryz.prog 66 (tt1 66) := ⟨⟨_, Tryz.underlying66, trivial⟩, Tryz.t66, _, by kernel_rfl, rfl, rfl, rfl, by kernel_rfl, by kernel_rfl⟩
theorem tok67 : TIok Tryz.prog 67 (tt1 67) := ⟨⟨_, Tryz.underlying67, rfl⟩, Tryz.t67, _, by kernel_rfl, rfl, rfl, rfl, by kernel_rfl, by kernel_rfl⟩
theorem tok68 : TIok Tryz.prog 68 (tt1 68) := ⟨⟨_, Tryz.underlying68, trivial⟩, Tryz.t68, _, by kernel_rfl, rfl, rfl, rfl, by kernel_rfl, by kernel_rfl⟩
theorem tok69 : TIok Tryz.prog 69 (tt1 69) := ⟨⟨_, Tryz.underlying69, trivial⟩, Tryz.t69, _, by kernel_rfl, rfl, rfl, rfl, by kernel_rfl, by kernel_rfl⟩
theorem tok70 : TIok Tryz.prog 70 (tt1 70) := ⟨⟨_, Tryz.underlying70, rfl⟩, Tryz.t70, _, by kernel_rfl, rfl, rfl, rfl, by kernel_rfl, by kernel_rfl⟩
theorem tok71 : TIok Tryz.prog 71 (tt1 71) := ⟨⟨_, Tryz.underlying71, rfl⟩, Tryz.t71, _, by kernel_rfl, rfl, rfl, rfl, by kernel_rfl, by kernel_rfl⟩
theorem tok72 : TIok Tryz.prog 72 (tt1 72) := ⟨⟨_, Tryz.underlying72, trivial⟩, Tryz.t72, _, by kernel_rfl, rfl, rfl, rfl, by kernel_rfl, by kernel_rfl⟩
theorem tok73 : TIok Tryz.prog 73 (tt1 73) := ⟨⟨_, Tryz.underlying73, trivial⟩, Tryz.t73, _, by kernel_rfl, rfl, rfl, rfl, by kernel_rfl, by kernel_rfl⟩
theorem tok74 : TIok Tryz.prog 74 (tt1 74) := ⟨⟨_, Tryz.underlying74, trivial⟩, Tryz.t74, _, by kernel_rfl, rfl, rfl, rfl, by kernel_rfl, by kernel_rfl⟩
theorem tok75 : TIok Tryz.prog 75 (tt1 75) := ⟨⟨_, Tryz.underlying75, rfl⟩, Tryz.t75, _, by kernel_rfl, rfl, rfl, rfl, by kernel_rfl, by kernel_rfl⟩
theorem tok76 : TIok Tryz.prog 76 (tt1 76) := ⟨⟨_, Tryz.underlying76, rfl⟩, Tryz.t76, _, by kernel_rfl, rfl, rfl, rfl, by kernel_rfl, by kernel_rfl⟩
theorem tok77 : TIok Tryz.prog 77 (tt1 77) := ⟨⟨_, Tryz.underlying77, trivial⟩, Tryz.t77, _, by kernel_rfl, rfl, rfl, rfl, by kernel_rfl, by kernel_rfl⟩
theorem tok78 : TIok Tryz.prog 78 (tt1 78) := ⟨⟨_, Tryz.underlying78, rfl⟩, Tryz.t78, _, by kernel_rfl, rfl, rfl, rfl, by kernel_rfl, by kernel_rfl⟩
theorem tok79 : TIok Tryz.prog 79 (tt1 79) := ⟨⟨_, Tryz.underlying79, rfl⟩, Tryz.t79, _, by kernel_rfl, rfl, rfl, rfl, by kernel_rfl, by kernel_rfl⟩
theorem tok80 : TIok Tryz.prog 80 (tt1 80) := ⟨⟨_, Tryz.underlying80, trivial⟩, Tryz.t80, _, by kernel_rfl, rfl, rfl, rfl, by kernel_rfl, by kernel_rfl⟩
theorem tok81 : TIok Tryz.prog 81 (tt1 81) := ⟨⟨_, Tryz.underlying81, trivial⟩, Tryz.t81, _, by kernel_rfl, rfl, rfl, rfl, by kernel_rfl, by kernel_rfl⟩
theorem tok82 : TIok Tryz.prog 82 (tt1 82) := ⟨⟨_, Tryz.underlying82, trivial⟩, Tryz.t82, _, by kernel_rfl, rfl, rfl, rfl, by kernel_rfl, by kernel_rfl⟩
theorem tok83 : TIok Tryz.prog 83 (tt1 83) := ⟨⟨_, Tryz.underlying83, trivial⟩, Tryz.t83, _, by kernel_rfl, rfl, rfl, rfl, by kernel_rfl, by kernel_rfl⟩
theorem tok84 : TIok Tryz.prog 84 (tt1 84) := ⟨⟨_, Tryz.underlying84, trivial⟩, Tryz.t84, _, by kernel_rfl, rfl, rfl, rfl, by kernel_rfl, by kernel_rfl⟩
theorem tok85 : TIok Tryz.prog 85 (tt1 85) := ⟨⟨_, Tryz.underlying85, trivial⟩, Tryz.t85, _, by kernel_rfl, rfl, rfl, rfl, by kernel_rfl, by kernel_rfl⟩
theorem tok86 : TIok Tryz.prog 86 (tt1 86) := ⟨⟨_, Tryz.underlying86, trivial⟩, Tryz.t86, _, by kernel_rfl, rfl, rfl, rfl, by kernel_rfl, by kernel_rfl⟩
theorem tok87 : TIok Tryz.prog 87 (tt1 87) := ⟨⟨_, Tryz.underlying87, trivial⟩, Tryz.t87, _, by kernel_rfl, rfl, rfl, rfl, by kernel_rfl, by kernel_rfl⟩
theorem tok88 : TIok Tryz.prog 88 (tt1 88) := ⟨⟨_, Tryz.underlying88, trivial⟩, Tryz.t88, _, by kernel_rfl, rfl, rfl, rfl, by kernel_rfl, by kernel_rfl⟩
theorem tok89 : TIok Tryz.prog 89 (tt2 89) := ⟨⟨_, Tryz.underlying89, trivial⟩, Tryz.t89, _, by kernel_rfl, rfl, rfl, rfl, by kernel_rfl, by kernel_rfl⟩
theorem tok91 : TIok Tryz.prog 91 (tt2 91) := ⟨⟨_, Tryz.underlying91, trivial⟩, Tryz.t91, _, by kernel_rfl, rfl, rfl, rfl, by kernel_rfl, by kernel_rfl⟩
theorem tok93 : TIok Tryz.prog 93 (tt2 93) := ⟨⟨_, Tryz.underlying93, trivial⟩, Tryz.t93, _, by kernel_rfl, rfl, rfl, rfl, by kernel_rfl, by kernel_rfl⟩
theorem tok95 : TIok Tryz.prog 95 (tt2 95) := ⟨⟨_, Tryz.underlying95, trivial⟩, Tryz.t95, _, by kernel_rfl, rfl, rfl, rfl, by kernel_rfl, by kernel_rfl⟩
theorem tok96 : TIok Tryz.prog 96 (tt2 96) := ⟨⟨_, Tryz.underlying96, trivial⟩, Tryz.t96, _, by kernel_rfl, rfl, rfl, rfl, by kernel_rfl, by kernel_rfl⟩
theorem tok97 : TIok Tryz.prog 97 (tt2 97) := ⟨⟨_, Tryz.underlying97, trivial⟩, Tryz.t97, _, by kernel_rfl, rfl, rfl, rfl, by kernel_rfl, by kernel_rfl⟩
theorem tok98 : TIok Tryz.prog 98 (tt2 98) := ⟨⟨_, Tryz.underlying98, trivial⟩, Tryz.t98, _, by kernel_rfl, rfl, rfl, rfl, by kernel_rfl, by kernel_rfl⟩
theorem tok100 : TIok Tryz.prog 100 (tt2 100) := ⟨⟨_, Tryz.underlying100, trivial⟩, Tryz.t100, _, by kernel_rfl, rfl, rfl, rfl, by kernel_rfl, by kernel_rfl⟩
theorem tok101 : TIok Tryz.prog 101 (tt2 101) := ⟨⟨_, Tryz.underlying101, trivial⟩, Tryz.t101, _, by kernel_rfl, rfl, rfl, rfl, by kernel_rfl, by kernel_rfl⟩
theorem tok102 : TIok Tryz.prog 102 (tt2 102) := ⟨⟨_, Tryz.underlying102, trivial⟩, Tryz.t102, _, by kernel_rfl, rfl, rfl, rfl, by kernel_rfl, by kernel_rfl⟩
theorem tok103 : TIok Tryz.prog 103 (tt2 103) := ⟨⟨_, Tryz.underlying103, trivial⟩, Tryz.t103, _, by kernel_rfl, rfl, rfl, rfl, by kernel_rfl, by kernel_rfl⟩
theorem tok104 : TIok Tryz.prog 104 (tt2 104) := ⟨⟨_, Tryz.underlying104, rfl⟩, Tryz.t104, _, by kernel_rfl, rfl, rfl, rfl, by kernel_rfl, by kernel_rfl⟩
theorem tok105 : TIok Tryz.prog 105 (tt2 105) := ⟨⟨_, Tryz.underlying105, ⟨rfl, rfl⟩⟩, Tryz.t105, _, by kernel_rfl, rfl, rfl, rfl, by kernel_rfl, by kernel_rfl⟩
theorem tok106 : TIok Tryz.prog 106 (tt2 106) := ⟨⟨_, Tryz.underlying106, ⟨rfl, rfl⟩⟩, Tryz.t106, _, by kernel_rfl, rfl, rfl, rfl, by kernel_rfl, by kernel_rfl⟩
theorem tok107 : TIok Tryz.prog 107 (tt2 107) := ⟨⟨_, Tryz.underlying107, rfl⟩, Tryz.t107, _, by kernel_rfl, rfl, rfl, rfl, by kernel_rfl, by kernel_rfl⟩
theorem tok108 : TIok Tryz.prog 108 (tt2 108) := ⟨⟨_, Tryz.underlying108, rfl⟩, Tryz.t108, _, by kernel_rfl, rfl, rfl, rfl, by kernel_rfl, by kernel_rfl⟩
theorem tok109 : TIok Tryz.prog 109 (tt2 109) := ⟨⟨_, Tryz.underlying109, trivial⟩, Tryz.t109, _, by kernel_rfl, rfl, rfl, rfl, by kernel_rfl, by kernel_rfl⟩
theorem tok110 : TIok Tryz.prog 110 (tt2 110) := ⟨⟨_, Tryz.underlying110, trivial⟩, Tryz.t110, _, by kernel_rfl, rfl, rfl, rfl, by kernel_rfl, by kernel_rfl⟩
theorem tok112 : TIok Tryz.prog 112 (tt2 112) := ⟨⟨_, Tryz.underlying112, trivial⟩, Tryz.t112, _, by kernel_rfl, rfl, rfl, rfl, by kernel_rfl, by kernel_rfl⟩
theorem tok113 : TIok Tryz.prog 113 (tt2 113) := ⟨⟨_, Tryz.underlying113, trivial⟩, Tryz.t113, _, by kernel_rfl, rfl, rfl, rfl, by kernel_rfl, by kernel_rfl⟩
theorem tok114 : TIok Tryz.prog 114 (tt2 114) := ⟨⟨_, Tryz.underlying114, trivial⟩, Tryz.t114, _, by kernel_rfl, rfl, rfl, rfl, by kernel_rfl, by kernel_rfl⟩
theorem tok115 : TIok Tryz.prog 115 (tt2 115) := ⟨⟨_, Tryz.underlying115, trivial⟩, Tryz.t115, _, by kernel_rfl, rfl, rfl, rfl, by kernel_rfl, by kernel_rfl⟩
theorem tok116 : TIok Tryz.prog 116 (tt2 116) := ⟨⟨_, Tryz.underlying116, trivial⟩, Tryz.t116, _, by kernel_rfl, rfl, rfl, rfl, by kernel_rfl, by kernel_rfl⟩
theorem tok117 : TIok Tryz.prog 117 (tt2 117) := ⟨⟨_, Tryz.underlying117, trivial⟩, Tryz.t117, _, by kernel_rfl, rfl, rfl, rfl, by kernel_rfl, by kernel_rfl⟩
theorem tok118 : TIok Tryz.prog 118 (tt2 118) := ⟨⟨_, Tryz.underlying118, trivial⟩, Tryz.t118, _, by kernel_rfl, rfl, rfl, rfl, by kernel_rfl, by kernel_rfl⟩
theorem tok119 : TIok Tryz.prog 119 (tt2 119) := ⟨⟨_, Tryz.underlying119, trivial⟩, Tryz.t119, _, by kernel_rfl, rfl, rfl, rfl, by kernel_rfl, by kernel_rfl⟩
theorem tok120 : TIok Tryz.prog 120 (tt2 120) := ⟨⟨_, Tryz.underlying120, trivial⟩, Tryz.t120, _, by kernel_rfl, rfl, rfl, rfl, by kernel_rfl, by kernel_rfl⟩
theorem tok122 : TIok Tryz.prog 122 (tt2 122) := ⟨⟨_, Tryz.underlying122, trivial⟩, Tryz.t122, _, by kernel_rfl, rfl, rfl, rfl, by kernel_rfl, by kernel_rfl⟩
theorem tok124 : TIok Tryz.prog 124 (tt2 124) := ⟨⟨_, Tryz.underlying124, trivial⟩, Tryz.t124, _, by kernel_rfl, rfl, rfl, rfl, by kernel_rfl, by kernel_rfl⟩
theorem tok126 : TIok Tryz.prog 126 (tt2 126) := ⟨⟨_, Tryz.underlying126, trivial⟩, Tryz.t126, _, by kernel_rfl, rfl, rfl, rfl, by kernel_rfl, by kernel_rfl⟩
theorem tok127 : TIok Tryz.prog 127 (tt2 127) := ⟨⟨_, Tryz.underlying127, trivial⟩, Tryz.t127, _, by kernel_rfl, rfl, rfl, rfl, by kernel_rfl, by kernel_rfl⟩
theorem tok128 : TIok Tryz.prog 128 (tt2 128) := ⟨⟨_, Tryz.underlying128, trivial⟩, Tryz.t128, _, by kernel_rfl, rfl, rfl, rfl, by kernel_rfl, by kernel_rfl⟩
theorem tok129 : TIok Tryz.prog 129 (tt2 129) := ⟨⟨_, Tryz.underlying129, trivial⟩, Tryz.t129, _, by kernel_rfl, rfl, rfl, rfl, by kernel_rfl, by kernel_rfl⟩
theorem tok130 : TIok Tryz.prog 130 (tt2 130) := ⟨⟨_, Tryz.underlying130, trivial⟩, Tryz.t130, _, by kernel_rfl, rfl, rfl, rfl, by kernel_rfl, by kernel_rfl⟩
theorem tok131 : TIok Tryz.prog 131 (tt2 131) := ⟨⟨_, Tryz.underlying131, trivial⟩, Tryz.t131, _, by kernel_rfl, rfl, rfl, rfl, by kernel_rfl, by kernel_rfl⟩
theorem tok132 : TIok Tryz.prog 132 (tt2 132) := ⟨⟨_, Tryz.underlying132, trivial⟩, Tryz.t132, _, by kernel_rfl, rfl, rfl, rfl, by kernel_rfl, by kernel_rfl⟩
theorem tok133 : TIok Tryz.prog 133 (tt2 133) := ⟨⟨_, Tryz.underlying133, rfl⟩, Tryz.t133, _, by kernel_rfl, rfl, rfl, rfl, by kernel_rfl, by kernel_rfl⟩
theorem tok134 : TIok Tryz.prog 134 (tt2 134) := ⟨⟨_, Tryz.underlying134, trivial⟩, Tryz.t134, _, by kernel_rfl, rfl, rfl, rfl, by kernel_rfl, by kernel_rfl⟩
theorem tok135 : TIok Tryz.prog 135 (tt2 135) := ⟨⟨_, Tryz.underlying135, trivial⟩, Tryz.t135, _, by kernel_rfl, rfl, rfl, rfl, by kernel_rfl, by kernel_rfl⟩
theorem tok137 : TIok Tryz.prog 137 (tt2 137) := ⟨⟨_, Tryz.underlying137, trivial⟩, Tryz.t137, _, by kernel_rfl, rfl, rfl, rfl, by kernel_rfl, by kernel_rfl⟩
theorem tok138 : TIok Tryz.prog 138 (tt3 138) := ⟨⟨_, Tryz.underlying138, trivial⟩, Tryz.t138, _, by kernel_rfl, rfl, rfl, rfl, by kernel_rfl, by kernel_rfl⟩
theorem tok139 : TIok Tryz.prog 139 (tt3 139) := ⟨⟨_, Tryz.underlying139, rfl⟩, Tryz.t139, _, by kernel_rfl, rfl, rfl, rfl, by kernel_rfl, by kernel_rfl⟩
theorem tok141 : TIok Tryz.prog 141 (tt3 141) := ⟨⟨_, Tryz.underlying141, trivial⟩, Tryz.t141, _, by kernel_rfl, rfl, rfl, rfl, by kernel_rfl, by kernel_rfl⟩
theorem tok142 : TIok Tryz.prog 142 (tt3 142) := ⟨⟨_, Tryz.underlying142, rfl⟩, Tryz.t142, _, by kernel_rfl, rfl, rfl, rfl, by kernel_rfl, by kernel_rfl⟩
theorem tok143 : TIok Tryz.prog 143 (tt3 143) := ⟨⟨_, Tryz.underlying143, rfl⟩, Tryz.t143, _, by kernel_rfl, rfl, rfl, rfl, by kernel_rfl, by kernel_rfl⟩
theorem tok144 : TIok Tryz.prog 144 (tt3 144) := ⟨⟨_, Tryz.underlying144, trivial⟩, Tryz.t144, _, by kernel_rfl, rfl, rfl, rfl, by kernel_rfl, by kernel_rfl⟩
theorem tok145 : TIok Tryz.prog 145 (tt3 145) := ⟨⟨_, Tryz.underlying145, rfl⟩, Tryz.t145, _, by kernel_rfl, rfl, rfl, rfl, by kernel_rfl, by kernel_rfl⟩
theorem tok146 : TIok Tryz.prog 146 (tt3 146) := ⟨⟨_, Tryz.underlying146, trivial⟩, Tryz.t146, _, by kernel_rfl, rfl, rfl, rfl, by kernel_rfl, by kernel_rfl⟩
theorem tok148 : TIok Tryz.prog 148 (tt3 148) := ⟨⟨_, Tryz.underlying148, trivial⟩, Tryz.t148, _, by kernel_rfl, rfl, rfl, rfl, by kernel_rfl, by kernel_rfl⟩
theorem tok150 : TIok Tryz.prog 150 (tt3 150) := ⟨⟨_, Tryz.underlying150, trivial⟩, Tryz.t150, _, by kernel_rfl, rfl, rfl, rfl, by kernel_rfl, by kernel_rfl⟩
theorem tok152 : TIok Tryz.prog 152 (tt3 152) := ⟨⟨_, Tryz.underlying152, trivial⟩, Tryz.t152, _, by kernel_rfl, rfl, rfl, rfl, by kernel_rfl, by kernel_rfl⟩
theorem tok153 : TIok Tryz.prog 153 (tt3 153) := ⟨⟨_, Tryz.underlying153, rfl⟩, Tryz.t153, _, by kernel_rfl, rfl, rfl, rfl, by kernel_rfl, by kernel_rfl⟩
theorem tok154 : TIok Tryz.prog 154 (tt3 154) := ⟨⟨_, Tryz.underlying154, ⟨rfl, rfl⟩⟩, Tryz.t154, _, by kernel_rfl, rfl, rfl, rfl, by kernel_rfl, by kernel_rfl⟩
theorem tok156 : TIok Tryz.prog 156 (tt3 156) := ⟨⟨_, Tryz.underlying156, trivial⟩, Tryz.t156, _, by kernel_rfl, rfl, rfl, rfl, by kernel_rfl, by kernel_rfl⟩
theorem tok157 : TIok Tryz.prog 157 (tt3 157) := ⟨⟨_, Tryz.underlying157, trivial⟩, Tryz.t157, _, by kernel_rfl, rfl, rfl, rfl, by kernel_rfl, by kernel_rfl⟩
theorem tok158 : TIok Tryz.prog 158 (tt3 158) := ⟨⟨_, Tryz.underlying158, rfl⟩, Tryz.t158, _, by kernel_rfl, rfl, rfl, rfl, by kernel_rfl, by kernel_rfl⟩
theorem tok159 : TIok Tryz.prog 159 (tt3 159) := ⟨⟨_, Tryz.underlying159, trivial⟩, Tryz.t159, _, by kernel_rfl, rfl, rfl, rfl, by kernel_rfl, by kernel_rfl⟩
theorem tok160 : TIok Tryz.prog 160 (tt3 160) := ⟨⟨_, Tryz.underlying160, trivial⟩, Tryz.t160, _, by kernel_rfl, rfl, rfl, rfl, by kernel_rfl, by kernel_rfl⟩
theorem tok161 : TIok Tryz.prog 161 (tt3 161) := ⟨⟨_, Tryz.underlying161, trivial⟩, Tryz.t161, _, by kernel_rfl, rfl, rfl, rfl, by kernel_rfl, by kernel_rfl⟩
theorem tok162 : TIok Tryz.prog 162 (tt3 162) := ⟨⟨_, Tryz.underlying162, trivial⟩, Tryz.t162, _, by kernel_rfl, rfl, rfl, rfl, by kernel_rfl, by kernel_rfl⟩
theorem tok163 : TIok Tryz.prog 163 (tt3 163) := ⟨⟨_, Tryz.underlying163, trivial⟩, Tryz.t163, _, by kernel_rfl, rfl, rfl, rfl, by kernel_rfl, by kernel_rfl⟩
theorem tok164 : TIok Tryz.prog 164 (tt3 164) := ⟨⟨_, Tryz.underlying164, trivial⟩, Tryz.t164, _, by kernel_rfl, rfl, rfl, rfl, by kernel_rfl, by kernel_rfl⟩
theorem tok165 : TIok Tryz.prog 165 (tt3 165) := ⟨⟨_, Tryz.underlying165, trivial⟩, Tryz.t165, _, by kernel_rfl, rfl, rfl, rfl, by kernel_rfl, by kernel_rfl⟩
theorem tok167 : TIok Tryz.prog 167 (tt3 167) := ⟨⟨_, Tryz.underlying167, trivial⟩, Tryz.t167, _, by kernel_rfl, rfl, rfl, rfl, by kernel_rfl, by kernel_rfl⟩
theorem tok168 : TIok Tryz.prog 168 (tt3 168) := ⟨⟨_, Tryz.underlying168, trivial⟩, Tryz.t168, _, by kernel_rfl, rfl, rfl, rfl, by kernel_rfl, by kernel_rfl⟩
theorem tok169 : TIok Tryz.prog 169 (tt3 169) := ⟨⟨_, Tryz.underlying169, trivial⟩, Tryz.t169, _, by kernel_rfl, rfl, rfl, rfl, by kernel_rfl, by kernel_rfl⟩
theorem tok170 : TIok Tryz.prog 170 (tt3 170) := ⟨⟨_, Tryz.underlying170, trivial⟩, Tryz.t170, _, by kernel_rfl, rfl, rfl, rfl, by kernel_rfl, by kernel_rfl⟩
theorem tok171 : TIok Tryz.prog 171 (tt3 171) := ⟨⟨_, Tryz.underlying171, trivial⟩, Tryz.t171, _, by kernel_rfl, rfl, rfl, rfl, by kernel_rfl, by kernel_rfl⟩
theorem tok173 : TIok Tryz.prog 173 (tt3 173) := ⟨⟨_, Tryz.underlying173, trivial⟩, Tryz.t173, _, by kernel_rfl, rfl, rfl, rfl, by kernel_rfl, by kernel_rfl⟩
theorem tok174 : TIok Tryz.prog 174 (tt3 174) := ⟨⟨_, Tryz.underlying174, trivial⟩, Tryz.t174, _, by kernel_rfl, rfl, rfl, rfl, by kernel_rfl, by kernel_rfl⟩
theorem tok176 : TIok Tryz.prog 176 (tt3 176) := ⟨⟨_, Tryz.underlying176, trivial⟩, Tryz.t176, _, by kernel_rfl, rfl, rfl, rfl, by kernel_rfl, by kernel_rfl⟩
theorem tok177 : TIok Tryz.prog 177 (tt3 177) := ⟨⟨_, Tryz.underlying177, trivial⟩, Tryz.t177, _, by kernel_rfl, rfl, rfl, rfl, by kernel_rfl, by kernel_rfl⟩
theorem tok179 : TIok Tryz.prog 179 (tt3 179) := ⟨⟨_, Tryz.underlying179, trivial⟩, Tryz.t179, _, by kernel_rfl, rfl, rfl, rfl, by kernel_rfl, by kernel_rfl⟩
theorem tok180 : TIok Tryz.prog 180 (tt3 180) := ⟨⟨_, Tryz.underlying180, trivial⟩, Tryz.t180, _, by kernel_rfl, rfl, rfl, rfl, by kernel_rfl, by kernel_rfl⟩
theorem tok181 : TIok Tryz.prog 181 (tt3 181) := ⟨⟨_, Tryz.underlying181, ⟨rfl, rfl⟩⟩, Tryz.t181, _, by kernel_rfl, rfl, rfl, rfl, by kernel_rfl, by kernel_rfl⟩
theorem tok182 : TIok Tryz.prog 182 (tt3 182) := ⟨⟨_, Tryz.underlying182, trivial⟩, Tryz.t182, _, by kernel_rfl, rfl, rfl, rfl, by kernel_rfl, by kernel_rfl⟩
theorem tok183 : TIok Tryz.prog 183 (tt3 183) := ⟨⟨_, Tryz.underlying183, trivial⟩, Tryz.t183, _, by kernel_rfl, rfl, rfl, rfl, by kernel_rfl, by kernel_rfl⟩
theorem tok184 : TIok Tryz.prog 184 (tt3 184) := ⟨⟨_, Tryz.underlying184, trivial⟩, Tryz.t184, _, by kernel_rfl, rfl, rfl, rfl, by kernel_rfl, by kernel_rfl⟩
theorem tok185 : TIok Tryz.prog 185 (tt3 185) := ⟨⟨_, Tryz.underlying185, ⟨rfl, rfl⟩⟩, Tryz.t185, _, by kernel_rfl, rfl, rfl, rfl, by kernel_rfl, by kernel_rfl⟩
theorem tok186 : TIok Tryz.prog 186 (tt3 186) := ⟨⟨_, Tryz.underlying186, trivial⟩, Tryz.t186, _, by kernel_rfl, rfl, rfl, rfl, by kernel_rfl, by kernel_rfl⟩
theorem tok187 : TIok Tryz.prog 187 (tt4 187) := ⟨⟨_, Tryz.underlying187, trivial⟩, Tryz.t187, _, by kernel_rfl, rfl, rfl, rfl, by kernel_rfl, by kernel_rfl⟩
theorem tok188 : TIok Tryz.prog 188 (tt4 188) := ⟨⟨_, Tryz.underlying188, trivial⟩, Tryz.t188, _, by kernel_rfl, rfl, rfl, rfl, by kernel_rfl, by kernel_rfl⟩
theorem tok189 : TIok Tryz.prog 189 (tt4 189) := ⟨⟨_, Tryz.underlying189, trivial⟩, Tryz.t189, _, by kernel_rfl, rfl, rfl, rfl, by kernel_rfl, by kernel_rfl⟩
theorem tok190 : TIok Tryz.prog 190 (tt4 190) := ⟨⟨_, Tryz.underlying190, trivial⟩, Tryz.t190, _, by kernel_rfl, rfl, rfl, rfl, by kernel_rfl, by kernel_rfl⟩
theorem tok191 : TIok Tryz.prog 191 (tt4 191) := ⟨⟨_, Tryz.underlying191, rfl⟩, Tryz.t191, _, by kernel_rfl, rfl, rfl, rfl, by kernel_rfl, by kernel_rfl⟩
theorem tok192 : TIok Tryz.prog 192 (tt4 192) := ⟨⟨_, Tryz.underlying192, trivial⟩, Tryz.t192, _, by kernel_rfl, rfl, rfl, rfl, by kernel_rfl, by kernel_rfl⟩
theorem tok193 : TIok Tryz.prog 193 (tt4 193) := ⟨⟨_, Tryz.underlying193, rfl⟩, Tryz.t193, _, by kernel_rfl, rfl, rfl, rfl, by kernel_rfl, by kernel_rfl⟩
theorem tok194 : TIok Tryz.prog 194 (tt4 194) := ⟨⟨_, Tryz.underlying194, ⟨rfl, rfl⟩⟩, Tryz.t194, _, by kernel_rfl, rfl, rfl, rfl, by kernel_rfl, by kernel_rfl⟩
theorem tok196 : TIok Tryz.prog 196 (tt4 196) := ⟨⟨_, Tryz.underlying196, trivial⟩, Tryz.t196, _, by kernel_rfl, rfl, rfl, rfl, by kernel_rfl, by kernel_rfl⟩
theorem tok197 : TIok Tryz.prog 197 (tt4 197) := ⟨⟨_, Tryz.underlying197, trivial⟩, Tryz.t197, _, by kernel_rfl, rfl, rfl, rfl, by kernel_rfl, by kernel_rfl⟩
theorem tok198 : TIok Tryz.prog 198 (tt4 198) := ⟨⟨_, Tryz.underlying198, ⟨rfl, rfl⟩⟩, Tryz.t198, _, by kernel_rfl, rfl, rfl, rfl, by kernel_rfl, by kernel_rfl⟩
theorem tok199 : TIok Tryz.prog 199 (tt4 199) := ⟨⟨_, Tryz.underlying199, trivial⟩, Tryz.t199, _, by kernel_rfl, rfl, rfl, rfl, by kernel_rfl, by kernel_rfl⟩
theorem tok200 : TIok Tryz.prog 200 (tt4 200) := ⟨⟨_, Tryz.underlying200, trivial⟩, Tryz.t200, _, by kernel_rfl, rfl, rfl, rfl, by kernel_rfl, by kernel_rfl⟩
theorem tok201 : TIok Tryz.prog 201 (tt4 201) := ⟨⟨_, Tryz.underlying201, trivial⟩, Tryz.t201, _, by kernel_rfl, rfl, rfl, rfl, by kernel_rfl, by kernel_rfl⟩
theorem tok202 : TIok Tryz.prog 202 (tt4 202) := ⟨⟨_, Tryz.underlying202, trivial⟩, Tryz.t202, _, by kernel_rfl, rfl, rfl, rfl, by kernel_rfl, by kernel_rfl⟩
theorem tok203 : TIok Tryz.prog 203 (tt4 203) := ⟨⟨_, Tryz.underlying203, trivial⟩, Tryz.t203, _, by kernel_rfl, rfl, rfl, rfl, by kernel_rfl, by kernel_rfl⟩
theorem tok204 : TIok Tryz.prog 204 (tt4 204) := ⟨⟨_, Tryz.underlying204, rfl⟩, Tryz.t204, _, by kernel_rfl, rfl, rfl, rfl, by kernel_rfl, by kernel_rfl⟩
theorem tok205 : TIok Tryz.prog 205 (tt4 205) := ⟨⟨_, Tryz.underlying205, rfl⟩, Tryz.t205, _, by kernel_rfl, rfl, rfl, rfl, by kernel_rfl, by kernel_rfl⟩
theorem tok209 : TIok Tryz.prog 209 (tt4 209) := ⟨⟨_, Tryz.underlying209, trivial⟩, Tryz.t209, _, by kernel_rfl, rfl, rfl, rfl, by kernel_rfl, by kernel_rfl⟩
theorem tok210 : TIok Tryz.prog 210 (tt4 210) := ⟨⟨_, Tryz.underlying210, rfl⟩, Tryz.t210, _, by kernel_rfl, rfl, rfl, rfl, by kernel_rfl, by kernel_rfl⟩
theorem tok211 : TIok Tryz.prog 211 (tt4 211) := ⟨⟨_, Tryz.underlying211, rfl⟩, Tryz.t211, _, by kernel_rfl, rfl, rfl, rfl, by kernel_rfl, by kernel_rfl⟩
theorem tok212 : TIok Tryz.prog 212 (tt4 212) := ⟨⟨_, Tryz.underlying212, rfl⟩, Tryz.t212, _, by kernel_rfl, rfl, rfl, rfl, by kernel_rfl, by kernel_rfl⟩
theorem tok213 : TIok Tryz.prog 213 (tt4 213) := ⟨⟨_, Tryz.underlying213, trivial⟩, Tryz.t213, _, by kernel_rfl, rfl, rfl, rfl, by kernel_rfl, by kernel_rfl⟩
theorem tok214 : TIok Tryz.prog 214 (tt4 214) := ⟨⟨_, Tryz.underlying214, rfl⟩, Tryz.t214, _, by kernel_rfl, rfl, rfl, rfl, by kernel_rfl, by kernel_rfl⟩
theorem tok215 : TIok Tryz.prog 215 (tt4 215) := ⟨⟨_, Tryz.underlying215, rfl⟩, Tryz.t215, _, by kernel_rfl, rfl, rfl, rfl, by kernel_rfl, by kernel_rfl⟩
theorem tok216 : TIok Tryz.prog 216 (tt4 216) := ⟨⟨_, Tryz.underlying216, rfl⟩, Tryz.t216, _, by kernel_rfl, rfl, rfl, rfl, by kernel_rfl, by kernel_rfl⟩
theorem tok217 : TIok Tryz.prog 217 (tt4 217) := ⟨⟨_, Tryz.underlying217, rfl⟩, Tryz.t217, _, by kernel_rfl, rfl, rfl, rfl, by kernel_rfl, by kernel_rfl⟩
theorem tok218 : TIok Tryz.prog 218 (tt4 218) := ⟨⟨_, Tryz.underlying218, rfl⟩, Tryz.t218, _, by kernel_rfl, rfl, rfl, rfl, by kernel_rfl, by kernel_rfl⟩
theorem tt0_ok (t : TypeId) : (tt0 t).d = .bad ∨ TIok Tryz.prog t (tt0 t) := by
  unfold tt0; split
  · exact .inr tok1
  · exact .inr tok2
  · exact .inr tok3
  · exact .inr tok4
  · exact .inr tok5
  · exact .inr tok6
  · exact .inr tok7
  · exact .inr tok8
  · exact .inr tok9
  · exact .inr tok10
  · exact .inr tok11
  · exact .inr tok12
  · exact .inr tok13
  · exact .inr tok14
  · exact .inr tok15
  · exact .inr tok16
  · exact .inr tok17
  · exact .inr tok18
  · exact .inr tok19
  · exact .inr tok21
  · exact .inr tok22
  · exact .inr tok23
  · exact .inr tok24
  · exact .inr tok25
  · exact .inr tok26
  · exact .inr tok27
  · exact .inr tok28
  · exact .inr tok29
  · exact .inr tok30
  · exact .inr tok31
  · exact .inr tok32
  · exact .inr tok33
  · exact .inr tok34
  · exact .inr tok35
  · exact .inr tok36
  · exact .inr tok38
  · exact .inr tok39
  · exact .inr tok40
  · exact .inr tok42
  · exact .inr tok44
  · exact .inl rfl
theorem tt1_ok (t : TypeId) : (tt1 t).d = .bad ∨ TIok Tryz.prog t (tt1 t) := by
  unfold tt1; split
  · exact .inr tok45
  · exact .inr tok46
  · exact .inr tok47
  · exact .inr tok48
  · exact .inr tok50
  · exact .inr tok51
  · exact .inr tok52
  · exact .inr tok54
  · exact .inr tok55
  · exact .inr tok56
  · exact .inr tok57
  · exact .inr tok59
  · exact .inr tok61
  · exact .inr tok62
  · exact .inr tok63
  · exact .inr tok64
  · exact .inr tok65
  · exact .inr tok66
  · exact .inr tok67
  · exact .inr tok68
  · exact .inr tok69
  · exact .inr tok70
  · exact .inr tok71
  · exact .inr tok72
  · exact .inr tok73
  · exact .inr tok74
  · exact .inr tok75
  · exact .inr tok76
  · exact .inr tok77
  · exact .inr tok78
  · exact .inr tok79
  · exact .inr tok80
  · exact .inr tok81
  · exact .inr tok82
  · exact .inr tok83
  · exact .inr tok84
  · exact .inr tok85
  · exact .inr tok86
  · exact .inr tok87
  · exact .inr tok88
  · exact .inl rfl
theorem tt2_ok (t : TypeId) : (tt2 t).d = .bad ∨ TIok Tryz.prog t (tt2 t) := by
  unfold tt2; split
  · exact .inr tok89
  · exact .inr tok91
  · exact .inr tok93
  · exact .inr tok95
  · exact .inr tok96
  · exact .inr tok97
  · exact .inr tok98
  · exact .inr tok100
  · exact .inr tok101
  · exact .inr tok102
  · exact .inr tok103
  · exact .inr tok104
  · exact .inr tok105
  · exact .inr tok106
  · exact .inr tok107
  · exact .inr tok108
  · exact .inr tok109
  · exact .inr tok110
  · exact .inr tok112
  · exact .inr tok113
  · exact .inr tok114
  · exact .inr tok115
  · exact .inr tok116
  · exact .inr tok117
  · exact .inr tok118
  · exact .inr tok119
  · exact .inr tok120
  · exact .inr tok122
  · exact .inr tok124
  · exact .inr tok126
  · exact .inr tok127
  · exact .inr tok128
  · exact .inr tok129
  · exact .inr tok130
  · exact .inr tok131
  · exact .inr tok132
  · exact .inr tok133
  · exact .inr tok134
  · exact .inr tok135
  · exact .inr tok137
  · exact .inl rfl
theorem tt3_ok (t : TypeId) : (tt3 t).d = .bad ∨ TIok Tryz.prog t (tt3 t) := by
  unfold tt3; split
  · exact .inr tok138
  · exact .inr tok139
  · exact .inr tok141
  · exact .inr tok142
  · exact .inr tok143
  · exact .inr tok144
  · exact .inr tok145
  · exact .inr tok146
  · exact .inr tok148
  · exact .inr tok150
  · exact .inr tok152
  · exact .inr tok153
  · exact .inr tok154
  · exact .inr tok156
  · exact .inr tok157
  · exact .inr tok158
  · exact .inr tok159
  · exact .inr tok160
  · exact .inr tok161
  · exact .inr tok162
  · exact .inr tok163
  · exact .inr tok164
  · exact .inr tok165
  · exact .inr tok167
  · exact .inr tok168
  · exact .inr tok169
  · exact .inr tok170
  · exact .inr tok171
  · exact .inr tok173
  · exact .inr tok174
  · exact .inr tok176
  · exact .inr tok177
  · exact .inr tok179
  · exact .inr tok180
  · exact .inr tok181
  · exact .inr tok182
  · exact .inr tok183
  · exact .inr tok184
  · exact .inr tok185
  · exact .inr tok186
  · exact .inl rfl
theorem tt4_ok (t : TypeId) : (tt4 t).d = .bad ∨ TIok Tryz.prog t (tt4 t) := by
  unfold tt4; split
  · exact .inr tok187
  · exact .inr tok188
  · exact .inr tok189
  · exact .inr tok190
  · exact .inr tok191
  · exact .inr tok192
  · exact .inr tok193
  · exact .inr tok194
  · exact .inr tok196
  · exact .inr tok197
  · exact .inr tok198
  · exact .inr tok199
  · exact .inr tok200
  · exact .inr tok201
  · exact .inr tok202
  · exact .inr tok203
  · exact .inr tok204
  · exact .inr tok205
  · exact .inr tok209
  · exact .inr tok210
  · exact .inr tok211
  · exact .inr tok212
  · exact .inr tok213
  · exact .inr tok214
  · exact .inr tok215
  · exact .inr tok216
  · exact .inr tok217
  · exact .inr tok218
  · exact .inl rfl
theorem tt_ok : TTok Tryz.prog := fun t => by
  unfold tt
  split
  · exact tt0_ok t
  split
  · exact tt1_ok t
  split
  · exact tt2_ok t
  split
  · exact tt3_ok t
  split
  · exact tt4_ok t
  exact .inl rfl
theorem entered0_ok (f : FuncId) (hf : entered0 f = true) (args : Array Value) (w : World) : (callFunc f args).run Tryz.prog w = .ok (.enter f args) w := by
  unfold entered0 at hf; split at hf
  · exact Tryz.call2 args w
  · exact Tryz.call3 args w
  · exact Tryz.call4 args w
  · exact Tryz.call5 args w
  · exact Tryz.call6 args w
  · exact Tryz.call7 args w
  · exact Tryz.call8 args w
  · exact Tryz.call9 args w
  · exact Tryz.call10 args w
  · exact Tryz.call11 args w
  · exact Tryz.call12 args w
  · exact Tryz.call13 args w
  · exact Tryz.call14 args w
  · exact Tryz.call15 args w
  · exact Tryz.call16 args w
  · exact Tryz.call17 args w
  · exact Tryz.call18 args w
  · exact Tryz.call19 args w
  · exact Tryz.call20 args w
  · exact Tryz.call21 args w
  · exact Tryz.call22 args w
  · exact Tryz.call23 args w
  · exact Tryz.call24 args w
  · exact Tryz.call25 args w
  · exact Tryz.call26 args w
  · exact Tryz.call27 args w
  · exact Tryz.call28 args w
  · exact Tryz.call29 args w
  · exact Tryz.call30 args w
  · exact Tryz.call31 args w
  · exact Tryz.call32 args w
  · exact Tryz.call33 args w
  · exact Tryz.call34 args w
  · exact Tryz.call35 args w
  · exact Tryz.call36 args w
  · exact Tryz.call37 args w
  · exact Tryz.call38 args w
  · exact Tryz.call39 args w
  · exact Tryz.call40 args w
  · exact Tryz.call41 args w
  · cases hf
theorem entered1_ok (f : FuncId) (hf : entered1 f = true) (args : Array Value) (w : World) : (callFunc f args).run Tryz.prog w = .ok (.enter f args) w := by
  unfold entered1 at hf; split at hf
  · exact Tryz.call42 args w
  · exact Tryz.call43 args w
  · exact Tryz.call44 args w
  · exact Tryz.call45 args w
  · exact Tryz.call46 args w
  · exact Tryz.call47 args w
  · exact Tryz.call48 args w
  · exact Tryz.call49 args w
  · exact Tryz.call50 args w
  · exact Tryz.call51 args w
  · exact Tryz.call52 args w
  · exact Tryz.call53 args w
  · exact Tryz.call54 args w
  · exact Tryz.call55 args w
  · exact Tryz.call56 args w
  · exact Tryz.call57 args w
  · exact Tryz.call58 args w
  · exact Tryz.call59 args w
  · exact Tryz.call60 args w
  · exact Tryz.call61 args w
  · exact Tryz.call62 args w
  · exact Tryz.call63 args w
  · exact Tryz.call64 args w
  · exact Tryz.call65 args w
  · exact Tryz.call66 args w
  · exact Tryz.call67 args w
  · exact Tryz.call68 args w
  · exact Tryz.call69 args w
  · exact Tryz.call70 args w
  · exact Tryz.call71 args w
  · exact Tryz.call72 args w
  · exact Tryz.call73 args w
  · exact Tryz.call74 args w
  · exact Tryz.call75 args w
  · exact Tryz.call76 args w
  · exact Tryz.call77 args w
  · exact Tryz.call78 args w
  · exact Tryz.call79 args w
  · exact Tryz.call80 args w
  · exact Tryz.call81 args w
  · cases hf
theorem entered2_ok (f : FuncId) (hf : entered2 f = true) (args : Array Value) (w : World) : (callFunc f args).run Tryz.prog w = .ok (.enter f args) w := by
  unfold entered2 at hf; split at hf
  · exact Tryz.call82 args w
  · exact Tryz.call83 args w
  · exact Tryz.call84 args w
  · exact Tryz.call85 args w
  · exact Tryz.call86 args w
  · exact Tryz.call87 args w
  · exact Tryz.call88 args w
  · exact Tryz.call89 args w
  · exact Tryz.call90 args w
  · exact Tryz.call91 args w
  · exact Tryz.call92 args w
  · exact Tryz.call93 args w
  · exact Tryz.call94 args w
  · exact Tryz.call95 args w
  · exact Tryz.call96 args w
  · exact Tryz.call97 args w
  · exact Tryz.call98 args w
  · exact Tryz.call99 args w
  · exact Tryz.call100 args w
  · exact Tryz.call101 args w
  · exact Tryz.call102 args w
  · exact Tryz.call103 args w
  · exact Tryz.call104 args w
  · exact Tryz.call105 args w
  · exact Tryz.call106 args w
  · exact Tryz.call107 args w
  · exact Tryz.call108 args w
  · exact Tryz.call109 args w
  · exact Tryz.call110 args w
  · exact Tryz.call111 args w
  · exact Tryz.call112 args w
  · exact Tryz.call113 args w
  · exact Tryz.call114 args w
  · exact Tryz.call115 args w
  · exact Tryz.call116 args w
  · exact Tryz.call117 args w
  · exact Tryz.call118 args w
  · exact Tryz.call119 args w
  · exact Tryz.call120 args w
  · exact Tryz.call121 args w
  · cases hf
theorem entered3_ok (f : FuncId) (hf : entered3 f = true) (args : Array Value) (w : World) : (callFunc f args).run Tryz.prog w = .ok (.enter f args) w := by
  unfold entered3 at hf; split at hf
  · exact Tryz.call122 args w
  · exact Tryz.call123 args w
  · exact Tryz.call124 args w
  · exact Tryz.call125 args w
  · exact Tryz.call126 args w
  · exact Tryz.call127 args w
  · exact Tryz.call128 args w
  · exact Tryz.call129 args w
  · exact Tryz.call131 args w
  · exact Tryz.call132 args w
  · exact Tryz.call133 args w
  · exact Tryz.call134 args w
  · exact Tryz.call135 args w
  · exact Tryz.call136 args w
  · exact Tryz.call137 args w
  · exact Tryz.call138 args w
  · exact Tryz.call139 args w
  · exact Tryz.call140 args w
  · exact Tryz.call141 args w
  · exact Tryz.call142 args w
  · exact Tryz.call143 args w
  · exact Tryz.call144 args w
  · exact Tryz.call145 args w
  · exact Tryz.call146 args w
  · exact Tryz.call147 args w
  · exact Tryz.call148 args w
  · exact Tryz.call149 args w
  · exact Tryz.call150 args w
  · exact Tryz.call151 args w
  · exact Tryz.call152 args w
  · exact Tryz.call153 args w
  · exact Tryz.call154 args w
  · exact Tryz.call155 args w
  · exact Tryz.call156 args w
  · exact Tryz.call157 args w
  · exact Tryz.call158 args w
  · exact Tryz.call159 args w
  · exact Tryz.call160 args w
  · exact Tryz.call161 args w
  · exact Tryz.call162 args w
  · cases hf
theorem entered4_ok (f : FuncId) (hf : entered4 f = true) (args : Array Value) (w : World) : (callFunc f args).run Tryz.prog w = .ok (.enter f args) w := by
  unfold entered4 at hf; split at hf
  · exact Tryz.call163 args w
  · exact Tryz.call164 args w
  · exact Tryz.call165 args w
  · exact Tryz.call166 args w
  · exact Tryz.call167 args w
  · exact Tryz.call168 args w
  · exact Tryz.call169 args w
  · exact Tryz.call170 args w
  · exact Tryz.call171 args w
  · exact Tryz.call172 args w
  · exact Tryz.call173 args w
  · exact Tryz.call174 args w
  · exact Tryz.call175 args w
  · exact Tryz.call176 args w
  · exact Tryz.call202 args w
  · cases hf
theorem ent_ok : Enters Tryz.prog := ⟨fun f hf args w => (by
  unfold entered at hf
  split at hf
  · exact entered0_ok f hf args w
  split at hf
  · exact entered1_ok f hf args w
  split at hf
  · exact entered2_ok f hf args w
  split at hf
  · exact entered3_ok f hf args w
  split at hf
  · exact entered4_ok f hf args w
  cases hf), by kernel_rfl, fun f hf => by
  unfold ext at hf; split at hf
  · rfl
  · exact absurd rfl hf, fun t ht => by
  unfold eqT at ht; split at ht
  · exact ⟨by kernel_rfl, by kernel_rfl⟩
  · exact ⟨by kernel_rfl, by kernel_rfl⟩
  · exact absurd ht (by decide), fun f hf args w => by
  unfold ext at hf; split at hf
  · exact run_callFunc_extern Tryz.func130 (by kernel_rfl) (by kernel_rfl) (by kernel_rfl) (e := extE 1) (by kernel_rfl) args w
  · exact absurd rfl hf⟩
end Go.Eng
