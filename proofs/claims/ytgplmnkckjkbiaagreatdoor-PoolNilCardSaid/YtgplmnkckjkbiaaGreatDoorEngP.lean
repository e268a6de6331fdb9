/-
  MADE BY PROGRAM (gentt.py): the types and the functions of this translation are as the evaluator takes them.
-/
import Derived.Test.YtgplmnkckjkbiaaGreatDoorEngS
import Derived.Test.YtgplmnkckjkbiaaGreatDoorProg
import Derived.KernelRfl
namespace Go.Eng
open Go Go.Proofs
set_option maxHeartbeats 4000000

theorem tok1 : TIok Tryz.prog 1 (tt0 1) := ⟨⟨_, Tryz.underlying1, trivial⟩, Tryz.t1, _, by kernel_rfl, rfl, rfl, rfl, by kernel_rfl, by kernel_rfl⟩
theorem tok2 : TIok Tryz.prog 2 (tt0 2) := ⟨⟨_, Tryz.underlying2, rfl⟩, Tryz.t2, _, by kernel_rfl, rfl, rfl, rfl, by kernel_rfl, by kernel_rfl⟩
theorem tok3 : TIok Tryz.prog 3 (tt0 3) := ⟨⟨_, Tryz.underlying3, rfl⟩, Tryz.t3, _, by kernel_rfl, rfl, rfl, rfl, by kernel_rfl, by kernel_rfl⟩
theorem tok4 : TIok Tryz.prog 4 (tt0 4) := ⟨⟨_, Tryz.underlying4, trivial⟩, Tryz.t4, _, by kernel_rfl, rfl, rfl, rfl, by kernel_rfl, by kernel_rfl⟩
theorem tok5 : TIok Tryz.prog 5 (tt0 5) := ⟨⟨_, Tryz.underlying5, rfl⟩, Tryz.t5, _, by kernel_rfl, rfl, rfl, rfl, by kernel_rfl, by kernel_rfl⟩
theorem tok6 : TIok Tryz.prog 6 (tt0 6) := ⟨⟨_, Tryz.underlying6, rfl⟩, Tryz.t6, _, by kernel_rfl, rfl, rfl, rfl, by kernel_rfl, by kernel_rfl⟩
theorem tok7 : TIok Tryz.prog 7 (tt0 7) := ⟨⟨_, Tryz.underlying7, rfl⟩, Tryz.t7, _, by kernel_rfl, rfl, rfl, rfl, by kernel_rfl, by kernel_rfl⟩
theorem tok8 : TIok Tryz.prog 8 (tt0 8) := ⟨⟨_, Tryz.underlying8, rfl⟩, Tryz.t8, _, by kernel_rfl, rfl, rfl, rfl, by kernel_rfl, by kernel_rfl⟩
theorem tok12 : TIok Tryz.prog 12 (tt0 12) := ⟨⟨_, Tryz.underlying12, rfl⟩, Tryz.t12, _, by kernel_rfl, rfl, rfl, rfl, by kernel_rfl, by kernel_rfl⟩
theorem tok15 : TIok Tryz.prog 15 (tt0 15) := ⟨⟨_, Tryz.underlying15, rfl⟩, Tryz.t15, _, by kernel_rfl, rfl, rfl, rfl, by kernel_rfl, by kernel_rfl⟩
theorem tok16 : TIok Tryz.prog 16 (tt0 16) := ⟨⟨_, Tryz.underlying16, rfl⟩, Tryz.t16, _, by kernel_rfl, rfl, rfl, rfl, by kernel_rfl, by kernel_rfl⟩
theorem tok17 : TIok Tryz.prog 17 (tt0 17) := ⟨⟨_, Tryz.underlying17, rfl⟩, Tryz.t17, _, by kernel_rfl, rfl, rfl, rfl, by kernel_rfl, by kernel_rfl⟩
theorem tok18 : TIok Tryz.prog 18 (tt0 18) := ⟨⟨_, Tryz.underlying18, rfl⟩, Tryz.t18, _, by kernel_rfl, rfl, rfl, rfl, by kernel_rfl, by kernel_rfl⟩
theorem tok19 : TIok Tryz.prog 19 (tt0 19) := ⟨⟨_, Tryz.underlying19, rfl⟩, Tryz.t19, _, by kernel_rfl, rfl, rfl, rfl, by kernel_rfl, by kernel_rfl⟩
theorem tok21 : TIok Tryz.prog 21 (tt0 21) := ⟨⟨_, Tryz.underlying21, rfl⟩, Tryz.t21, _, by kernel_rfl, rfl, rfl, rfl, by kernel_rfl, by kernel_rfl⟩
theorem tok22 : TIok Tryz.prog 22 (tt0 22) := ⟨⟨_, Tryz.underlying22, ⟨rfl, rfl⟩⟩, Tryz.t22, _, by kernel_rfl, rfl, rfl, rfl, by kernel_rfl, by kernel_rfl⟩
theorem tok23 : TIok Tryz.prog 23 (tt0 23) := ⟨⟨_, Tryz.underlying23, ⟨rfl, rfl⟩⟩, Tryz.t23, _, by kernel_rfl, rfl, rfl, rfl, by kernel_rfl, by kernel_rfl⟩
theorem tok24 : TIok Tryz.prog 24 (tt0 24) := ⟨⟨_, Tryz.underlying24, rfl⟩, Tryz.t24, _, by kernel_rfl, rfl, rfl, rfl, by kernel_rfl, by kernel_rfl⟩
theorem tok26 : TIok Tryz.prog 26 (tt0 26) := ⟨⟨_, Tryz.underlying26, trivial⟩, Tryz.t26, _, by kernel_rfl, rfl, rfl, rfl, by kernel_rfl, by kernel_rfl⟩
theorem tok27 : TIok Tryz.prog 27 (tt0 27) := ⟨⟨_, Tryz.underlying27, trivial⟩, Tryz.t27, _, by kernel_rfl, rfl, rfl, rfl, by kernel_rfl, by kernel_rfl⟩
theorem tok28 : TIok Tryz.prog 28 (tt0 28) := ⟨⟨_, Tryz.underlying28, rfl⟩, Tryz.t28, _, by kernel_rfl, rfl, rfl, rfl, by kernel_rfl, by kernel_rfl⟩
theorem tok29 : TIok Tryz.prog 29 (tt0 29) := ⟨⟨_, Tryz.underlying29, trivial⟩, Tryz.t29, _, by kernel_rfl, rfl, rfl, rfl, by kernel_rfl, by kernel_rfl⟩
theorem tok30 : TIok Tryz.prog 30 (tt0 30) := ⟨⟨_, Tryz.underlying30, trivial⟩, Tryz.t30, _, by kernel_rfl, rfl, rfl, rfl, by kernel_rfl, by kernel_rfl⟩
theorem tok31 : TIok Tryz.prog 31 (tt0 31) := ⟨⟨_, Tryz.underlying31, ⟨rfl, rfl⟩⟩, Tryz.t31, _, by kernel_rfl, rfl, rfl, rfl, by kernel_rfl, by kernel_rfl⟩
theorem tok32 : TIok Tryz.prog 32 (tt0 32) := ⟨⟨_, Tryz.underlying32, ⟨rfl, rfl⟩⟩, Tryz.t32, _, by kernel_rfl, rfl, rfl, rfl, by kernel_rfl, by kernel_rfl⟩
theorem tok33 : TIok Tryz.prog 33 (tt0 33) := ⟨⟨_, Tryz.underlying33, ⟨rfl, rfl⟩⟩, Tryz.t33, _, by kernel_rfl, rfl, rfl, rfl, by kernel_rfl, by kernel_rfl⟩
theorem tok34 : TIok Tryz.prog 34 (tt0 34) := ⟨⟨_, Tryz.underlying34, ⟨rfl, rfl⟩⟩, Tryz.t34, _, by kernel_rfl, rfl, rfl, rfl, by kernel_rfl, by kernel_rfl⟩
theorem tok35 : TIok Tryz.prog 35 (tt0 35) := ⟨⟨_, Tryz.underlying35, rfl⟩, Tryz.t35, _, by kernel_rfl, rfl, rfl, rfl, by kernel_rfl, by kernel_rfl⟩
theorem tok36 : TIok Tryz.prog 36 (tt0 36) := ⟨⟨_, Tryz.underlying36, ⟨rfl, rfl⟩⟩, Tryz.t36, _, by kernel_rfl, rfl, rfl, rfl, by kernel_rfl, by kernel_rfl⟩
theorem tok37 : TIok Tryz.prog 37 (tt0 37) := ⟨⟨_, Tryz.underlying37, ⟨rfl, rfl⟩⟩, Tryz.t37, _, by kernel_rfl, rfl, rfl, rfl, by kernel_rfl, by kernel_rfl⟩
theorem tok38 : TIok Tryz.prog 38 (tt0 38) := ⟨⟨_, Tryz.underlying38, rfl⟩, Tryz.t38, _, by kernel_rfl, rfl, rfl, rfl, by kernel_rfl, by kernel_rfl⟩
theorem tok39 : TIok Tryz.prog 39 (tt0 39) := ⟨⟨_, Tryz.underlying39, ⟨rfl, rfl⟩⟩, Tryz.t39, _, by kernel_rfl, rfl, rfl, rfl, by kernel_rfl, by kernel_rfl⟩
theorem tok42 : TIok Tryz.prog 42 (tt0 42) := ⟨⟨_, Tryz.underlying42, rfl⟩, Tryz.t42, _, by kernel_rfl, rfl, rfl, rfl, by kernel_rfl, by kernel_rfl⟩
theorem tok43 : TIok Tryz.prog 43 (tt0 43) := ⟨⟨_, Tryz.underlying43, rfl⟩, Tryz.t43, _, by kernel_rfl, rfl, rfl, rfl, by kernel_rfl, by kernel_rfl⟩
theorem tok44 : TIok Tryz.prog 44 (tt0 44) := ⟨⟨_, Tryz.underlying44, rfl⟩, Tryz.t44, _, by kernel_rfl, rfl, rfl, rfl, by kernel_rfl, by kernel_rfl⟩
theorem tok48 : TIok Tryz.prog 48 (tt0 48) := ⟨⟨_, Tryz.underlying48, trivial⟩, Tryz.t48, _, by kernel_rfl, rfl, rfl, rfl, by kernel_rfl, by kernel_rfl⟩
theorem tok49 : TIok Tryz.prog 49 (tt0 49) := ⟨⟨_, Tryz.underlying49, trivial⟩, Tryz.t49, _, by kernel_rfl, rfl, rfl, rfl, by kernel_rfl, by kernel_rfl⟩
theorem tok50 : TIok Tryz.prog 50 (tt0 50) := ⟨⟨_, Tryz.underlying50, trivial⟩, Tryz.t50, _, by kernel_rfl, rfl, rfl, rfl, by kernel_rfl, by kernel_rfl⟩
theorem tok51 : TIok Tryz.prog 51 (tt0 51) := ⟨⟨_, Tryz.underlying51, rfl⟩, Tryz.t51, _, by kernel_rfl, rfl, rfl, rfl, by kernel_rfl, by kernel_rfl⟩
theorem tok52 : TIok Tryz.prog 52 (tt0 52) := ⟨⟨_, Tryz.underlying52, trivial⟩, Tryz.t52, _, by kernel_rfl, rfl, rfl, rfl, by kernel_rfl, by kernel_rfl⟩
theorem tok54 : TIok Tryz.prog 54 (tt1 54) := ⟨⟨_, Tryz.underlying54, trivial⟩, Tryz.t54, _, by kernel_rfl, rfl, rfl, rfl, by kernel_rfl, by kernel_rfl⟩
theorem tok55 : TIok Tryz.prog 55 (tt1 55) := ⟨⟨_, Tryz.underlying55, trivial⟩, Tryz.t55, _, by kernel_rfl, rfl, rfl, rfl, by kernel_rfl, by kernel_rfl⟩
theorem tok56 : TIok Tryz.prog 56 (tt1 56) := ⟨⟨_, Tryz.underlying56, trivial⟩, Tryz.t56, _, by kernel_rfl, rfl, rfl, rfl, by kernel_rfl, by kernel_rfl⟩
theorem tok57 : TIok Tryz.prog 57 (tt1 57) := ⟨⟨_, Tryz.underlying57, trivial⟩, Tryz.t57, _, by kernel_rfl, rfl, rfl, rfl, by kernel_rfl, by kernel_rfl⟩
theorem tok58 : TIok Tryz.prog 58 (tt1 58) := ⟨⟨_, Tryz.underlying58, trivial⟩, Tryz.t58, _, by kernel_rfl, rfl, rfl, rfl, by kernel_rfl, by kernel_rfl⟩
theorem tok59 : TIok Tryz.prog 59 (tt1 59) := ⟨⟨_, Tryz.underlying59, trivial⟩, Tryz.t59, _, by kernel_rfl, rfl, rfl, rfl, by kernel_rfl, by kernel_rfl⟩
theorem tok60 : TIok Tryz.prog 60 (tt1 60) := ⟨⟨_, Tryz.underlying60, trivial⟩, Tryz.t60, _, by kernel_rfl, rfl, rfl, rfl, by kernel_rfl, by kernel_rfl⟩
theorem tok61 : TIok Tryz.prog 61 (tt1 61) := ⟨⟨_, Tryz.underlying61, rfl⟩, Tryz.t61, _, by kernel_rfl, rfl, rfl, rfl, by kernel_rfl, by kernel_rfl⟩
theorem tok62 : TIok Tryz.prog 62 (tt1 62) := ⟨⟨_, Tryz.underlying62, trivial⟩, Tryz.t62, _, by kernel_rfl, rfl, rfl, rfl, by kernel_rfl, by kernel_rfl⟩
theorem tok63 : TIok Tryz.prog 63 (tt1 63) := ⟨⟨_, Tryz.underlying63, trivial⟩, Tryz.t63, _, by kernel_rfl, rfl, rfl, rfl, by kernel_rfl, by kernel_rfl⟩
theorem tok64 : TIok Tryz.prog 64 (tt1 64) := ⟨⟨_, Tryz.underlying64, trivial⟩, Tryz.t64, _, by kernel_rfl, rfl, rfl, rfl, by kernel_rfl, by kernel_rfl⟩
theorem tok65 : TIok Tryz.prog 65 (tt1 65) := ⟨⟨_, Tryz.underlying65, rfl⟩, Tryz.t65, _, by kernel_rfl, rfl, rfl, rfl, by kernel_rfl, by kernel_rfl⟩
theorem tok66 : TIok Tryz.prog 66 (tt1 66) := ⟨⟨_, Tryz.underlying66, trivial⟩, Tryz.t66, _, by kernel_rfl, rfl, rfl, rfl, by kernel_rfl, by kernel_rfl⟩
theorem tok67 : TIok Tryz.prog 67 (tt1 67) := ⟨⟨_, Tryz.underlying67, rfl⟩, Tryz.t67, _, by kernel_rfl, rfl, rfl, rfl, by kernel_rfl, by kernel_rfl⟩
theorem tok68 : TIok Tryz.prog 68 (tt1 68) := ⟨⟨_, Tryz.underlying68, rfl⟩, Tryz.t68, _, by kernel_rfl, rfl, rfl, rfl, by kernel_rfl, by kernel_rfl⟩
theorem tok69 : TIok Tryz.prog 69 (tt1 69) := ⟨⟨_, Tryz.underlying69, rfl⟩, Tryz.t69, _, by kernel_rfl, rfl, rfl, rfl, by kernel_rfl, by kernel_rfl⟩
theorem tok70 : TIok Tryz.prog 70 (tt1 70) := ⟨⟨_, Tryz.underlying70, rfl⟩, Tryz.t70, _, by kernel_rfl, rfl, rfl, rfl, by kernel_rfl, by kernel_rfl⟩
theorem tok71 : TIok Tryz.prog 71 (tt1 71) := ⟨⟨_, Tryz.underlying71, trivial⟩, Tryz.t71, _, by kernel_rfl, rfl, rfl, rfl, by kernel_rfl, by kernel_rfl⟩
theorem tok72 : TIok Tryz.prog 72 (tt1 72) := ⟨⟨_, Tryz.underlying72, trivial⟩, Tryz.t72, _, by kernel_rfl, rfl, rfl, rfl, by kernel_rfl, by kernel_rfl⟩
theorem tok73 : TIok Tryz.prog 73 (tt1 73) := ⟨⟨_, Tryz.underlying73, rfl⟩, Tryz.t73, _, by kernel_rfl, rfl, rfl, rfl, by kernel_rfl, by kernel_rfl⟩
theorem tok74 : TIok Tryz.prog 74 (tt1 74) := ⟨⟨_, Tryz.underlying74, rfl⟩, Tryz.t74, _, by kernel_rfl, rfl, rfl, rfl, by kernel_rfl, by kernel_rfl⟩
theorem tok75 : TIok Tryz.prog 75 (tt1 75) := ⟨⟨_, Tryz.underlying75, rfl⟩, Tryz.t75, _, by kernel_rfl, rfl, rfl, rfl, by kernel_rfl, by kernel_rfl⟩
theorem tok76 : TIok Tryz.prog 76 (tt1 76) := ⟨⟨_, Tryz.underlying76, trivial⟩, Tryz.t76, _, by kernel_rfl, rfl, rfl, rfl, by kernel_rfl, by kernel_rfl⟩
theorem tok77 : TIok Tryz.prog 77 (tt1 77) := ⟨⟨_, Tryz.underlying77, trivial⟩, Tryz.t77, _, by kernel_rfl, rfl, rfl, rfl, by kernel_rfl, by kernel_rfl⟩
theorem tok78 : TIok Tryz.prog 78 (tt1 78) := ⟨⟨_, Tryz.underlying78, rfl⟩, Tryz.t78, _, by kernel_rfl, rfl, rfl, rfl, by kernel_rfl, by kernel_rfl⟩
theorem tok79 : TIok Tryz.prog 79 (tt1 79) := ⟨⟨_, Tryz.underlying79, rfl⟩, Tryz.t79, _, by kernel_rfl, rfl, rfl, rfl, by kernel_rfl, by kernel_rfl⟩
theorem tok80 : TIok Tryz.prog 80 (tt1 80) := ⟨⟨_, Tryz.underlying80, trivial⟩, Tryz.t80, _, by kernel_rfl, rfl, rfl, rfl, by kernel_rfl, by kernel_rfl⟩
theorem tok81 : TIok Tryz.prog 81 (tt1 81) := ⟨⟨_, Tryz.underlying81, trivial⟩, Tryz.t81, _, by kernel_rfl, rfl, rfl, rfl, by kernel_rfl, by kernel_rfl⟩
theorem tok82 : TIok Tryz.prog 82 (tt1 82) := ⟨⟨_, Tryz.underlying82, trivial⟩, Tryz.t82, _, by kernel_rfl, rfl, rfl, rfl, by kernel_rfl, by kernel_rfl⟩
theorem tok83 : TIok Tryz.prog 83 (tt1 83) := ⟨⟨_, Tryz.underlying83, trivial⟩, Tryz.t83, _, by kernel_rfl, rfl, rfl, rfl, by kernel_rfl, by kernel_rfl⟩
theorem tok84 : TIok Tryz.prog 84 (tt1 84) := ⟨⟨_, Tryz.underlying84, trivial⟩, Tryz.t84, _, by kernel_rfl, rfl, rfl, rfl, by kernel_rfl, by kernel_rfl⟩
theorem tok85 : TIok Tryz.prog 85 (tt1 85) := ⟨⟨_, Tryz.underlying85, trivial⟩, Tryz.t85, _, by kernel_rfl, rfl, rfl, rfl, by kernel_rfl, by kernel_rfl⟩
theorem tok86 : TIok Tryz.prog 86 (tt1 86) := ⟨⟨_, Tryz.underlying86, trivial⟩, Tryz.t86, _, by kernel_rfl, rfl, rfl, rfl, by kernel_rfl, by kernel_rfl⟩
theorem tok87 : TIok Tryz.prog 87 (tt1 87) := ⟨⟨_, Tryz.underlying87, trivial⟩, Tryz.t87, _, by kernel_rfl, rfl, rfl, rfl, by kernel_rfl, by kernel_rfl⟩
theorem tok89 : TIok Tryz.prog 89 (tt1 89) := ⟨⟨_, Tryz.underlying89, trivial⟩, Tryz.t89, _, by kernel_rfl, rfl, rfl, rfl, by kernel_rfl, by kernel_rfl⟩
theorem tok90 : TIok Tryz.prog 90 (tt1 90) := ⟨⟨_, Tryz.underlying90, rfl⟩, Tryz.t90, _, by kernel_rfl, rfl, rfl, rfl, by kernel_rfl, by kernel_rfl⟩
theorem tok91 : TIok Tryz.prog 91 (tt1 91) := ⟨⟨_, Tryz.underlying91, trivial⟩, Tryz.t91, _, by kernel_rfl, rfl, rfl, rfl, by kernel_rfl, by kernel_rfl⟩
theorem tok92 : TIok Tryz.prog 92 (tt1 92) := ⟨⟨_, Tryz.underlying92, rfl⟩, Tryz.t92, _, by kernel_rfl, rfl, rfl, rfl, by kernel_rfl, by kernel_rfl⟩
theorem tok93 : TIok Tryz.prog 93 (tt1 93) := ⟨⟨_, Tryz.underlying93, rfl⟩, Tryz.t93, _, by kernel_rfl, rfl, rfl, rfl, by kernel_rfl, by kernel_rfl⟩
theorem tok94 : TIok Tryz.prog 94 (tt1 94) := ⟨⟨_, Tryz.underlying94, trivial⟩, Tryz.t94, _, by kernel_rfl, rfl, rfl, rfl, by kernel_rfl, by kernel_rfl⟩
theorem tok95 : TIok Tryz.prog 95 (tt2 95) := ⟨⟨_, Tryz.underlying95, rfl⟩, Tryz.t95, _, by kernel_rfl, rfl, rfl, rfl, by kernel_rfl, by kernel_rfl⟩
theorem tok96 : TIok Tryz.prog 96 (tt2 96) := ⟨⟨_, Tryz.underlying96, trivial⟩, Tryz.t96, _, by kernel_rfl, rfl, rfl, rfl, by kernel_rfl, by kernel_rfl⟩
theorem tok100 : TIok Tryz.prog 100 (tt2 100) := ⟨⟨_, Tryz.underlying100, trivial⟩, Tryz.t100, _, by kernel_rfl, rfl, rfl, rfl, by kernel_rfl, by kernel_rfl⟩
theorem tok105 : TIok Tryz.prog 105 (tt2 105) := ⟨⟨_, Tryz.underlying105, trivial⟩, Tryz.t105, _, by kernel_rfl, rfl, rfl, rfl, by kernel_rfl, by kernel_rfl⟩
theorem tok106 : TIok Tryz.prog 106 (tt2 106) := ⟨⟨_, Tryz.underlying106, trivial⟩, Tryz.t106, _, by kernel_rfl, rfl, rfl, rfl, by kernel_rfl, by kernel_rfl⟩
theorem tok107 : TIok Tryz.prog 107 (tt2 107) := ⟨⟨_, Tryz.underlying107, trivial⟩, Tryz.t107, _, by kernel_rfl, rfl, rfl, rfl, by kernel_rfl, by kernel_rfl⟩
theorem tok108 : TIok Tryz.prog 108 (tt2 108) := ⟨⟨_, Tryz.underlying108, trivial⟩, Tryz.t108, _, by kernel_rfl, rfl, rfl, rfl, by kernel_rfl, by kernel_rfl⟩
theorem tok109 : TIok Tryz.prog 109 (tt2 109) := ⟨⟨_, Tryz.underlying109, trivial⟩, Tryz.t109, _, by kernel_rfl, rfl, rfl, rfl, by kernel_rfl, by kernel_rfl⟩
theorem tok110 : TIok Tryz.prog 110 (tt2 110) := ⟨⟨_, Tryz.underlying110, rfl⟩, Tryz.t110, _, by kernel_rfl, rfl, rfl, rfl, by kernel_rfl, by kernel_rfl⟩
theorem tok111 : TIok Tryz.prog 111 (tt2 111) := ⟨⟨_, Tryz.underlying111, rfl⟩, Tryz.t111, _, by kernel_rfl, rfl, rfl, rfl, by kernel_rfl, by kernel_rfl⟩
theorem tok112 : TIok Tryz.prog 112 (tt2 112) := ⟨⟨_, Tryz.underlying112, trivial⟩, Tryz.t112, _, by kernel_rfl, rfl, rfl, rfl, by kernel_rfl, by kernel_rfl⟩
theorem tok113 : TIok Tryz.prog 113 (tt2 113) := ⟨⟨_, Tryz.underlying113, trivial⟩, Tryz.t113, _, by kernel_rfl, rfl, rfl, rfl, by kernel_rfl, by kernel_rfl⟩
theorem tok114 : TIok Tryz.prog 114 (tt2 114) := ⟨⟨_, Tryz.underlying114, trivial⟩, Tryz.t114, _, by kernel_rfl, rfl, rfl, rfl, by kernel_rfl, by kernel_rfl⟩
theorem tok115 : TIok Tryz.prog 115 (tt2 115) := ⟨⟨_, Tryz.underlying115, trivial⟩, Tryz.t115, _, by kernel_rfl, rfl, rfl, rfl, by kernel_rfl, by kernel_rfl⟩
theorem tok116 : TIok Tryz.prog 116 (tt2 116) := ⟨⟨_, Tryz.underlying116, trivial⟩, Tryz.t116, _, by kernel_rfl, rfl, rfl, rfl, by kernel_rfl, by kernel_rfl⟩
theorem tok117 : TIok Tryz.prog 117 (tt2 117) := ⟨⟨_, Tryz.underlying117, trivial⟩, Tryz.t117, _, by kernel_rfl, rfl, rfl, rfl, by kernel_rfl, by kernel_rfl⟩
theorem tok118 : TIok Tryz.prog 118 (tt2 118) := ⟨⟨_, Tryz.underlying118, rfl⟩, Tryz.t118, _, by kernel_rfl, rfl, rfl, rfl, by kernel_rfl, by kernel_rfl⟩
theorem tok119 : TIok Tryz.prog 119 (tt2 119) := ⟨⟨_, Tryz.underlying119, rfl⟩, Tryz.t119, _, by kernel_rfl, rfl, rfl, rfl, by kernel_rfl, by kernel_rfl⟩
theorem tok120 : TIok Tryz.prog 120 (tt2 120) := ⟨⟨_, Tryz.underlying120, rfl⟩, Tryz.t120, _, by kernel_rfl, rfl, rfl, rfl, by kernel_rfl, by kernel_rfl⟩
theorem tok121 : TIok Tryz.prog 121 (tt2 121) := ⟨⟨_, Tryz.underlying121, rfl⟩, Tryz.t121, _, by kernel_rfl, rfl, rfl, rfl, by kernel_rfl, by kernel_rfl⟩
theorem tok122 : TIok Tryz.prog 122 (tt2 122) := ⟨⟨_, Tryz.underlying122, trivial⟩, Tryz.t122, _, by kernel_rfl, rfl, rfl, rfl, by kernel_rfl, by kernel_rfl⟩
theorem tok123 : TIok Tryz.prog 123 (tt2 123) := ⟨⟨_, Tryz.underlying123, trivial⟩, Tryz.t123, _, by kernel_rfl, rfl, rfl, rfl, by kernel_rfl, by kernel_rfl⟩
theorem tok125 : TIok Tryz.prog 125 (tt2 125) := ⟨⟨_, Tryz.underlying125, trivial⟩, Tryz.t125, _, by kernel_rfl, rfl, rfl, rfl, by kernel_rfl, by kernel_rfl⟩
theorem tok126 : TIok Tryz.prog 126 (tt2 126) := ⟨⟨_, Tryz.underlying126, rfl⟩, Tryz.t126, _, by kernel_rfl, rfl, rfl, rfl, by kernel_rfl, by kernel_rfl⟩
theorem tok127 : TIok Tryz.prog 127 (tt2 127) := ⟨⟨_, Tryz.underlying127, trivial⟩, Tryz.t127, _, by kernel_rfl, rfl, rfl, rfl, by kernel_rfl, by kernel_rfl⟩
theorem tok128 : TIok Tryz.prog 128 (tt2 128) := ⟨⟨_, Tryz.underlying128, trivial⟩, Tryz.t128, _, by kernel_rfl, rfl, rfl, rfl, by kernel_rfl, by kernel_rfl⟩
theorem tok129 : TIok Tryz.prog 129 (tt2 129) := ⟨⟨_, Tryz.underlying129, trivial⟩, Tryz.t129, _, by kernel_rfl, rfl, rfl, rfl, by kernel_rfl, by kernel_rfl⟩
theorem tok130 : TIok Tryz.prog 130 (tt2 130) := ⟨⟨_, Tryz.underlying130, rfl⟩, Tryz.t130, _, by kernel_rfl, rfl, rfl, rfl, by kernel_rfl, by kernel_rfl⟩
theorem tok132 : TIok Tryz.prog 132 (tt2 132) := ⟨⟨_, Tryz.underlying132, trivial⟩, Tryz.t132, _, by kernel_rfl, rfl, rfl, rfl, by kernel_rfl, by kernel_rfl⟩
theorem tok133 : TIok Tryz.prog 133 (tt2 133) := ⟨⟨_, Tryz.underlying133, rfl⟩, Tryz.t133, _, by kernel_rfl, rfl, rfl, rfl, by kernel_rfl, by kernel_rfl⟩
theorem tok134 : TIok Tryz.prog 134 (tt2 134) := ⟨⟨_, Tryz.underlying134, trivial⟩, Tryz.t134, _, by kernel_rfl, rfl, rfl, rfl, by kernel_rfl, by kernel_rfl⟩
theorem tok135 : TIok Tryz.prog 135 (tt2 135) := ⟨⟨_, Tryz.underlying135, trivial⟩, Tryz.t135, _, by kernel_rfl, rfl, rfl, rfl, by kernel_rfl, by kernel_rfl⟩
theorem tok136 : TIok Tryz.prog 136 (tt2 136) := ⟨⟨_, Tryz.underlying136, rfl⟩, Tryz.t136, _, by kernel_rfl, rfl, rfl, rfl, by kernel_rfl, by kernel_rfl⟩
theorem tok137 : TIok Tryz.prog 137 (tt2 137) := ⟨⟨_, Tryz.underlying137, rfl⟩, Tryz.t137, _, by kernel_rfl, rfl, rfl, rfl, by kernel_rfl, by kernel_rfl⟩
theorem tok138 : TIok Tryz.prog 138 (tt2 138) := ⟨⟨_, Tryz.underlying138, trivial⟩, Tryz.t138, _, by kernel_rfl, rfl, rfl, rfl, by kernel_rfl, by kernel_rfl⟩
theorem tok139 : TIok Tryz.prog 139 (tt2 139) := ⟨⟨_, Tryz.underlying139, trivial⟩, Tryz.t139, _, by kernel_rfl, rfl, rfl, rfl, by kernel_rfl, by kernel_rfl⟩
theorem tok140 : TIok Tryz.prog 140 (tt2 140) := ⟨⟨_, Tryz.underlying140, trivial⟩, Tryz.t140, _, by kernel_rfl, rfl, rfl, rfl, by kernel_rfl, by kernel_rfl⟩
theorem tok141 : TIok Tryz.prog 141 (tt2 141) := ⟨⟨_, Tryz.underlying141, trivial⟩, Tryz.t141, _, by kernel_rfl, rfl, rfl, rfl, by kernel_rfl, by kernel_rfl⟩
theorem tok142 : TIok Tryz.prog 142 (tt2 142) := ⟨⟨_, Tryz.underlying142, rfl⟩, Tryz.t142, _, by kernel_rfl, rfl, rfl, rfl, by kernel_rfl, by kernel_rfl⟩
theorem tok143 : TIok Tryz.prog 143 (tt2 143) := ⟨⟨_, Tryz.underlying143, rfl⟩, Tryz.t143, _, by kernel_rfl, rfl, rfl, rfl, by kernel_rfl, by kernel_rfl⟩
theorem tok145 : TIok Tryz.prog 145 (tt3 145) := ⟨⟨_, Tryz.underlying145, trivial⟩, Tryz.t145, _, by kernel_rfl, rfl, rfl, rfl, by kernel_rfl, by kernel_rfl⟩
theorem tok146 : TIok Tryz.prog 146 (tt3 146) := ⟨⟨_, Tryz.underlying146, trivial⟩, Tryz.t146, _, by kernel_rfl, rfl, rfl, rfl, by kernel_rfl, by kernel_rfl⟩
theorem tok147 : TIok Tryz.prog 147 (tt3 147) := ⟨⟨_, Tryz.underlying147, trivial⟩, Tryz.t147, _, by kernel_rfl, rfl, rfl, rfl, by kernel_rfl, by kernel_rfl⟩
theorem tok148 : TIok Tryz.prog 148 (tt3 148) := ⟨⟨_, Tryz.underlying148, trivial⟩, Tryz.t148, _, by kernel_rfl, rfl, rfl, rfl, by kernel_rfl, by kernel_rfl⟩
theorem tok149 : TIok Tryz.prog 149 (tt3 149) := ⟨⟨_, Tryz.underlying149, trivial⟩, Tryz.t149, _, by kernel_rfl, rfl, rfl, rfl, by kernel_rfl, by kernel_rfl⟩
theorem tok150 : TIok Tryz.prog 150 (tt3 150) := ⟨⟨_, Tryz.underlying150, rfl⟩, Tryz.t150, _, by kernel_rfl, rfl, rfl, rfl, by kernel_rfl, by kernel_rfl⟩
theorem tok151 : TIok Tryz.prog 151 (tt3 151) := ⟨⟨_, Tryz.underlying151, trivial⟩, Tryz.t151, _, by kernel_rfl, rfl, rfl, rfl, by kernel_rfl, by kernel_rfl⟩
theorem tok152 : TIok Tryz.prog 152 (tt3 152) := ⟨⟨_, Tryz.underlying152, trivial⟩, Tryz.t152, _, by kernel_rfl, rfl, rfl, rfl, by kernel_rfl, by kernel_rfl⟩
theorem tok153 : TIok Tryz.prog 153 (tt3 153) := ⟨⟨_, Tryz.underlying153, rfl⟩, Tryz.t153, _, by kernel_rfl, rfl, rfl, rfl, by kernel_rfl, by kernel_rfl⟩
theorem tok154 : TIok Tryz.prog 154 (tt3 154) := ⟨⟨_, Tryz.underlying154, rfl⟩, Tryz.t154, _, by kernel_rfl, rfl, rfl, rfl, by kernel_rfl, by kernel_rfl⟩
theorem tok155 : TIok Tryz.prog 155 (tt3 155) := ⟨⟨_, Tryz.underlying155, trivial⟩, Tryz.t155, _, by kernel_rfl, rfl, rfl, rfl, by kernel_rfl, by kernel_rfl⟩
theorem tok156 : TIok Tryz.prog 156 (tt3 156) := ⟨⟨_, Tryz.underlying156, trivial⟩, Tryz.t156, _, by kernel_rfl, rfl, rfl, rfl, by kernel_rfl, by kernel_rfl⟩
theorem tok157 : TIok Tryz.prog 157 (tt3 157) := ⟨⟨_, Tryz.underlying157, trivial⟩, Tryz.t157, _, by kernel_rfl, rfl, rfl, rfl, by kernel_rfl, by kernel_rfl⟩
theorem tok158 : TIok Tryz.prog 158 (tt3 158) := ⟨⟨_, Tryz.underlying158, trivial⟩, Tryz.t158, _, by kernel_rfl, rfl, rfl, rfl, by kernel_rfl, by kernel_rfl⟩
theorem tok160 : TIok Tryz.prog 160 (tt3 160) := ⟨⟨_, Tryz.underlying160, trivial⟩, Tryz.t160, _, by kernel_rfl, rfl, rfl, rfl, by kernel_rfl, by kernel_rfl⟩
theorem tok162 : TIok Tryz.prog 162 (tt3 162) := ⟨⟨_, Tryz.underlying162, trivial⟩, Tryz.t162, _, by kernel_rfl, rfl, rfl, rfl, by kernel_rfl, by kernel_rfl⟩
theorem tok163 : TIok Tryz.prog 163 (tt3 163) := ⟨⟨_, Tryz.underlying163, trivial⟩, Tryz.t163, _, by kernel_rfl, rfl, rfl, rfl, by kernel_rfl, by kernel_rfl⟩
theorem tok165 : TIok Tryz.prog 165 (tt3 165) := ⟨⟨_, Tryz.underlying165, trivial⟩, Tryz.t165, _, by kernel_rfl, rfl, rfl, rfl, by kernel_rfl, by kernel_rfl⟩
theorem tok167 : TIok Tryz.prog 167 (tt3 167) := ⟨⟨_, Tryz.underlying167, trivial⟩, Tryz.t167, _, by kernel_rfl, rfl, rfl, rfl, by kernel_rfl, by kernel_rfl⟩
theorem tok168 : TIok Tryz.prog 168 (tt3 168) := ⟨⟨_, Tryz.underlying168, trivial⟩, Tryz.t168, _, by kernel_rfl, rfl, rfl, rfl, by kernel_rfl, by kernel_rfl⟩
theorem tok170 : TIok Tryz.prog 170 (tt3 170) := ⟨⟨_, Tryz.underlying170, trivial⟩, Tryz.t170, _, by kernel_rfl, rfl, rfl, rfl, by kernel_rfl, by kernel_rfl⟩
theorem tok172 : TIok Tryz.prog 172 (tt3 172) := ⟨⟨_, Tryz.underlying172, trivial⟩, Tryz.t172, _, by kernel_rfl, rfl, rfl, rfl, by kernel_rfl, by kernel_rfl⟩
theorem tok174 : TIok Tryz.prog 174 (tt3 174) := ⟨⟨_, Tryz.underlying174, trivial⟩, Tryz.t174, _, by kernel_rfl, rfl, rfl, rfl, by kernel_rfl, by kernel_rfl⟩
theorem tok176 : TIok Tryz.prog 176 (tt3 176) := ⟨⟨_, Tryz.underlying176, trivial⟩, Tryz.t176, _, by kernel_rfl, rfl, rfl, rfl, by kernel_rfl, by kernel_rfl⟩
theorem tok177 : TIok Tryz.prog 177 (tt3 177) := ⟨⟨_, Tryz.underlying177, trivial⟩, Tryz.t177, _, by kernel_rfl, rfl, rfl, rfl, by kernel_rfl, by kernel_rfl⟩
theorem tok179 : TIok Tryz.prog 179 (tt3 179) := ⟨⟨_, Tryz.underlying179, trivial⟩, Tryz.t179, _, by kernel_rfl, rfl, rfl, rfl, by kernel_rfl, by kernel_rfl⟩
theorem tok180 : TIok Tryz.prog 180 (tt3 180) := ⟨⟨_, Tryz.underlying180, trivial⟩, Tryz.t180, _, by kernel_rfl, rfl, rfl, rfl, by kernel_rfl, by kernel_rfl⟩
theorem tok181 : TIok Tryz.prog 181 (tt3 181) := ⟨⟨_, Tryz.underlying181, trivial⟩, Tryz.t181, _, by kernel_rfl, rfl, rfl, rfl, by kernel_rfl, by kernel_rfl⟩
theorem tok182 : TIok Tryz.prog 182 (tt3 182) := ⟨⟨_, Tryz.underlying182, rfl⟩, Tryz.t182, _, by kernel_rfl, rfl, rfl, rfl, by kernel_rfl, by kernel_rfl⟩
theorem tok183 : TIok Tryz.prog 183 (tt3 183) := ⟨⟨_, Tryz.underlying183, trivial⟩, Tryz.t183, _, by kernel_rfl, rfl, rfl, rfl, by kernel_rfl, by kernel_rfl⟩
theorem tok185 : TIok Tryz.prog 185 (tt3 185) := ⟨⟨_, Tryz.underlying185, trivial⟩, Tryz.t185, _, by kernel_rfl, rfl, rfl, rfl, by kernel_rfl, by kernel_rfl⟩
theorem tok186 : TIok Tryz.prog 186 (tt3 186) := ⟨⟨_, Tryz.underlying186, rfl⟩, Tryz.t186, _, by kernel_rfl, rfl, rfl, rfl, by kernel_rfl, by kernel_rfl⟩
theorem tok187 : TIok Tryz.prog 187 (tt3 187) := ⟨⟨_, Tryz.underlying187, trivial⟩, Tryz.t187, _, by kernel_rfl, rfl, rfl, rfl, by kernel_rfl, by kernel_rfl⟩
theorem tok188 : TIok Tryz.prog 188 (tt3 188) := ⟨⟨_, Tryz.underlying188, trivial⟩, Tryz.t188, _, by kernel_rfl, rfl, rfl, rfl, by kernel_rfl, by kernel_rfl⟩
theorem tok189 : TIok Tryz.prog 189 (tt3 189) := ⟨⟨_, Tryz.underlying189, trivial⟩, Tryz.t189, _, by kernel_rfl, rfl, rfl, rfl, by kernel_rfl, by kernel_rfl⟩
theorem tok190 : TIok Tryz.prog 190 (tt3 190) := ⟨⟨_, Tryz.underlying190, trivial⟩, Tryz.t190, _, by kernel_rfl, rfl, rfl, rfl, by kernel_rfl, by kernel_rfl⟩
theorem tok191 : TIok Tryz.prog 191 (tt3 191) := ⟨⟨_, Tryz.underlying191, rfl⟩, Tryz.t191, _, by kernel_rfl, rfl, rfl, rfl, by kernel_rfl, by kernel_rfl⟩
theorem tok192 : TIok Tryz.prog 192 (tt3 192) := ⟨⟨_, Tryz.underlying192, rfl⟩, Tryz.t192, _, by kernel_rfl, rfl, rfl, rfl, by kernel_rfl, by kernel_rfl⟩
theorem tok193 : TIok Tryz.prog 193 (tt3 193) := ⟨⟨_, Tryz.underlying193, trivial⟩, Tryz.t193, _, by kernel_rfl, rfl, rfl, rfl, by kernel_rfl, by kernel_rfl⟩
theorem tok194 : TIok Tryz.prog 194 (tt3 194) := ⟨⟨_, Tryz.underlying194, trivial⟩, Tryz.t194, _, by kernel_rfl, rfl, rfl, rfl, by kernel_rfl, by kernel_rfl⟩
theorem tok195 : TIok Tryz.prog 195 (tt4 195) := ⟨⟨_, Tryz.underlying195, trivial⟩, Tryz.t195, _, by kernel_rfl, rfl, rfl, rfl, by kernel_rfl, by kernel_rfl⟩
theorem tok197 : TIok Tryz.prog 197 (tt4 197) := ⟨⟨_, Tryz.underlying197, trivial⟩, Tryz.t197, _, by kernel_rfl, rfl, rfl, rfl, by kernel_rfl, by kernel_rfl⟩
theorem tok198 : TIok Tryz.prog 198 (tt4 198) := ⟨⟨_, Tryz.underlying198, trivial⟩, Tryz.t198, _, by kernel_rfl, rfl, rfl, rfl, by kernel_rfl, by kernel_rfl⟩
theorem tok199 : TIok Tryz.prog 199 (tt4 199) := ⟨⟨_, Tryz.underlying199, trivial⟩, Tryz.t199, _, by kernel_rfl, rfl, rfl, rfl, by kernel_rfl, by kernel_rfl⟩
theorem tok200 : TIok Tryz.prog 200 (tt4 200) := ⟨⟨_, Tryz.underlying200, trivial⟩, Tryz.t200, _, by kernel_rfl, rfl, rfl, rfl, by kernel_rfl, by kernel_rfl⟩
theorem tok201 : TIok Tryz.prog 201 (tt4 201) := ⟨⟨_, Tryz.underlying201, trivial⟩, Tryz.t201, _, by kernel_rfl, rfl, rfl, rfl, by kernel_rfl, by kernel_rfl⟩
theorem tok202 : TIok Tryz.prog 202 (tt4 202) := ⟨⟨_, Tryz.underlying202, trivial⟩, Tryz.t202, _, by kernel_rfl, rfl, rfl, rfl, by kernel_rfl, by kernel_rfl⟩
theorem tok203 : TIok Tryz.prog 203 (tt4 203) := ⟨⟨_, Tryz.underlying203, trivial⟩, Tryz.t203, _, by kernel_rfl, rfl, rfl, rfl, by kernel_rfl, by kernel_rfl⟩
theorem tok204 : TIok Tryz.prog 204 (tt4 204) := ⟨⟨_, Tryz.underlying204, rfl⟩, Tryz.t204, _, by kernel_rfl, rfl, rfl, rfl, by kernel_rfl, by kernel_rfl⟩
theorem tok205 : TIok Tryz.prog 205 (tt4 205) := ⟨⟨_, Tryz.underlying205, rfl⟩, Tryz.t205, _, by kernel_rfl, rfl, rfl, rfl, by kernel_rfl, by kernel_rfl⟩
theorem tok206 : TIok Tryz.prog 206 (tt4 206) := ⟨⟨_, Tryz.underlying206, rfl⟩, Tryz.t206, _, by kernel_rfl, rfl, rfl, rfl, by kernel_rfl, by kernel_rfl⟩
theorem tok207 : TIok Tryz.prog 207 (tt4 207) := ⟨⟨_, Tryz.underlying207, rfl⟩, Tryz.t207, _, by kernel_rfl, rfl, rfl, rfl, by kernel_rfl, by kernel_rfl⟩
theorem tok208 : TIok Tryz.prog 208 (tt4 208) := ⟨⟨_, Tryz.underlying208, rfl⟩, Tryz.t208, _, by kernel_rfl, rfl, rfl, rfl, by kernel_rfl, by kernel_rfl⟩
theorem tok209 : TIok Tryz.prog 209 (tt4 209) := ⟨⟨_, Tryz.underlying209, ⟨rfl, rfl⟩⟩, Tryz.t209, _, by kernel_rfl, rfl, rfl, rfl, by kernel_rfl, by kernel_rfl⟩
theorem tok210 : TIok Tryz.prog 210 (tt4 210) := ⟨⟨_, Tryz.underlying210, trivial⟩, Tryz.t210, _, by kernel_rfl, rfl, rfl, rfl, by kernel_rfl, by kernel_rfl⟩
theorem tok211 : TIok Tryz.prog 211 (tt4 211) := ⟨⟨_, Tryz.underlying211, rfl⟩, Tryz.t211, _, by kernel_rfl, rfl, rfl, rfl, by kernel_rfl, by kernel_rfl⟩
theorem tok212 : TIok Tryz.prog 212 (tt4 212) := ⟨⟨_, Tryz.underlying212, trivial⟩, Tryz.t212, _, by kernel_rfl, rfl, rfl, rfl, by kernel_rfl, by kernel_rfl⟩
theorem tok213 : TIok Tryz.prog 213 (tt4 213) := ⟨⟨_, Tryz.underlying213, trivial⟩, Tryz.t213, _, by kernel_rfl, rfl, rfl, rfl, by kernel_rfl, by kernel_rfl⟩
theorem tok214 : TIok Tryz.prog 214 (tt4 214) := ⟨⟨_, Tryz.underlying214, ⟨rfl, rfl⟩⟩, Tryz.t214, _, by kernel_rfl, rfl, rfl, rfl, by kernel_rfl, by kernel_rfl⟩
theorem tok215 : TIok Tryz.prog 215 (tt4 215) := ⟨⟨_, Tryz.underlying215, ⟨rfl, rfl⟩⟩, Tryz.t215, _, by kernel_rfl, rfl, rfl, rfl, by kernel_rfl, by kernel_rfl⟩
theorem tok216 : TIok Tryz.prog 216 (tt4 216) := ⟨⟨_, Tryz.underlying216, rfl⟩, Tryz.t216, _, by kernel_rfl, rfl, rfl, rfl, by kernel_rfl, by kernel_rfl⟩
theorem tok217 : TIok Tryz.prog 217 (tt4 217) := ⟨⟨_, Tryz.underlying217, rfl⟩, Tryz.t217, _, by kernel_rfl, rfl, rfl, rfl, by kernel_rfl, by kernel_rfl⟩
theorem tok218 : TIok Tryz.prog 218 (tt4 218) := ⟨⟨_, Tryz.underlying218, trivial⟩, Tryz.t218, _, by kernel_rfl, rfl, rfl, rfl, by kernel_rfl, by kernel_rfl⟩
theorem tok219 : TIok Tryz.prog 219 (tt4 219) := ⟨⟨_, Tryz.underlying219, rfl⟩, Tryz.t219, _, by kernel_rfl, rfl, rfl, rfl, by kernel_rfl, by kernel_rfl⟩
theorem tok221 : TIok Tryz.prog 221 (tt4 221) := ⟨⟨_, Tryz.underlying221, trivial⟩, Tryz.t221, _, by kernel_rfl, rfl, rfl, rfl, by kernel_rfl, by kernel_rfl⟩
theorem tok222 : TIok Tryz.prog 222 (tt4 222) := ⟨⟨_, Tryz.underlying222, rfl⟩, Tryz.t222, _, by kernel_rfl, rfl, rfl, rfl, by kernel_rfl, by kernel_rfl⟩
theorem tok223 : TIok Tryz.prog 223 (tt4 223) := ⟨⟨_, Tryz.underlying223, rfl⟩, Tryz.t223, _, by kernel_rfl, rfl, rfl, rfl, by kernel_rfl, by kernel_rfl⟩
theorem tok224 : TIok Tryz.prog 224 (tt4 224) := ⟨⟨_, Tryz.underlying224, trivial⟩, Tryz.t224, _, by kernel_rfl, rfl, rfl, rfl, by kernel_rfl, by kernel_rfl⟩
theorem tok225 : TIok Tryz.prog 225 (tt4 225) := ⟨⟨_, Tryz.underlying225, trivial⟩, Tryz.t225, _, by kernel_rfl, rfl, rfl, rfl, by kernel_rfl, by kernel_rfl⟩
theorem tok226 : TIok Tryz.prog 226 (tt4 226) := ⟨⟨_, Tryz.underlying226, ⟨rfl, rfl⟩⟩, Tryz.t226, _, by kernel_rfl, rfl, rfl, rfl, by kernel_rfl, by kernel_rfl⟩
theorem tok229 : TIok Tryz.prog 229 (tt4 229) := ⟨⟨_, Tryz.underlying229, trivial⟩, Tryz.t229, _, by kernel_rfl, rfl, rfl, rfl, by kernel_rfl, by kernel_rfl⟩
theorem tok230 : TIok Tryz.prog 230 (tt4 230) := ⟨⟨_, Tryz.underlying230, trivial⟩, Tryz.t230, _, by kernel_rfl, rfl, rfl, rfl, by kernel_rfl, by kernel_rfl⟩
theorem tok232 : TIok Tryz.prog 232 (tt4 232) := ⟨⟨_, Tryz.underlying232, trivial⟩, Tryz.t232, _, by kernel_rfl, rfl, rfl, rfl, by kernel_rfl, by kernel_rfl⟩
theorem tok233 : TIok Tryz.prog 233 (tt4 233) := ⟨⟨_, Tryz.underlying233, trivial⟩, Tryz.t233, _, by kernel_rfl, rfl, rfl, rfl, by kernel_rfl, by kernel_rfl⟩
theorem tok234 : TIok Tryz.prog 234 (tt4 234) := ⟨⟨_, Tryz.underlying234, rfl⟩, Tryz.t234, _, by kernel_rfl, rfl, rfl, rfl, by kernel_rfl, by kernel_rfl⟩
theorem tok235 : TIok Tryz.prog 235 (tt4 235) := ⟨⟨_, Tryz.underlying235, trivial⟩, Tryz.t235, _, by kernel_rfl, rfl, rfl, rfl, by kernel_rfl, by kernel_rfl⟩
theorem tok236 : TIok Tryz.prog 236 (tt4 236) := ⟨⟨_, Tryz.underlying236, rfl⟩, Tryz.t236, _, by kernel_rfl, rfl, rfl, rfl, by kernel_rfl, by kernel_rfl⟩
theorem tok237 : TIok Tryz.prog 237 (tt4 237) := ⟨⟨_, Tryz.underlying237, rfl⟩, Tryz.t237, _, by kernel_rfl, rfl, rfl, rfl, by kernel_rfl, by kernel_rfl⟩
theorem tok239 : TIok Tryz.prog 239 (tt4 239) := ⟨⟨_, Tryz.underlying239, trivial⟩, Tryz.t239, _, by kernel_rfl, rfl, rfl, rfl, by kernel_rfl, by kernel_rfl⟩
theorem tok240 : TIok Tryz.prog 240 (tt4 240) := ⟨⟨_, Tryz.underlying240, trivial⟩, Tryz.t240, _, by kernel_rfl, rfl, rfl, rfl, by kernel_rfl, by kernel_rfl⟩
theorem tok241 : TIok Tryz.prog 241 (tt5 241) := ⟨⟨_, Tryz.underlying241, trivial⟩, Tryz.t241, _, by kernel_rfl, rfl, rfl, rfl, by kernel_rfl, by kernel_rfl⟩
theorem tok243 : TIok Tryz.prog 243 (tt5 243) := ⟨⟨_, Tryz.underlying243, trivial⟩, Tryz.t243, _, by kernel_rfl, rfl, rfl, rfl, by kernel_rfl, by kernel_rfl⟩
theorem tok245 : TIok Tryz.prog 245 (tt5 245) := ⟨⟨_, Tryz.underlying245, trivial⟩, Tryz.t245, _, by kernel_rfl, rfl, rfl, rfl, by kernel_rfl, by kernel_rfl⟩
theorem tok246 : TIok Tryz.prog 246 (tt5 246) := ⟨⟨_, Tryz.underlying246, ⟨rfl, rfl⟩⟩, Tryz.t246, _, by kernel_rfl, rfl, rfl, rfl, by kernel_rfl, by kernel_rfl⟩
theorem tok247 : TIok Tryz.prog 247 (tt5 247) := ⟨⟨_, Tryz.underlying247, trivial⟩, Tryz.t247, _, by kernel_rfl, rfl, rfl, rfl, by kernel_rfl, by kernel_rfl⟩
theorem tok248 : TIok Tryz.prog 248 (tt5 248) := ⟨⟨_, Tryz.underlying248, trivial⟩, Tryz.t248, _, by kernel_rfl, rfl, rfl, rfl, by kernel_rfl, by kernel_rfl⟩
theorem tok249 : TIok Tryz.prog 249 (tt5 249) := ⟨⟨_, Tryz.underlying249, rfl⟩, Tryz.t249, _, by kernel_rfl, rfl, rfl, rfl, by kernel_rfl, by kernel_rfl⟩
theorem tok251 : TIok Tryz.prog 251 (tt5 251) := ⟨⟨_, Tryz.underlying251, trivial⟩, Tryz.t251, _, by kernel_rfl, rfl, rfl, rfl, by kernel_rfl, by kernel_rfl⟩
theorem tok252 : TIok Tryz.prog 252 (tt5 252) := ⟨⟨_, Tryz.underlying252, trivial⟩, Tryz.t252, _, by kernel_rfl, rfl, rfl, rfl, by kernel_rfl, by kernel_rfl⟩
theorem tok253 : TIok Tryz.prog 253 (tt5 253) := ⟨⟨_, Tryz.underlying253, trivial⟩, Tryz.t253, _, by kernel_rfl, rfl, rfl, rfl, by kernel_rfl, by kernel_rfl⟩
theorem tok255 : TIok Tryz.prog 255 (tt5 255) := ⟨⟨_, Tryz.underlying255, trivial⟩, Tryz.t255, _, by kernel_rfl, rfl, rfl, rfl, by kernel_rfl, by kernel_rfl⟩
theorem tok256 : TIok Tryz.prog 256 (tt5 256) := ⟨⟨_, Tryz.underlying256, trivial⟩, Tryz.t256, _, by kernel_rfl, rfl, rfl, rfl, by kernel_rfl, by kernel_rfl⟩
theorem tok257 : TIok Tryz.prog 257 (tt5 257) := ⟨⟨_, Tryz.underlying257, rfl⟩, Tryz.t257, _, by kernel_rfl, rfl, rfl, rfl, by kernel_rfl, by kernel_rfl⟩
theorem tok258 : TIok Tryz.prog 258 (tt5 258) := ⟨⟨_, Tryz.underlying258, trivial⟩, Tryz.t258, _, by kernel_rfl, rfl, rfl, rfl, by kernel_rfl, by kernel_rfl⟩
theorem tok263 : TIok Tryz.prog 263 (tt5 263) := ⟨⟨_, Tryz.underlying263, trivial⟩, Tryz.t263, _, by kernel_rfl, rfl, rfl, rfl, by kernel_rfl, by kernel_rfl⟩
theorem tok264 : TIok Tryz.prog 264 (tt5 264) := ⟨⟨_, Tryz.underlying264, trivial⟩, Tryz.t264, _, by kernel_rfl, rfl, rfl, rfl, by kernel_rfl, by kernel_rfl⟩
theorem tok265 : TIok Tryz.prog 265 (tt5 265) := ⟨⟨_, Tryz.underlying265, trivial⟩, Tryz.t265, _, by kernel_rfl, rfl, rfl, rfl, by kernel_rfl, by kernel_rfl⟩
theorem tok266 : TIok Tryz.prog 266 (tt5 266) := ⟨⟨_, Tryz.underlying266, trivial⟩, Tryz.t266, _, by kernel_rfl, rfl, rfl, rfl, by kernel_rfl, by kernel_rfl⟩
theorem tok267 : TIok Tryz.prog 267 (tt5 267) := ⟨⟨_, Tryz.underlying267, trivial⟩, Tryz.t267, _, by kernel_rfl, rfl, rfl, rfl, by kernel_rfl, by kernel_rfl⟩
theorem tok268 : TIok Tryz.prog 268 (tt5 268) := ⟨⟨_, Tryz.underlying268, trivial⟩, Tryz.t268, _, by kernel_rfl, rfl, rfl, rfl, by kernel_rfl, by kernel_rfl⟩
theorem tok269 : TIok Tryz.prog 269 (tt5 269) := ⟨⟨_, Tryz.underlying269, trivial⟩, Tryz.t269, _, by kernel_rfl, rfl, rfl, rfl, by kernel_rfl, by kernel_rfl⟩
theorem tok270 : TIok Tryz.prog 270 (tt5 270) := ⟨⟨_, Tryz.underlying270, trivial⟩, Tryz.t270, _, by kernel_rfl, rfl, rfl, rfl, by kernel_rfl, by kernel_rfl⟩
theorem tok271 : TIok Tryz.prog 271 (tt5 271) := ⟨⟨_, Tryz.underlying271, trivial⟩, Tryz.t271, _, by kernel_rfl, rfl, rfl, rfl, by kernel_rfl, by kernel_rfl⟩
theorem tok272 : TIok Tryz.prog 272 (tt5 272) := ⟨⟨_, Tryz.underlying272, trivial⟩, Tryz.t272, _, by kernel_rfl, rfl, rfl, rfl, by kernel_rfl, by kernel_rfl⟩
theorem tok273 : TIok Tryz.prog 273 (tt5 273) := ⟨⟨_, Tryz.underlying273, trivial⟩, Tryz.t273, _, by kernel_rfl, rfl, rfl, rfl, by kernel_rfl, by kernel_rfl⟩
theorem tok274 : TIok Tryz.prog 274 (tt5 274) := ⟨⟨_, Tryz.underlying274, trivial⟩, Tryz.t274, _, by kernel_rfl, rfl, rfl, rfl, by kernel_rfl, by kernel_rfl⟩
theorem tok275 : TIok Tryz.prog 275 (tt5 275) := ⟨⟨_, Tryz.underlying275, trivial⟩, Tryz.t275, _, by kernel_rfl, rfl, rfl, rfl, by kernel_rfl, by kernel_rfl⟩
theorem tok276 : TIok Tryz.prog 276 (tt5 276) := ⟨⟨_, Tryz.underlying276, rfl⟩, Tryz.t276, _, by kernel_rfl, rfl, rfl, rfl, by kernel_rfl, by kernel_rfl⟩
theorem tok277 : TIok Tryz.prog 277 (tt5 277) := ⟨⟨_, Tryz.underlying277, ⟨rfl, rfl⟩⟩, Tryz.t277, _, by kernel_rfl, rfl, rfl, rfl, by kernel_rfl, by kernel_rfl⟩
theorem tok278 : TIok Tryz.prog 278 (tt5 278) := ⟨⟨_, Tryz.underlying278, trivial⟩, Tryz.t278, _, by kernel_rfl, rfl, rfl, rfl, by kernel_rfl, by kernel_rfl⟩
theorem tok279 : TIok Tryz.prog 279 (tt5 279) := ⟨⟨_, Tryz.underlying279, trivial⟩, Tryz.t279, _, by kernel_rfl, rfl, rfl, rfl, by kernel_rfl, by kernel_rfl⟩
theorem tok280 : TIok Tryz.prog 280 (tt5 280) := ⟨⟨_, Tryz.underlying280, trivial⟩, Tryz.t280, _, by kernel_rfl, rfl, rfl, rfl, by kernel_rfl, by kernel_rfl⟩
theorem tok281 : TIok Tryz.prog 281 (tt5 281) := ⟨⟨_, Tryz.underlying281, trivial⟩, Tryz.t281, _, by kernel_rfl, rfl, rfl, rfl, by kernel_rfl, by kernel_rfl⟩
theorem tok282 : TIok Tryz.prog 282 (tt5 282) := ⟨⟨_, Tryz.underlying282, trivial⟩, Tryz.t282, _, by kernel_rfl, rfl, rfl, rfl, by kernel_rfl, by kernel_rfl⟩
theorem tok283 : TIok Tryz.prog 283 (tt5 283) := ⟨⟨_, Tryz.underlying283, trivial⟩, Tryz.t283, _, by kernel_rfl, rfl, rfl, rfl, by kernel_rfl, by kernel_rfl⟩
theorem tok285 : TIok Tryz.prog 285 (tt5 285) := ⟨⟨_, Tryz.underlying285, trivial⟩, Tryz.t285, _, by kernel_rfl, rfl, rfl, rfl, by kernel_rfl, by kernel_rfl⟩
theorem tok287 : TIok Tryz.prog 287 (tt5 287) := ⟨⟨_, Tryz.underlying287, trivial⟩, Tryz.t287, _, by kernel_rfl, rfl, rfl, rfl, by kernel_rfl, by kernel_rfl⟩
theorem tok288 : TIok Tryz.prog 288 (tt5 288) := ⟨⟨_, Tryz.underlying288, rfl⟩, Tryz.t288, _, by kernel_rfl, rfl, rfl, rfl, by kernel_rfl, by kernel_rfl⟩
theorem tok289 : TIok Tryz.prog 289 (tt5 289) := ⟨⟨_, Tryz.underlying289, rfl⟩, Tryz.t289, _, by kernel_rfl, rfl, rfl, rfl, by kernel_rfl, by kernel_rfl⟩
theorem tok291 : TIok Tryz.prog 291 (tt5 291) := ⟨⟨_, Tryz.underlying291, trivial⟩, Tryz.t291, _, by kernel_rfl, rfl, rfl, rfl, by kernel_rfl, by kernel_rfl⟩
theorem tok292 : TIok Tryz.prog 292 (tt6 292) := ⟨⟨_, Tryz.underlying292, trivial⟩, Tryz.t292, _, by kernel_rfl, rfl, rfl, rfl, by kernel_rfl, by kernel_rfl⟩
theorem tok293 : TIok Tryz.prog 293 (tt6 293) := ⟨⟨_, Tryz.underlying293, trivial⟩, Tryz.t293, _, by kernel_rfl, rfl, rfl, rfl, by kernel_rfl, by kernel_rfl⟩
theorem tok294 : TIok Tryz.prog 294 (tt6 294) := ⟨⟨_, Tryz.underlying294, trivial⟩, Tryz.t294, _, by kernel_rfl, rfl, rfl, rfl, by kernel_rfl, by kernel_rfl⟩
theorem tok295 : TIok Tryz.prog 295 (tt6 295) := ⟨⟨_, Tryz.underlying295, trivial⟩, Tryz.t295, _, by kernel_rfl, rfl, rfl, rfl, by kernel_rfl, by kernel_rfl⟩
theorem tok296 : TIok Tryz.prog 296 (tt6 296) := ⟨⟨_, Tryz.underlying296, trivial⟩, Tryz.t296, _, by kernel_rfl, rfl, rfl, rfl, by kernel_rfl, by kernel_rfl⟩
theorem tok297 : TIok Tryz.prog 297 (tt6 297) := ⟨⟨_, Tryz.underlying297, trivial⟩, Tryz.t297, _, by kernel_rfl, rfl, rfl, rfl, by kernel_rfl, by kernel_rfl⟩
theorem tok299 : TIok Tryz.prog 299 (tt6 299) := ⟨⟨_, Tryz.underlying299, trivial⟩, Tryz.t299, _, by kernel_rfl, rfl, rfl, rfl, by kernel_rfl, by kernel_rfl⟩
theorem tok300 : TIok Tryz.prog 300 (tt6 300) := ⟨⟨_, Tryz.underlying300, ⟨rfl, rfl⟩⟩, Tryz.t300, _, by kernel_rfl, rfl, rfl, rfl, by kernel_rfl, by kernel_rfl⟩
theorem tok301 : TIok Tryz.prog 301 (tt6 301) := ⟨⟨_, Tryz.underlying301, trivial⟩, Tryz.t301, _, by kernel_rfl, rfl, rfl, rfl, by kernel_rfl, by kernel_rfl⟩
theorem tok302 : TIok Tryz.prog 302 (tt6 302) := ⟨⟨_, Tryz.underlying302, rfl⟩, Tryz.t302, _, by kernel_rfl, rfl, rfl, rfl, by kernel_rfl, by kernel_rfl⟩
theorem tok303 : TIok Tryz.prog 303 (tt6 303) := ⟨⟨_, Tryz.underlying303, rfl⟩, Tryz.t303, _, by kernel_rfl, rfl, rfl, rfl, by kernel_rfl, by kernel_rfl⟩
theorem tok304 : TIok Tryz.prog 304 (tt6 304) := ⟨⟨_, Tryz.underlying304, rfl⟩, Tryz.t304, _, by kernel_rfl, rfl, rfl, rfl, by kernel_rfl, by kernel_rfl⟩
theorem tok305 : TIok Tryz.prog 305 (tt6 305) := ⟨⟨_, Tryz.underlying305, trivial⟩, Tryz.t305, _, by kernel_rfl, rfl, rfl, rfl, by kernel_rfl, by kernel_rfl⟩
theorem tok306 : TIok Tryz.prog 306 (tt6 306) := ⟨⟨_, Tryz.underlying306, trivial⟩, Tryz.t306, _, by kernel_rfl, rfl, rfl, rfl, by kernel_rfl, by kernel_rfl⟩
theorem tok307 : TIok Tryz.prog 307 (tt6 307) := ⟨⟨_, Tryz.underlying307, trivial⟩, Tryz.t307, _, by kernel_rfl, rfl, rfl, rfl, by kernel_rfl, by kernel_rfl⟩
theorem tok308 : TIok Tryz.prog 308 (tt6 308) := ⟨⟨_, Tryz.underlying308, rfl⟩, Tryz.t308, _, by kernel_rfl, rfl, rfl, rfl, by kernel_rfl, by kernel_rfl⟩
theorem tok309 : TIok Tryz.prog 309 (tt6 309) := ⟨⟨_, Tryz.underlying309, trivial⟩, Tryz.t309, _, by kernel_rfl, rfl, rfl, rfl, by kernel_rfl, by kernel_rfl⟩
theorem tok310 : TIok Tryz.prog 310 (tt6 310) := ⟨⟨_, Tryz.underlying310, trivial⟩, Tryz.t310, _, by kernel_rfl, rfl, rfl, rfl, by kernel_rfl, by kernel_rfl⟩
theorem tok311 : TIok Tryz.prog 311 (tt6 311) := ⟨⟨_, Tryz.underlying311, rfl⟩, Tryz.t311, _, by kernel_rfl, rfl, rfl, rfl, by kernel_rfl, by kernel_rfl⟩
theorem tok312 : TIok Tryz.prog 312 (tt6 312) := ⟨⟨_, Tryz.underlying312, rfl⟩, Tryz.t312, _, by kernel_rfl, rfl, rfl, rfl, by kernel_rfl, by kernel_rfl⟩
theorem tok313 : TIok Tryz.prog 313 (tt6 313) := ⟨⟨_, Tryz.underlying313, rfl⟩, Tryz.t313, _, by kernel_rfl, rfl, rfl, rfl, by kernel_rfl, by kernel_rfl⟩
theorem tok314 : TIok Tryz.prog 314 (tt6 314) := ⟨⟨_, Tryz.underlying314, rfl⟩, Tryz.t314, _, by kernel_rfl, rfl, rfl, rfl, by kernel_rfl, by kernel_rfl⟩
theorem tok318 : TIok Tryz.prog 318 (tt6 318) := ⟨⟨_, Tryz.underlying318, trivial⟩, Tryz.t318, _, by kernel_rfl, rfl, rfl, rfl, by kernel_rfl, by kernel_rfl⟩
theorem tok319 : TIok Tryz.prog 319 (tt6 319) := ⟨⟨_, Tryz.underlying319, trivial⟩, Tryz.t319, _, by kernel_rfl, rfl, rfl, rfl, by kernel_rfl, by kernel_rfl⟩
theorem tok320 : TIok Tryz.prog 320 (tt6 320) := ⟨⟨_, Tryz.underlying320, rfl⟩, Tryz.t320, _, by kernel_rfl, rfl, rfl, rfl, by kernel_rfl, by kernel_rfl⟩
theorem tok321 : TIok Tryz.prog 321 (tt6 321) := ⟨⟨_, Tryz.underlying321, rfl⟩, Tryz.t321, _, by kernel_rfl, rfl, rfl, rfl, by kernel_rfl, by kernel_rfl⟩
theorem tok322 : TIok Tryz.prog 322 (tt6 322) := ⟨⟨_, Tryz.underlying322, rfl⟩, Tryz.t322, _, by kernel_rfl, rfl, rfl, rfl, by kernel_rfl, by kernel_rfl⟩
theorem tok323 : TIok Tryz.prog 323 (tt6 323) := ⟨⟨_, Tryz.underlying323, trivial⟩, Tryz.t323, _, by kernel_rfl, rfl, rfl, rfl, by kernel_rfl, by kernel_rfl⟩
theorem tok324 : TIok Tryz.prog 324 (tt6 324) := ⟨⟨_, Tryz.underlying324, trivial⟩, Tryz.t324, _, by kernel_rfl, rfl, rfl, rfl, by kernel_rfl, by kernel_rfl⟩
theorem tok325 : TIok Tryz.prog 325 (tt6 325) := ⟨⟨_, Tryz.underlying325, rfl⟩, Tryz.t325, _, by kernel_rfl, rfl, rfl, rfl, by kernel_rfl, by kernel_rfl⟩
theorem tok326 : TIok Tryz.prog 326 (tt6 326) := ⟨⟨_, Tryz.underlying326, rfl⟩, Tryz.t326, _, by kernel_rfl, rfl, rfl, rfl, by kernel_rfl, by kernel_rfl⟩
theorem tok327 : TIok Tryz.prog 327 (tt6 327) := ⟨⟨_, Tryz.underlying327, trivial⟩, Tryz.t327, _, by kernel_rfl, rfl, rfl, rfl, by kernel_rfl, by kernel_rfl⟩
theorem tok328 : TIok Tryz.prog 328 (tt6 328) := ⟨⟨_, Tryz.underlying328, trivial⟩, Tryz.t328, _, by kernel_rfl, rfl, rfl, rfl, by kernel_rfl, by kernel_rfl⟩
theorem tok329 : TIok Tryz.prog 329 (tt6 329) := ⟨⟨_, Tryz.underlying329, trivial⟩, Tryz.t329, _, by kernel_rfl, rfl, rfl, rfl, by kernel_rfl, by kernel_rfl⟩
theorem tok330 : TIok Tryz.prog 330 (tt6 330) := ⟨⟨_, Tryz.underlying330, trivial⟩, Tryz.t330, _, by kernel_rfl, rfl, rfl, rfl, by kernel_rfl, by kernel_rfl⟩
theorem tok332 : TIok Tryz.prog 332 (tt6 332) := ⟨⟨_, Tryz.underlying332, trivial⟩, Tryz.t332, _, by kernel_rfl, rfl, rfl, rfl, by kernel_rfl, by kernel_rfl⟩
theorem tok334 : TIok Tryz.prog 334 (tt6 334) := ⟨⟨_, Tryz.underlying334, trivial⟩, Tryz.t334, _, by kernel_rfl, rfl, rfl, rfl, by kernel_rfl, by kernel_rfl⟩
theorem tok335 : TIok Tryz.prog 335 (tt6 335) := ⟨⟨_, Tryz.underlying335, trivial⟩, Tryz.t335, _, by kernel_rfl, rfl, rfl, rfl, by kernel_rfl, by kernel_rfl⟩
theorem tok336 : TIok Tryz.prog 336 (tt6 336) := ⟨⟨_, Tryz.underlying336, trivial⟩, Tryz.t336, _, by kernel_rfl, rfl, rfl, rfl, by kernel_rfl, by kernel_rfl⟩
theorem tok337 : TIok Tryz.prog 337 (tt6 337) := ⟨⟨_, Tryz.underlying337, trivial⟩, Tryz.t337, _, by kernel_rfl, rfl, rfl, rfl, by kernel_rfl, by kernel_rfl⟩
theorem tok338 : TIok Tryz.prog 338 (tt7 338) := ⟨⟨_, Tryz.underlying338, trivial⟩, Tryz.t338, _, by kernel_rfl, rfl, rfl, rfl, by kernel_rfl, by kernel_rfl⟩
theorem tok339 : TIok Tryz.prog 339 (tt7 339) := ⟨⟨_, Tryz.underlying339, trivial⟩, Tryz.t339, _, by kernel_rfl, rfl, rfl, rfl, by kernel_rfl, by kernel_rfl⟩
theorem tok340 : TIok Tryz.prog 340 (tt7 340) := ⟨⟨_, Tryz.underlying340, trivial⟩, Tryz.t340, _, by kernel_rfl, rfl, rfl, rfl, by kernel_rfl, by kernel_rfl⟩
theorem tok341 : TIok Tryz.prog 341 (tt7 341) := ⟨⟨_, Tryz.underlying341, trivial⟩, Tryz.t341, _, by kernel_rfl, rfl, rfl, rfl, by kernel_rfl, by kernel_rfl⟩
theorem tok342 : TIok Tryz.prog 342 (tt7 342) := ⟨⟨_, Tryz.underlying342, trivial⟩, Tryz.t342, _, by kernel_rfl, rfl, rfl, rfl, by kernel_rfl, by kernel_rfl⟩
theorem tok343 : TIok Tryz.prog 343 (tt7 343) := ⟨⟨_, Tryz.underlying343, rfl⟩, Tryz.t343, _, by kernel_rfl, rfl, rfl, rfl, by kernel_rfl, by kernel_rfl⟩
theorem tok344 : TIok Tryz.prog 344 (tt7 344) := ⟨⟨_, Tryz.underlying344, trivial⟩, Tryz.t344, _, by kernel_rfl, rfl, rfl, rfl, by kernel_rfl, by kernel_rfl⟩
theorem tok345 : TIok Tryz.prog 345 (tt7 345) := ⟨⟨_, Tryz.underlying345, trivial⟩, Tryz.t345, _, by kernel_rfl, rfl, rfl, rfl, by kernel_rfl, by kernel_rfl⟩
theorem tok346 : TIok Tryz.prog 346 (tt7 346) := ⟨⟨_, Tryz.underlying346, ⟨rfl, rfl⟩⟩, Tryz.t346, _, by kernel_rfl, rfl, rfl, rfl, by kernel_rfl, by kernel_rfl⟩
theorem tok347 : TIok Tryz.prog 347 (tt7 347) := ⟨⟨_, Tryz.underlying347, trivial⟩, Tryz.t347, _, by kernel_rfl, rfl, rfl, rfl, by kernel_rfl, by kernel_rfl⟩
theorem tok348 : TIok Tryz.prog 348 (tt7 348) := ⟨⟨_, Tryz.underlying348, trivial⟩, Tryz.t348, _, by kernel_rfl, rfl, rfl, rfl, by kernel_rfl, by kernel_rfl⟩
theorem tok349 : TIok Tryz.prog 349 (tt7 349) := ⟨⟨_, Tryz.underlying349, ⟨rfl, rfl⟩⟩, Tryz.t349, _, by kernel_rfl, rfl, rfl, rfl, by kernel_rfl, by kernel_rfl⟩
theorem tok351 : TIok Tryz.prog 351 (tt7 351) := ⟨⟨_, Tryz.underlying351, trivial⟩, Tryz.t351, _, by kernel_rfl, rfl, rfl, rfl, by kernel_rfl, by kernel_rfl⟩
theorem tok352 : TIok Tryz.prog 352 (tt7 352) := ⟨⟨_, Tryz.underlying352, ⟨rfl, rfl⟩⟩, Tryz.t352, _, by kernel_rfl, rfl, rfl, rfl, by kernel_rfl, by kernel_rfl⟩
theorem tok353 : TIok Tryz.prog 353 (tt7 353) := ⟨⟨_, Tryz.underlying353, trivial⟩, Tryz.t353, _, by kernel_rfl, rfl, rfl, rfl, by kernel_rfl, by kernel_rfl⟩
theorem tok354 : TIok Tryz.prog 354 (tt7 354) := ⟨⟨_, Tryz.underlying354, ⟨rfl, rfl⟩⟩, Tryz.t354, _, by kernel_rfl, rfl, rfl, rfl, by kernel_rfl, by kernel_rfl⟩
theorem tok355 : TIok Tryz.prog 355 (tt7 355) := ⟨⟨_, Tryz.underlying355, trivial⟩, Tryz.t355, _, by kernel_rfl, rfl, rfl, rfl, by kernel_rfl, by kernel_rfl⟩
theorem tok356 : TIok Tryz.prog 356 (tt7 356) := ⟨⟨_, Tryz.underlying356, trivial⟩, Tryz.t356, _, by kernel_rfl, rfl, rfl, rfl, by kernel_rfl, by kernel_rfl⟩
theorem tok357 : TIok Tryz.prog 357 (tt7 357) := ⟨⟨_, Tryz.underlying357, trivial⟩, Tryz.t357, _, by kernel_rfl, rfl, rfl, rfl, by kernel_rfl, by kernel_rfl⟩
theorem tok358 : TIok Tryz.prog 358 (tt7 358) := ⟨⟨_, Tryz.underlying358, rfl⟩, Tryz.t358, _, by kernel_rfl, rfl, rfl, rfl, by kernel_rfl, by kernel_rfl⟩
theorem tok359 : TIok Tryz.prog 359 (tt7 359) := ⟨⟨_, Tryz.underlying359, trivial⟩, Tryz.t359, _, by kernel_rfl, rfl, rfl, rfl, by kernel_rfl, by kernel_rfl⟩
theorem tok360 : TIok Tryz.prog 360 (tt7 360) := ⟨⟨_, Tryz.underlying360, rfl⟩, Tryz.t360, _, by kernel_rfl, rfl, rfl, rfl, by kernel_rfl, by kernel_rfl⟩
theorem tok361 : TIok Tryz.prog 361 (tt7 361) := ⟨⟨_, Tryz.underlying361, trivial⟩, Tryz.t361, _, by kernel_rfl, rfl, rfl, rfl, by kernel_rfl, by kernel_rfl⟩
theorem tok362 : TIok Tryz.prog 362 (tt7 362) := ⟨⟨_, Tryz.underlying362, trivial⟩, Tryz.t362, _, by kernel_rfl, rfl, rfl, rfl, by kernel_rfl, by kernel_rfl⟩
theorem tok363 : TIok Tryz.prog 363 (tt7 363) := ⟨⟨_, Tryz.underlying363, trivial⟩, Tryz.t363, _, by kernel_rfl, rfl, rfl, rfl, by kernel_rfl, by kernel_rfl⟩
theorem tok364 : TIok Tryz.prog 364 (tt7 364) := ⟨⟨_, Tryz.underlying364, trivial⟩, Tryz.t364, _, by kernel_rfl, rfl, rfl, rfl, by kernel_rfl, by kernel_rfl⟩
theorem tok365 : TIok Tryz.prog 365 (tt7 365) := ⟨⟨_, Tryz.underlying365, rfl⟩, Tryz.t365, _, by kernel_rfl, rfl, rfl, rfl, by kernel_rfl, by kernel_rfl⟩
theorem tok366 : TIok Tryz.prog 366 (tt7 366) := ⟨⟨_, Tryz.underlying366, rfl⟩, Tryz.t366, _, by kernel_rfl, rfl, rfl, rfl, by kernel_rfl, by kernel_rfl⟩
theorem tok368 : TIok Tryz.prog 368 (tt7 368) := ⟨⟨_, Tryz.underlying368, trivial⟩, Tryz.t368, _, by kernel_rfl, rfl, rfl, rfl, by kernel_rfl, by kernel_rfl⟩
theorem tok369 : TIok Tryz.prog 369 (tt7 369) := ⟨⟨_, Tryz.underlying369, rfl⟩, Tryz.t369, _, by kernel_rfl, rfl, rfl, rfl, by kernel_rfl, by kernel_rfl⟩
theorem tok370 : TIok Tryz.prog 370 (tt7 370) := ⟨⟨_, Tryz.underlying370, rfl⟩, Tryz.t370, _, by kernel_rfl, rfl, rfl, rfl, by kernel_rfl, by kernel_rfl⟩
theorem tok371 : TIok Tryz.prog 371 (tt7 371) := ⟨⟨_, Tryz.underlying371, trivial⟩, Tryz.t371, _, by kernel_rfl, rfl, rfl, rfl, by kernel_rfl, by kernel_rfl⟩
theorem tok372 : TIok Tryz.prog 372 (tt7 372) := ⟨⟨_, Tryz.underlying372, trivial⟩, Tryz.t372, _, by kernel_rfl, rfl, rfl, rfl, by kernel_rfl, by kernel_rfl⟩
theorem tok373 : TIok Tryz.prog 373 (tt7 373) := ⟨⟨_, Tryz.underlying373, trivial⟩, Tryz.t373, _, by kernel_rfl, rfl, rfl, rfl, by kernel_rfl, by kernel_rfl⟩
theorem tok374 : TIok Tryz.prog 374 (tt7 374) := ⟨⟨_, Tryz.underlying374, trivial⟩, Tryz.t374, _, by kernel_rfl, rfl, rfl, rfl, by kernel_rfl, by kernel_rfl⟩
theorem tok375 : TIok Tryz.prog 375 (tt7 375) := ⟨⟨_, Tryz.underlying375, trivial⟩, Tryz.t375, _, by kernel_rfl, rfl, rfl, rfl, by kernel_rfl, by kernel_rfl⟩
theorem tok376 : TIok Tryz.prog 376 (tt7 376) := ⟨⟨_, Tryz.underlying376, ⟨rfl, rfl⟩⟩, Tryz.t376, _, by kernel_rfl, rfl, rfl, rfl, by kernel_rfl, by kernel_rfl⟩
theorem tok377 : TIok Tryz.prog 377 (tt7 377) := ⟨⟨_, Tryz.underlying377, trivial⟩, Tryz.t377, _, by kernel_rfl, rfl, rfl, rfl, by kernel_rfl, by kernel_rfl⟩
theorem tok378 : TIok Tryz.prog 378 (tt7 378) := ⟨⟨_, Tryz.underlying378, ⟨rfl, rfl⟩⟩, Tryz.t378, _, by kernel_rfl, rfl, rfl, rfl, by kernel_rfl, by kernel_rfl⟩
theorem tok379 : TIok Tryz.prog 379 (tt7 379) := ⟨⟨_, Tryz.underlying379, trivial⟩, Tryz.t379, _, by kernel_rfl, rfl, rfl, rfl, by kernel_rfl, by kernel_rfl⟩
theorem tok380 : TIok Tryz.prog 380 (tt8 380) := ⟨⟨_, Tryz.underlying380, trivial⟩, Tryz.t380, _, by kernel_rfl, rfl, rfl, rfl, by kernel_rfl, by kernel_rfl⟩
theorem tok381 : TIok Tryz.prog 381 (tt8 381) := ⟨⟨_, Tryz.underlying381, trivial⟩, Tryz.t381, _, by kernel_rfl, rfl, rfl, rfl, by kernel_rfl, by kernel_rfl⟩
theorem tok382 : TIok Tryz.prog 382 (tt8 382) := ⟨⟨_, Tryz.underlying382, trivial⟩, Tryz.t382, _, by kernel_rfl, rfl, rfl, rfl, by kernel_rfl, by kernel_rfl⟩
theorem tok383 : TIok Tryz.prog 383 (tt8 383) := ⟨⟨_, Tryz.underlying383, trivial⟩, Tryz.t383, _, by kernel_rfl, rfl, rfl, rfl, by kernel_rfl, by kernel_rfl⟩
theorem tok384 : TIok Tryz.prog 384 (tt8 384) := ⟨⟨_, Tryz.underlying384, trivial⟩, Tryz.t384, _, by kernel_rfl, rfl, rfl, rfl, by kernel_rfl, by kernel_rfl⟩
theorem tok385 : TIok Tryz.prog 385 (tt8 385) := ⟨⟨_, Tryz.underlying385, trivial⟩, Tryz.t385, _, by kernel_rfl, rfl, rfl, rfl, by kernel_rfl, by kernel_rfl⟩
theorem tok391 : TIok Tryz.prog 391 (tt8 391) := ⟨⟨_, Tryz.underlying391, rfl⟩, Tryz.t391, _, by kernel_rfl, rfl, rfl, rfl, by kernel_rfl, by kernel_rfl⟩
theorem tok392 : TIok Tryz.prog 392 (tt8 392) := ⟨⟨_, Tryz.underlying392, rfl⟩, Tryz.t392, _, by kernel_rfl, rfl, rfl, rfl, by kernel_rfl, by kernel_rfl⟩
theorem tok393 : TIok Tryz.prog 393 (tt8 393) := ⟨⟨_, Tryz.underlying393, trivial⟩, Tryz.t393, _, by kernel_rfl, rfl, rfl, rfl, by kernel_rfl, by kernel_rfl⟩
theorem tok394 : TIok Tryz.prog 394 (tt8 394) := ⟨⟨_, Tryz.underlying394, rfl⟩, Tryz.t394, _, by kernel_rfl, rfl, rfl, rfl, by kernel_rfl, by kernel_rfl⟩
theorem tok395 : TIok Tryz.prog 395 (tt8 395) := ⟨⟨_, Tryz.underlying395, rfl⟩, Tryz.t395, _, by kernel_rfl, rfl, rfl, rfl, by kernel_rfl, by kernel_rfl⟩
theorem tok396 : TIok Tryz.prog 396 (tt8 396) := ⟨⟨_, Tryz.underlying396, rfl⟩, Tryz.t396, _, by kernel_rfl, rfl, rfl, rfl, by kernel_rfl, by kernel_rfl⟩
theorem tok397 : TIok Tryz.prog 397 (tt8 397) := ⟨⟨_, Tryz.underlying397, rfl⟩, Tryz.t397, _, by kernel_rfl, rfl, rfl, rfl, by kernel_rfl, by kernel_rfl⟩
theorem tok398 : TIok Tryz.prog 398 (tt8 398) := ⟨⟨_, Tryz.underlying398, rfl⟩, Tryz.t398, _, by kernel_rfl, rfl, rfl, rfl, by kernel_rfl, by kernel_rfl⟩
theorem tok399 : TIok Tryz.prog 399 (tt8 399) := ⟨⟨_, Tryz.underlying399, trivial⟩, Tryz.t399, _, by kernel_rfl, rfl, rfl, rfl, by kernel_rfl, by kernel_rfl⟩
theorem tok400 : TIok Tryz.prog 400 (tt8 400) := ⟨⟨_, Tryz.underlying400, trivial⟩, Tryz.t400, _, by kernel_rfl, rfl, rfl, rfl, by kernel_rfl, by kernel_rfl⟩
theorem tok401 : TIok Tryz.prog 401 (tt8 401) := ⟨⟨_, Tryz.underlying401, trivial⟩, Tryz.t401, _, by kernel_rfl, rfl, rfl, rfl, by kernel_rfl, by kernel_rfl⟩
theorem tok402 : TIok Tryz.prog 402 (tt8 402) := ⟨⟨_, Tryz.underlying402, trivial⟩, Tryz.t402, _, by kernel_rfl, rfl, rfl, rfl, by kernel_rfl, by kernel_rfl⟩
theorem tok403 : TIok Tryz.prog 403 (tt8 403) := ⟨⟨_, Tryz.underlying403, trivial⟩, Tryz.t403, _, by kernel_rfl, rfl, rfl, rfl, by kernel_rfl, by kernel_rfl⟩
theorem tok404 : TIok Tryz.prog 404 (tt8 404) := ⟨⟨_, Tryz.underlying404, trivial⟩, Tryz.t404, _, by kernel_rfl, rfl, rfl, rfl, by kernel_rfl, by kernel_rfl⟩
theorem tt0_ok (t : TypeId) : (tt0 t).d = .bad ∨ TIok Tryz.prog t (tt0 t) := by
  unfold tt0; split
  · exact .inr tok1
  · exact .inr tok2
  · exact .inr tok3
  · exact .inr tok4
  · exact .inr tok5
  · exact .inr tok6
  · exact .inr tok7
  · exact .inr tok8
  · exact .inr tok12
  · exact .inr tok15
  · exact .inr tok16
  · exact .inr tok17
  · exact .inr tok18
  · exact .inr tok19
  · exact .inr tok21
  · exact .inr tok22
  · exact .inr tok23
  · exact .inr tok24
  · exact .inr tok26
  · exact .inr tok27
  · exact .inr tok28
  · exact .inr tok29
  · exact .inr tok30
  · exact .inr tok31
  · exact .inr tok32
  · exact .inr tok33
  · exact .inr tok34
  · exact .inr tok35
  · exact .inr tok36
  · exact .inr tok37
  · exact .inr tok38
  · exact .inr tok39
  · exact .inr tok42
  · exact .inr tok43
  · exact .inr tok44
  · exact .inr tok48
  · exact .inr tok49
  · exact .inr tok50
  · exact .inr tok51
  · exact .inr tok52
  · exact .inl rfl
theorem tt1_ok (t : TypeId) : (tt1 t).d = .bad ∨ TIok Tryz.prog t (tt1 t) := by
  unfold tt1; split
  · exact .inr tok54
  · exact .inr tok55
  · exact .inr tok56
  · exact .inr tok57
  · exact .inr tok58
  · exact .inr tok59
  · exact .inr tok60
  · exact .inr tok61
  · exact .inr tok62
  · exact .inr tok63
  · exact .inr tok64
  · exact .inr tok65
  · exact .inr tok66
  · exact .inr tok67
  · exact .inr tok68
  · exact .inr tok69
  · exact .inr tok70
  · exact .inr tok71
  · exact .inr tok72
  · exact .inr tok73
  · exact .inr tok74
  · exact .inr tok75
  · exact .inr tok76
  · exact .inr tok77
  · exact .inr tok78
  · exact .inr tok79
  · exact .inr tok80
  · exact .inr tok81
  · exact .inr tok82
  · exact .inr tok83
  · exact .inr tok84
  · exact .inr tok85
  · exact .inr tok86
  · exact .inr tok87
  · exact .inr tok89
  · exact .inr tok90
  · exact .inr tok91
  · exact .inr tok92
  · exact .inr tok93
  · exact .inr tok94
  · exact .inl rfl
theorem tt2_ok (t : TypeId) : (tt2 t).d = .bad ∨ TIok Tryz.prog t (tt2 t) := by
  unfold tt2; split
  · exact .inr tok95
  · exact .inr tok96
  · exact .inr tok100
  · exact .inr tok105
  · exact .inr tok106
  · exact .inr tok107
  · exact .inr tok108
  · exact .inr tok109
  · exact .inr tok110
  · exact .inr tok111
  · exact .inr tok112
  · exact .inr tok113
  · exact .inr tok114
  · exact .inr tok115
  · exact .inr tok116
  · exact .inr tok117
  · exact .inr tok118
  · exact .inr tok119
  · exact .inr tok120
  · exact .inr tok121
  · exact .inr tok122
  · exact .inr tok123
  · exact .inr tok125
  · exact .inr tok126
  · exact .inr tok127
  · exact .inr tok128
  · exact .inr tok129
  · exact .inr tok130
  · exact .inr tok132
  · exact .inr tok133
  · exact .inr tok134
  · exact .inr tok135
  · exact .inr tok136
  · exact .inr tok137
  · exact .inr tok138
  · exact .inr tok139
  · exact .inr tok140
  · exact .inr tok141
  · exact .inr tok142
  · exact .inr tok143
  · exact .inl rfl
theorem tt3_ok (t : TypeId) : (tt3 t).d = .bad ∨ TIok Tryz.prog t (tt3 t) := by
  unfold tt3; split
  · exact .inr tok145
  · exact .inr tok146
  · exact .inr tok147
  · exact .inr tok148
  · exact .inr tok149
  · exact .inr tok150
  · exact .inr tok151
  · exact .inr tok152
  · exact .inr tok153
  · exact .inr tok154
  · exact .inr tok155
  · exact .inr tok156
  · exact .inr tok157
  · exact .inr tok158
  · exact .inr tok160
  · exact .inr tok162
  · exact .inr tok163
  · exact .inr tok165
  · exact .inr tok167
  · exact .inr tok168
  · exact .inr tok170
  · exact .inr tok172
  · exact .inr tok174
  · exact .inr tok176
  · exact .inr tok177
  · exact .inr tok179
  · exact .inr tok180
  · exact .inr tok181
  · exact .inr tok182
  · exact .inr tok183
  · exact .inr tok185
  · exact .inr tok186
  · exact .inr tok187
  · exact .inr tok188
  · exact .inr tok189
  · exact .inr tok190
  · exact .inr tok191
  · exact .inr tok192
  · exact .inr tok193
  · exact .inr tok194
  · exact .inl rfl
theorem tt4_ok (t : TypeId) : (tt4 t).d = .bad ∨ TIok Tryz.prog t (tt4 t) := by
  unfold tt4; split
  · exact .inr tok195
  · exact .inr tok197
  · exact .inr tok198
  · exact .inr tok199
  · exact .inr tok200
  · exact .inr tok201
  · exact .inr tok202
  · exact .inr tok203
  · exact .inr tok204
  · exact .inr tok205
  · exact .inr tok206
  · exact .inr tok207
  · exact .inr tok208
  · exact .inr tok209
  · exact .inr tok210
  · exact .inr tok211
  · exact .inr tok212
  · exact .inr tok213
  · exact .inr tok214
  · exact .inr tok215
  · exact .inr tok216
  · exact .inr tok217
  · exact .inr tok218
  · exact .inr tok219
  · exact .inr tok221
  · exact .inr tok222
  · exact .inr tok223
  · exact .inr tok224
  · exact .inr tok225
  · exact .inr tok226
  · exact .inr tok229
  · exact .inr tok230
  · exact .inr tok232
  · exact .inr tok233
  · exact .inr tok234
  · exact .inr tok235
  · exact .inr tok236
  · exact .inr tok237
  · exact .inr tok239
  · exact .inr tok240
  · exact .inl rfl
theorem tt5_ok (t : TypeId) : (tt5 t).d = .bad ∨ TIok Tryz.prog t (tt5 t) := by
  unfold tt5; split
  · exact .inr tok241
  · exact .inr tok243
  · exact .inr tok245
  · exact .inr tok246
  · exact .inr tok247
  · exact .inr tok248
  · exact .inr tok249
  · exact .inr tok251
  · exact .inr tok252
  · exact .inr tok253
  · exact .inr tok255
  · exact .inr tok256
  · exact .inr tok257
  · exact .inr tok258
  · exact .inr tok263
  · exact .inr tok264
  · exact .inr tok265
  · exact .inr tok266
  · exact .inr tok267
  · exact .inr tok268
  · exact .inr tok269
  · exact .inr tok270
  · exact .inr tok271
  · exact .inr tok272
  · exact .inr tok273
  · exact .inr tok274
  · exact .inr tok275
  · exact .inr tok276
  · exact .inr tok277
  · exact .inr tok278
  · exact .inr tok279
  · exact .inr tok280
  · exact .inr tok281
  · exact .inr tok282
  · exact .inr tok283
  · exact .inr tok285
  · exact .inr tok287
  · exact .inr tok288
  · exact .inr tok289
  · exact .inr tok291
  · exact .inl rfl
theorem tt6_ok (t : TypeId) : (tt6 t).d = .bad ∨ TIok Tryz.prog t (tt6 t) := by
  unfold tt6; split
  · exact .inr tok292
  · exact .inr tok293
  · exact .inr tok294
  · exact .inr tok295
  · exact .inr tok296
  · exact .inr tok297
  · exact .inr tok299
  · exact .inr tok300
  · exact .inr tok301
  · exact .inr tok302
  · exact .inr tok303
  · exact .inr tok304
  · exact .inr tok305
  · exact .inr tok306
  · exact .inr tok307
  · exact .inr tok308
  · exact .inr tok309
  · exact .inr tok310
  · exact .inr tok311
  · exact .inr tok312
  · exact .inr tok313
  · exact .inr tok314
  · exact .inr tok318
  · exact .inr tok319
  · exact .inr tok320
  · exact .inr tok321
  · exact .inr tok322
  · exact .inr tok323
  · exact .inr tok324
  · exact .inr tok325
  · exact .inr tok326
  · exact .inr tok327
  · exact .inr tok328
  · exact .inr tok329
  · exact .inr tok330
  · exact .inr tok332
  · exact .inr tok334
  · exact .inr tok335
  · exact .inr tok336
  · exact .inr tok337
  · exact .inl rfl
theorem tt7_ok (t : TypeId) : (tt7 t).d = .bad ∨ TIok Tryz.prog t (tt7 t) := by
  unfold tt7; split
  · exact .inr tok338
  · exact .inr tok339
  · exact .inr tok340
  · exact .inr tok341
  · exact .inr tok342
  · exact .inr tok343
  · exact .inr tok344
  · exact .inr tok345
  · exact .inr tok346
  · exact .inr tok347
  · exact .inr tok348
  · exact .inr tok349
  · exact .inr tok351
  · exact .inr tok352
  · exact .inr tok353
  · exact .inr tok354
  · exact .inr tok355
  · exact .inr tok356
  · exact .inr tok357
  · exact .inr tok358
  · exact .inr tok359
  · exact .inr tok360
  · exact .inr tok361
  · exact .inr tok362
  · exact .inr tok363
  · exact .inr tok364
  · exact .inr tok365
  · exact .inr tok366
  · exact .inr tok368
  · exact .inr tok369
  · exact .inr tok370
  · exact .inr tok371
  · exact .inr tok372
  · exact .inr tok373
  · exact .inr tok374
  · exact .inr tok375
  · exact .inr tok376
  · exact .inr tok377
  · exact .inr tok378
  · exact .inr tok379
  · exact .inl rfl
theorem tt8_ok (t : TypeId) : (tt8 t).d = .bad ∨ TIok Tryz.prog t (tt8 t) := by
  unfold tt8; split
  · exact .inr tok380
  · exact .inr tok381
  · exact .inr tok382
  · exact .inr tok383
  · exact .inr tok384
  · exact .inr tok385
  · exact .inr tok391
  · exact .inr tok392
  · exact .inr tok393
  · exact .inr tok394
  · exact .inr tok395
  · exact .inr tok396
  · exact .inr tok397
  · exact .inr tok398
  · exact .inr tok399
  · exact .inr tok400
  · exact .inr tok401
  · exact .inr tok402
  · exact .inr tok403
  · exact .inr tok404
  · exact .inl rfl
theorem tt_ok : TTok Tryz.prog := fun t => by
  unfold tt
  split
  · exact tt0_ok t
  split
  · exact tt1_ok t
  split
  · exact tt2_ok t
  split
  · exact tt3_ok t
  split
  · exact tt4_ok t
  split
  · exact tt5_ok t
  split
  · exact tt6_ok t
  split
  · exact tt7_ok t
  split
  · exact tt8_ok t
  exact .inl rfl
theorem entered0_ok (f : FuncId) (hf : entered0 f = true) (args : Array Value) (w : World) : (callFunc f args).run Tryz.prog w = .ok (.enter f args) w := by
  unfold entered0 at hf; split at hf
  · exact Tryz.call2 args w
  · exact Tryz.call3 args w
  · exact Tryz.call4 args w
  · exact Tryz.call5 args w
  · exact Tryz.call6 args w
  · exact Tryz.call7 args w
  · exact Tryz.call8 args w
  · exact Tryz.call9 args w
  · exact Tryz.call10 args w
  · exact Tryz.call11 args w
  · exact Tryz.call12 args w
  · exact Tryz.call13 args w
  · exact Tryz.call14 args w
  · exact Tryz.call15 args w
  · exact Tryz.call16 args w
  · exact Tryz.call17 args w
  · exact Tryz.call18 args w
  · exact Tryz.call19 args w
  · exact Tryz.call20 args w
  · exact Tryz.call21 args w
  · exact Tryz.call22 args w
  · exact Tryz.call23 args w
  · exact Tryz.call24 args w
  · exact Tryz.call25 args w
  · exact Tryz.call26 args w
  · exact Tryz.call27 args w
  · exact Tryz.call28 args w
  · exact Tryz.call29 args w
  · exact Tryz.call30 args w
  · exact Tryz.call31 args w
  · exact Tryz.call32 args w
  · exact Tryz.call33 args w
  · exact Tryz.call34 args w
  · exact Tryz.call35 args w
  · exact Tryz.call36 args w
  · exact Tryz.call37 args w
  · exact Tryz.call38 args w
  · exact Tryz.call39 args w
  · exact Tryz.call40 args w
  · exact Tryz.call41 args w
  · cases hf
theorem entered1_ok (f : FuncId) (hf : entered1 f = true) (args : Array Value) (w : World) : (callFunc f args).run Tryz.prog w = .ok (.enter f args) w := by
  unfold entered1 at hf; split at hf
  · exact Tryz.call42 args w
  · exact Tryz.call43 args w
  · exact Tryz.call44 args w
  · exact Tryz.call45 args w
  · exact Tryz.call46 args w
  · exact Tryz.call47 args w
  · exact Tryz.call48 args w
  · exact Tryz.call49 args w
  · exact Tryz.call50 args w
  · exact Tryz.call51 args w
  · exact Tryz.call52 args w
  · exact Tryz.call53 args w
  · exact Tryz.call54 args w
  · exact Tryz.call55 args w
  · exact Tryz.call56 args w
  · exact Tryz.call57 args w
  · exact Tryz.call58 args w
  · exact Tryz.call59 args w
  · exact Tryz.call60 args w
  · exact Tryz.call61 args w
  · exact Tryz.call62 args w
  · exact Tryz.call63 args w
  · exact Tryz.call64 args w
  · exact Tryz.call65 args w
  · exact Tryz.call66 args w
  · exact Tryz.call67 args w
  · exact Tryz.call68 args w
  · exact Tryz.call69 args w
  · exact Tryz.call70 args w
  · exact Tryz.call71 args w
  · exact Tryz.call72 args w
  · exact Tryz.call73 args w
  · exact Tryz.call74 args w
  · exact Tryz.call75 args w
  · exact Tryz.call76 args w
  · exact Tryz.call77 args w
  · exact Tryz.call78 args w
  · exact Tryz.call79 args w
  · exact Tryz.call80 args w
  · exact Tryz.call81 args w
  · cases hf
theorem entered2_ok (f : FuncId) (hf : entered2 f = true) (args : Array Value) (w : World) : (callFunc f args).run Tryz.prog w = .ok (.enter f args) w := by
  unfold entered2 at hf; split at hf
  · exact Tryz.call82 args w
  · exact Tryz.call83 args w
  · exact Tryz.call84 args w
  · exact Tryz.call85 args w
  · exact Tryz.call86 args w
  · exact Tryz.call87 args w
  · exact Tryz.call88 args w
  · exact Tryz.call89 args w
  · exact Tryz.call90 args w
  · exact Tryz.call91 args w
  · exact Tryz.call92 args w
  · exact Tryz.call93 args w
  · exact Tryz.call94 args w
  · exact Tryz.call96 args w
  · exact Tryz.call98 args w
  · exact Tryz.call99 args w
  · exact Tryz.call100 args w
  · exact Tryz.call101 args w
  · exact Tryz.call102 args w
  · exact Tryz.call103 args w
  · exact Tryz.call104 args w
  · exact Tryz.call105 args w
  · exact Tryz.call106 args w
  · exact Tryz.call107 args w
  · exact Tryz.call108 args w
  · exact Tryz.call109 args w
  · exact Tryz.call110 args w
  · exact Tryz.call111 args w
  · exact Tryz.call112 args w
  · exact Tryz.call113 args w
  · exact Tryz.call114 args w
  · exact Tryz.call115 args w
  · exact Tryz.call116 args w
  · exact Tryz.call117 args w
  · exact Tryz.call118 args w
  · exact Tryz.call119 args w
  · exact Tryz.call120 args w
  · exact Tryz.call121 args w
  · exact Tryz.call122 args w
  · exact Tryz.call123 args w
  · cases hf
theorem entered3_ok (f : FuncId) (hf : entered3 f = true) (args : Array Value) (w : World) : (callFunc f args).run Tryz.prog w = .ok (.enter f args) w := by
  unfold entered3 at hf; split at hf
  · exact Tryz.call124 args w
  · exact Tryz.call125 args w
  · exact Tryz.call126 args w
  · exact Tryz.call127 args w
  · exact Tryz.call128 args w
  · exact Tryz.call129 args w
  · exact Tryz.call130 args w
  · exact Tryz.call131 args w
  · exact Tryz.call132 args w
  · exact Tryz.call133 args w
  · exact Tryz.call134 args w
  · exact Tryz.call135 args w
  · exact Tryz.call136 args w
  · exact Tryz.call137 args w
  · exact Tryz.call138 args w
  · exact Tryz.call139 args w
  · exact Tryz.call140 args w
  · exact Tryz.call141 args w
  · exact Tryz.call142 args w
  · exact Tryz.call144 args w
  · exact Tryz.call145 args w
  · exact Tryz.call146 args w
  · exact Tryz.call147 args w
  · exact Tryz.call148 args w
  · exact Tryz.call149 args w
  · exact Tryz.call150 args w
  · exact Tryz.call151 args w
  · exact Tryz.call152 args w
  · exact Tryz.call153 args w
  · exact Tryz.call154 args w
  · exact Tryz.call155 args w
  · exact Tryz.call156 args w
  · exact Tryz.call157 args w
  · exact Tryz.call158 args w
  · exact Tryz.call159 args w
  · exact Tryz.call160 args w
  · exact Tryz.call161 args w
  · exact Tryz.call162 args w
  · exact Tryz.call163 args w
  · exact Tryz.call164 args w
  · cases hf
theorem entered4_ok (f : FuncId) (hf : entered4 f = true) (args : Array Value) (w : World) : (callFunc f args).run Tryz.prog w = .ok (.enter f args) w := by
  unfold entered4 at hf; split at hf
  · exact Tryz.call165 args w
  · exact Tryz.call166 args w
  · exact Tryz.call167 args w
  · exact Tryz.call168 args w
  · exact Tryz.call169 args w
  · exact Tryz.call170 args w
  · exact Tryz.call171 args w
  · exact Tryz.call172 args w
  · exact Tryz.call173 args w
  · exact Tryz.call174 args w
  · exact Tryz.call175 args w
  · exact Tryz.call176 args w
  · exact Tryz.call177 args w
  · exact Tryz.call178 args w
  · exact Tryz.call179 args w
  · exact Tryz.call180 args w
  · exact Tryz.call181 args w
  · exact Tryz.call182 args w
  · exact Tryz.call183 args w
  · exact Tryz.call184 args w
  · exact Tryz.call185 args w
  · exact Tryz.call186 args w
  · exact Tryz.call187 args w
  · exact Tryz.call188 args w
  · exact Tryz.call189 args w
  · exact Tryz.call190 args w
  · exact Tryz.call191 args w
  · exact Tryz.call192 args w
  · exact Tryz.call193 args w
  · exact Tryz.call195 args w
  · exact Tryz.call196 args w
  · exact Tryz.call197 args w
  · exact Tryz.call198 args w
  · exact Tryz.call199 args w
  · exact Tryz.call200 args w
  · exact Tryz.call201 args w
  · exact Tryz.call202 args w
  · exact Tryz.call203 args w
  · exact Tryz.call204 args w
  · exact Tryz.call205 args w
  · cases hf
theorem entered5_ok (f : FuncId) (hf : entered5 f = true) (args : Array Value) (w : World) : (callFunc f args).run Tryz.prog w = .ok (.enter f args) w := by
  unfold entered5 at hf; split at hf
  · exact Tryz.call206 args w
  · exact Tryz.call207 args w
  · exact Tryz.call208 args w
  · exact Tryz.call209 args w
  · exact Tryz.call210 args w
  · exact Tryz.call211 args w
  · exact Tryz.call212 args w
  · exact Tryz.call213 args w
  · exact Tryz.call214 args w
  · exact Tryz.call215 args w
  · exact Tryz.call216 args w
  · exact Tryz.call217 args w
  · exact Tryz.call218 args w
  · exact Tryz.call219 args w
  · exact Tryz.call220 args w
  · exact Tryz.call221 args w
  · exact Tryz.call222 args w
  · exact Tryz.call223 args w
  · exact Tryz.call224 args w
  · exact Tryz.call225 args w
  · exact Tryz.call226 args w
  · exact Tryz.call227 args w
  · exact Tryz.call228 args w
  · exact Tryz.call229 args w
  · exact Tryz.call230 args w
  · exact Tryz.call231 args w
  · exact Tryz.call232 args w
  · exact Tryz.call233 args w
  · exact Tryz.call234 args w
  · exact Tryz.call235 args w
  · exact Tryz.call236 args w
  · exact Tryz.call237 args w
  · exact Tryz.call238 args w
  · exact Tryz.call239 args w
  · exact Tryz.call240 args w
  · exact Tryz.call241 args w
  · exact Tryz.call242 args w
  · exact Tryz.call243 args w
  · exact Tryz.call244 args w
  · exact Tryz.call245 args w
  · cases hf
theorem entered6_ok (f : FuncId) (hf : entered6 f = true) (args : Array Value) (w : World) : (callFunc f args).run Tryz.prog w = .ok (.enter f args) w := by
  unfold entered6 at hf; split at hf
  · exact Tryz.call246 args w
  · exact Tryz.call247 args w
  · exact Tryz.call248 args w
  · exact Tryz.call249 args w
  · exact Tryz.call250 args w
  · exact Tryz.call251 args w
  · exact Tryz.call252 args w
  · exact Tryz.call253 args w
  · exact Tryz.call254 args w
  · exact Tryz.call255 args w
  · exact Tryz.call256 args w
  · exact Tryz.call257 args w
  · exact Tryz.call258 args w
  · exact Tryz.call259 args w
  · exact Tryz.call260 args w
  · exact Tryz.call261 args w
  · exact Tryz.call262 args w
  · exact Tryz.call263 args w
  · exact Tryz.call264 args w
  · exact Tryz.call265 args w
  · exact Tryz.call266 args w
  · exact Tryz.call267 args w
  · exact Tryz.call268 args w
  · exact Tryz.call269 args w
  · exact Tryz.call270 args w
  · exact Tryz.call271 args w
  · exact Tryz.call272 args w
  · exact Tryz.call273 args w
  · exact Tryz.call292 args w
  · exact Tryz.call293 args w
  · exact Tryz.call294 args w
  · exact Tryz.call295 args w
  · exact Tryz.call296 args w
  · exact Tryz.call297 args w
  · exact Tryz.call298 args w
  · exact Tryz.call299 args w
  · exact Tryz.call300 args w
  · exact Tryz.call301 args w
  · exact Tryz.call302 args w
  · exact Tryz.call303 args w
  · cases hf
theorem entered7_ok (f : FuncId) (hf : entered7 f = true) (args : Array Value) (w : World) : (callFunc f args).run Tryz.prog w = .ok (.enter f args) w := by
  unfold entered7 at hf; split at hf
  · exact Tryz.call311 args w
  · cases hf
theorem ent_ok : Enters Tryz.prog := ⟨fun f hf args w => (by
  unfold entered at hf
  split at hf
  · exact entered0_ok f hf args w
  split at hf
  · exact entered1_ok f hf args w
  split at hf
  · exact entered2_ok f hf args w
  split at hf
  · exact entered3_ok f hf args w
  split at hf
  · exact entered4_ok f hf args w
  split at hf
  · exact entered5_ok f hf args w
  split at hf
  · exact entered6_ok f hf args w
  split at hf
  · exact entered7_ok f hf args w
  cases hf), by kernel_rfl, fun f hf => by
  unfold ext at hf; split at hf
  · rfl
  · rfl
  · exact absurd rfl hf, fun f hf args w => by
  unfold ext at hf; split at hf
  · exact run_callFunc_extern Tryz.func97 (by kernel_rfl) (by kernel_rfl) (by kernel_rfl) (e := extE 2) (by kernel_rfl) args w
  · exact run_callFunc_extern Tryz.func143 (by kernel_rfl) (by kernel_rfl) (by kernel_rfl) (e := extE 1) (by kernel_rfl) args w
  · exact absurd rfl hf⟩
end Go.Eng
