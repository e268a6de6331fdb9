/-
  MADE BY PROGRAM (gentt.py): the types and the functions of this translation are as the evaluator takes them.
-/
import Derived.Test.YtgihmigiecfmaaaEngS
import Derived.Test.YtgihmigiecfmaaaProg
import Derived.KernelRfl
namespace Go.Eng
open Go Go.Proofs
set_option maxHeartbeats 4000000

theorem tok1 : TIok Try.prog 1 (tt0 1) := ⟨⟨_, Try.underlying1, trivial⟩, Try.t1, _, by kernel_rfl, rfl, rfl, rfl, by kernel_rfl, by kernel_rfl⟩
theorem tok2 : TIok Try.prog 2 (tt0 2) := ⟨⟨_, Try.underlying2, rfl⟩, Try.t2, _, by kernel_rfl, rfl, rfl, rfl, by kernel_rfl, by kernel_rfl⟩
theorem tok3 : TIok Try.prog 3 (tt0 3) := ⟨⟨_, Try.underlying3, rfl⟩, Try.t3, _, by kernel_rfl, rfl, rfl, rfl, by kernel_rfl, by kernel_rfl⟩
theorem tok4 : TIok Try.prog 4 (tt0 4) := ⟨⟨_, Try.underlying4, trivial⟩, Try.t4, _, by kernel_rfl, rfl, rfl, rfl, by kernel_rfl, by kernel_rfl⟩
theorem tok5 : TIok Try.prog 5 (tt0 5) := ⟨⟨_, Try.underlying5, rfl⟩, Try.t5, _, by kernel_rfl, rfl, rfl, rfl, by kernel_rfl, by kernel_rfl⟩
theorem tok6 : TIok Try.prog 6 (tt0 6) := ⟨⟨_, Try.underlying6, rfl⟩, Try.t6, _, by kernel_rfl, rfl, rfl, rfl, by kernel_rfl, by kernel_rfl⟩
theorem tok7 : TIok Try.prog 7 (tt0 7) := ⟨⟨_, Try.underlying7, rfl⟩, Try.t7, _, by kernel_rfl, rfl, rfl, rfl, by kernel_rfl, by kernel_rfl⟩
theorem tok8 : TIok Try.prog 8 (tt0 8) := ⟨⟨_, Try.underlying8, rfl⟩, Try.t8, _, by kernel_rfl, rfl, rfl, rfl, by kernel_rfl, by kernel_rfl⟩
theorem tok9 : TIok Try.prog 9 (tt0 9) := ⟨⟨_, Try.underlying9, trivial⟩, Try.t9, _, by kernel_rfl, rfl, rfl, rfl, by kernel_rfl, by kernel_rfl⟩
theorem tok10 : TIok Try.prog 10 (tt0 10) := ⟨⟨_, Try.underlying10, trivial⟩, Try.t10, _, by kernel_rfl, rfl, rfl, rfl, by kernel_rfl, by kernel_rfl⟩
theorem tok11 : TIok Try.prog 11 (tt0 11) := ⟨⟨_, Try.underlying11, trivial⟩, Try.t11, _, by kernel_rfl, rfl, rfl, rfl, by kernel_rfl, by kernel_rfl⟩
theorem tok12 : TIok Try.prog 12 (tt0 12) := ⟨⟨_, Try.underlying12, rfl⟩, Try.t12, _, by kernel_rfl, rfl, rfl, rfl, by kernel_rfl, by kernel_rfl⟩
theorem tok13 : TIok Try.prog 13 (tt0 13) := ⟨⟨_, Try.underlying13, rfl⟩, Try.t13, _, by kernel_rfl, rfl, rfl, rfl, by kernel_rfl, by kernel_rfl⟩
theorem tok14 : TIok Try.prog 14 (tt0 14) := ⟨⟨_, Try.underlying14, rfl⟩, Try.t14, _, by kernel_rfl, rfl, rfl, rfl, by kernel_rfl, by kernel_rfl⟩
theorem tok15 : TIok Try.prog 15 (tt0 15) := ⟨⟨_, Try.underlying15, rfl⟩, Try.t15, _, by kernel_rfl, rfl, rfl, rfl, by kernel_rfl, by kernel_rfl⟩
theorem tok16 : TIok Try.prog 16 (tt0 16) := ⟨⟨_, Try.underlying16, rfl⟩, Try.t16, _, by kernel_rfl, rfl, rfl, rfl, by kernel_rfl, by kernel_rfl⟩
theorem tok17 : TIok Try.prog 17 (tt0 17) := ⟨⟨_, Try.underlying17, rfl⟩, Try.t17, _, by kernel_rfl, rfl, rfl, rfl, by kernel_rfl, by kernel_rfl⟩
theorem tok18 : TIok Try.prog 18 (tt0 18) := ⟨⟨_, Try.underlying18, rfl⟩, Try.t18, _, by kernel_rfl, rfl, rfl, rfl, by kernel_rfl, by kernel_rfl⟩
theorem tok19 : TIok Try.prog 19 (tt0 19) := ⟨⟨_, Try.underlying19, rfl⟩, Try.t19, _, by kernel_rfl, rfl, rfl, rfl, by kernel_rfl, by kernel_rfl⟩
theorem tok21 : TIok Try.prog 21 (tt0 21) := ⟨⟨_, Try.underlying21, rfl⟩, Try.t21, _, by kernel_rfl, rfl, rfl, rfl, by kernel_rfl, by kernel_rfl⟩
theorem tok22 : TIok Try.prog 22 (tt0 22) := ⟨⟨_, Try.underlying22, rfl⟩, Try.t22, _, by kernel_rfl, rfl, rfl, rfl, by kernel_rfl, by kernel_rfl⟩
theorem tok23 : TIok Try.prog 23 (tt0 23) := ⟨⟨_, Try.underlying23, trivial⟩, Try.t23, _, by kernel_rfl, rfl, rfl, rfl, by kernel_rfl, by kernel_rfl⟩
theorem tok24 : TIok Try.prog 24 (tt0 24) := ⟨⟨_, Try.underlying24, rfl⟩, Try.t24, _, by kernel_rfl, rfl, rfl, rfl, by kernel_rfl, by kernel_rfl⟩
theorem tok25 : TIok Try.prog 25 (tt0 25) := ⟨⟨_, Try.underlying25, rfl⟩, Try.t25, _, by kernel_rfl, rfl, rfl, rfl, by kernel_rfl, by kernel_rfl⟩
theorem tok26 : TIok Try.prog 26 (tt0 26) := ⟨⟨_, Try.underlying26, rfl⟩, Try.t26, _, by kernel_rfl, rfl, rfl, rfl, by kernel_rfl, by kernel_rfl⟩
theorem tok27 : TIok Try.prog 27 (tt0 27) := ⟨⟨_, Try.underlying27, rfl⟩, Try.t27, _, by kernel_rfl, rfl, rfl, rfl, by kernel_rfl, by kernel_rfl⟩
theorem tok28 : TIok Try.prog 28 (tt0 28) := ⟨⟨_, Try.underlying28, rfl⟩, Try.t28, _, by kernel_rfl, rfl, rfl, rfl, by kernel_rfl, by kernel_rfl⟩
theorem tok30 : TIok Try.prog 30 (tt0 30) := ⟨⟨_, Try.underlying30, trivial⟩, Try.t30, _, by kernel_rfl, rfl, rfl, rfl, by kernel_rfl, by kernel_rfl⟩
theorem tok32 : TIok Try.prog 32 (tt0 32) := ⟨⟨_, Try.underlying32, trivial⟩, Try.t32, _, by kernel_rfl, rfl, rfl, rfl, by kernel_rfl, by kernel_rfl⟩
theorem tok33 : TIok Try.prog 33 (tt0 33) := ⟨⟨_, Try.underlying33, trivial⟩, Try.t33, _, by kernel_rfl, rfl, rfl, rfl, by kernel_rfl, by kernel_rfl⟩
theorem tok34 : TIok Try.prog 34 (tt0 34) := ⟨⟨_, Try.underlying34, trivial⟩, Try.t34, _, by kernel_rfl, rfl, rfl, rfl, by kernel_rfl, by kernel_rfl⟩
theorem tok35 : TIok Try.prog 35 (tt0 35) := ⟨⟨_, Try.underlying35, trivial⟩, Try.t35, _, by kernel_rfl, rfl, rfl, rfl, by kernel_rfl, by kernel_rfl⟩
theorem tok36 : TIok Try.prog 36 (tt0 36) := ⟨⟨_, Try.underlying36, trivial⟩, Try.t36, _, by kernel_rfl, rfl, rfl, rfl, by kernel_rfl, by kernel_rfl⟩
theorem tok37 : TIok Try.prog 37 (tt0 37) := ⟨⟨_, Try.underlying37, trivial⟩, Try.t37, _, by kernel_rfl, rfl, rfl, rfl, by kernel_rfl, by kernel_rfl⟩
theorem tok38 : TIok Try.prog 38 (tt0 38) := ⟨⟨_, Try.underlying38, rfl⟩, Try.t38, _, by kernel_rfl, rfl, rfl, rfl, by kernel_rfl, by kernel_rfl⟩
theorem tok39 : TIok Try.prog 39 (tt0 39) := ⟨⟨_, Try.underlying39, rfl⟩, Try.t39, _, by kernel_rfl, rfl, rfl, rfl, by kernel_rfl, by kernel_rfl⟩
theorem tok40 : TIok Try.prog 40 (tt0 40) := ⟨⟨_, Try.underlying40, ⟨rfl, rfl⟩⟩, Try.t40, _, by kernel_rfl, rfl, rfl, rfl, by kernel_rfl, by kernel_rfl⟩
theorem tok41 : TIok Try.prog 41 (tt0 41) := ⟨⟨_, Try.underlying41, ⟨rfl, rfl⟩⟩, Try.t41, _, by kernel_rfl, rfl, rfl, rfl, by kernel_rfl, by kernel_rfl⟩
theorem tok42 : TIok Try.prog 42 (tt0 42) := ⟨⟨_, Try.underlying42, ⟨rfl, rfl⟩⟩, Try.t42, _, by kernel_rfl, rfl, rfl, rfl, by kernel_rfl, by kernel_rfl⟩
theorem tok43 : TIok Try.prog 43 (tt0 43) := ⟨⟨_, Try.underlying43, ⟨rfl, rfl⟩⟩, Try.t43, _, by kernel_rfl, rfl, rfl, rfl, by kernel_rfl, by kernel_rfl⟩
theorem tok44 : TIok Try.prog 44 (tt1 44) := ⟨⟨_, Try.underlying44, rfl⟩, Try.t44, _, by kernel_rfl, rfl, rfl, rfl, by kernel_rfl, by kernel_rfl⟩
theorem tok45 : TIok Try.prog 45 (tt1 45) := ⟨⟨_, Try.underlying45, rfl⟩, Try.t45, _, by kernel_rfl, rfl, rfl, rfl, by kernel_rfl, by kernel_rfl⟩
theorem tok46 : TIok Try.prog 46 (tt1 46) := ⟨⟨_, Try.underlying46, trivial⟩, Try.t46, _, by kernel_rfl, rfl, rfl, rfl, by kernel_rfl, by kernel_rfl⟩
theorem tok47 : TIok Try.prog 47 (tt1 47) := ⟨⟨_, Try.underlying47, trivial⟩, Try.t47, _, by kernel_rfl, rfl, rfl, rfl, by kernel_rfl, by kernel_rfl⟩
theorem tok48 : TIok Try.prog 48 (tt1 48) := ⟨⟨_, Try.underlying48, trivial⟩, Try.t48, _, by kernel_rfl, rfl, rfl, rfl, by kernel_rfl, by kernel_rfl⟩
theorem tok49 : TIok Try.prog 49 (tt1 49) := ⟨⟨_, Try.underlying49, trivial⟩, Try.t49, _, by kernel_rfl, rfl, rfl, rfl, by kernel_rfl, by kernel_rfl⟩
theorem tok50 : TIok Try.prog 50 (tt1 50) := ⟨⟨_, Try.underlying50, trivial⟩, Try.t50, _, by kernel_rfl, rfl, rfl, rfl, by kernel_rfl, by kernel_rfl⟩
theorem tok51 : TIok Try.prog 51 (tt1 51) := ⟨⟨_, Try.underlying51, trivial⟩, Try.t51, _, by kernel_rfl, rfl, rfl, rfl, by kernel_rfl, by kernel_rfl⟩
theorem tok53 : TIok Try.prog 53 (tt1 53) := ⟨⟨_, Try.underlying53, trivial⟩, Try.t53, _, by kernel_rfl, rfl, rfl, rfl, by kernel_rfl, by kernel_rfl⟩
theorem tok55 : TIok Try.prog 55 (tt1 55) := ⟨⟨_, Try.underlying55, trivial⟩, Try.t55, _, by kernel_rfl, rfl, rfl, rfl, by kernel_rfl, by kernel_rfl⟩
theorem tok57 : TIok Try.prog 57 (tt1 57) := ⟨⟨_, Try.underlying57, trivial⟩, Try.t57, _, by kernel_rfl, rfl, rfl, rfl, by kernel_rfl, by kernel_rfl⟩
theorem tok59 : TIok Try.prog 59 (tt1 59) := ⟨⟨_, Try.underlying59, trivial⟩, Try.t59, _, by kernel_rfl, rfl, rfl, rfl, by kernel_rfl, by kernel_rfl⟩
theorem tok60 : TIok Try.prog 60 (tt1 60) := ⟨⟨_, Try.underlying60, rfl⟩, Try.t60, _, by kernel_rfl, rfl, rfl, rfl, by kernel_rfl, by kernel_rfl⟩
theorem tok61 : TIok Try.prog 61 (tt1 61) := ⟨⟨_, Try.underlying61, rfl⟩, Try.t61, _, by kernel_rfl, rfl, rfl, rfl, by kernel_rfl, by kernel_rfl⟩
theorem tok62 : TIok Try.prog 62 (tt1 62) := ⟨⟨_, Try.underlying62, rfl⟩, Try.t62, _, by kernel_rfl, rfl, rfl, rfl, by kernel_rfl, by kernel_rfl⟩
theorem tok63 : TIok Try.prog 63 (tt1 63) := ⟨⟨_, Try.underlying63, ⟨rfl, rfl⟩⟩, Try.t63, _, by kernel_rfl, rfl, rfl, rfl, by kernel_rfl, by kernel_rfl⟩
theorem tok64 : TIok Try.prog 64 (tt1 64) := ⟨⟨_, Try.underlying64, ⟨rfl, rfl⟩⟩, Try.t64, _, by kernel_rfl, rfl, rfl, rfl, by kernel_rfl, by kernel_rfl⟩
theorem tok65 : TIok Try.prog 65 (tt1 65) := ⟨⟨_, Try.underlying65, trivial⟩, Try.t65, _, by kernel_rfl, rfl, rfl, rfl, by kernel_rfl, by kernel_rfl⟩
theorem tok66 : TIok Try.prog 66 (tt1 66) := ⟨⟨_, Try.underlying66, trivial⟩, Try.t66, _, by kernel_rfl, rfl, rfl, rfl, by kernel_rfl, by kernel_rfl⟩
theorem tok67 : TIok Try.prog 67 (tt1 67) := ⟨⟨_, Try.underlying67, trivial⟩, Try.t67, _, by kernel_rfl, rfl, rfl, rfl, by kernel_rfl, by kernel_rfl⟩
theorem tok68 : TIok Try.prog 68 (tt1 68) := ⟨⟨_, Try.underlying68, trivial⟩, Try.t68, _, by kernel_rfl, rfl, rfl, rfl, by kernel_rfl, by kernel_rfl⟩
theorem tok69 : TIok Try.prog 69 (tt1 69) := ⟨⟨_, Try.underlying69, trivial⟩, Try.t69, _, by kernel_rfl, rfl, rfl, rfl, by kernel_rfl, by kernel_rfl⟩
theorem tok70 : TIok Try.prog 70 (tt1 70) := ⟨⟨_, Try.underlying70, trivial⟩, Try.t70, _, by kernel_rfl, rfl, rfl, rfl, by kernel_rfl, by kernel_rfl⟩
theorem tok72 : TIok Try.prog 72 (tt1 72) := ⟨⟨_, Try.underlying72, trivial⟩, Try.t72, _, by kernel_rfl, rfl, rfl, rfl, by kernel_rfl, by kernel_rfl⟩
theorem tok74 : TIok Try.prog 74 (tt1 74) := ⟨⟨_, Try.underlying74, trivial⟩, Try.t74, _, by kernel_rfl, rfl, rfl, rfl, by kernel_rfl, by kernel_rfl⟩
theorem tok76 : TIok Try.prog 76 (tt1 76) := ⟨⟨_, Try.underlying76, trivial⟩, Try.t76, _, by kernel_rfl, rfl, rfl, rfl, by kernel_rfl, by kernel_rfl⟩
theorem tok78 : TIok Try.prog 78 (tt1 78) := ⟨⟨_, Try.underlying78, trivial⟩, Try.t78, _, by kernel_rfl, rfl, rfl, rfl, by kernel_rfl, by kernel_rfl⟩
theorem tok79 : TIok Try.prog 79 (tt1 79) := ⟨⟨_, Try.underlying79, trivial⟩, Try.t79, _, by kernel_rfl, rfl, rfl, rfl, by kernel_rfl, by kernel_rfl⟩
theorem tok80 : TIok Try.prog 80 (tt1 80) := ⟨⟨_, Try.underlying80, trivial⟩, Try.t80, _, by kernel_rfl, rfl, rfl, rfl, by kernel_rfl, by kernel_rfl⟩
theorem tok81 : TIok Try.prog 81 (tt1 81) := ⟨⟨_, Try.underlying81, trivial⟩, Try.t81, _, by kernel_rfl, rfl, rfl, rfl, by kernel_rfl, by kernel_rfl⟩
theorem tok83 : TIok Try.prog 83 (tt1 83) := ⟨⟨_, Try.underlying83, trivial⟩, Try.t83, _, by kernel_rfl, rfl, rfl, rfl, by kernel_rfl, by kernel_rfl⟩
theorem tok85 : TIok Try.prog 85 (tt1 85) := ⟨⟨_, Try.underlying85, trivial⟩, Try.t85, _, by kernel_rfl, rfl, rfl, rfl, by kernel_rfl, by kernel_rfl⟩
theorem tok86 : TIok Try.prog 86 (tt1 86) := ⟨⟨_, Try.underlying86, trivial⟩, Try.t86, _, by kernel_rfl, rfl, rfl, rfl, by kernel_rfl, by kernel_rfl⟩
theorem tok87 : TIok Try.prog 87 (tt1 87) := ⟨⟨_, Try.underlying87, trivial⟩, Try.t87, _, by kernel_rfl, rfl, rfl, rfl, by kernel_rfl, by kernel_rfl⟩
theorem tok88 : TIok Try.prog 88 (tt1 88) := ⟨⟨_, Try.underlying88, trivial⟩, Try.t88, _, by kernel_rfl, rfl, rfl, rfl, by kernel_rfl, by kernel_rfl⟩
theorem tok90 : TIok Try.prog 90 (tt1 90) := ⟨⟨_, Try.underlying90, trivial⟩, Try.t90, _, by kernel_rfl, rfl, rfl, rfl, by kernel_rfl, by kernel_rfl⟩
theorem tok92 : TIok Try.prog 92 (tt1 92) := ⟨⟨_, Try.underlying92, trivial⟩, Try.t92, _, by kernel_rfl, rfl, rfl, rfl, by kernel_rfl, by kernel_rfl⟩
theorem tok93 : TIok Try.prog 93 (tt1 93) := ⟨⟨_, Try.underlying93, trivial⟩, Try.t93, _, by kernel_rfl, rfl, rfl, rfl, by kernel_rfl, by kernel_rfl⟩
theorem tok94 : TIok Try.prog 94 (tt1 94) := ⟨⟨_, Try.underlying94, rfl⟩, Try.t94, _, by kernel_rfl, rfl, rfl, rfl, by kernel_rfl, by kernel_rfl⟩
theorem tok95 : TIok Try.prog 95 (tt1 95) := ⟨⟨_, Try.underlying95, trivial⟩, Try.t95, _, by kernel_rfl, rfl, rfl, rfl, by kernel_rfl, by kernel_rfl⟩
theorem tok96 : TIok Try.prog 96 (tt2 96) := ⟨⟨_, Try.underlying96, rfl⟩, Try.t96, _, by kernel_rfl, rfl, rfl, rfl, by kernel_rfl, by kernel_rfl⟩
theorem tok97 : TIok Try.prog 97 (tt2 97) := ⟨⟨_, Try.underlying97, trivial⟩, Try.t97, _, by kernel_rfl, rfl, rfl, rfl, by kernel_rfl, by kernel_rfl⟩
theorem tok98 : TIok Try.prog 98 (tt2 98) := ⟨⟨_, Try.underlying98, rfl⟩, Try.t98, _, by kernel_rfl, rfl, rfl, rfl, by kernel_rfl, by kernel_rfl⟩
theorem tok99 : TIok Try.prog 99 (tt2 99) := ⟨⟨_, Try.underlying99, rfl⟩, Try.t99, _, by kernel_rfl, rfl, rfl, rfl, by kernel_rfl, by kernel_rfl⟩
theorem tok101 : TIok Try.prog 101 (tt2 101) := ⟨⟨_, Try.underlying101, trivial⟩, Try.t101, _, by kernel_rfl, rfl, rfl, rfl, by kernel_rfl, by kernel_rfl⟩
theorem tok102 : TIok Try.prog 102 (tt2 102) := ⟨⟨_, Try.underlying102, trivial⟩, Try.t102, _, by kernel_rfl, rfl, rfl, rfl, by kernel_rfl, by kernel_rfl⟩
theorem tok103 : TIok Try.prog 103 (tt2 103) := ⟨⟨_, Try.underlying103, trivial⟩, Try.t103, _, by kernel_rfl, rfl, rfl, rfl, by kernel_rfl, by kernel_rfl⟩
theorem tok104 : TIok Try.prog 104 (tt2 104) := ⟨⟨_, Try.underlying104, trivial⟩, Try.t104, _, by kernel_rfl, rfl, rfl, rfl, by kernel_rfl, by kernel_rfl⟩
theorem tok105 : TIok Try.prog 105 (tt2 105) := ⟨⟨_, Try.underlying105, trivial⟩, Try.t105, _, by kernel_rfl, rfl, rfl, rfl, by kernel_rfl, by kernel_rfl⟩
theorem tok106 : TIok Try.prog 106 (tt2 106) := ⟨⟨_, Try.underlying106, trivial⟩, Try.t106, _, by kernel_rfl, rfl, rfl, rfl, by kernel_rfl, by kernel_rfl⟩
theorem tok108 : TIok Try.prog 108 (tt2 108) := ⟨⟨_, Try.underlying108, trivial⟩, Try.t108, _, by kernel_rfl, rfl, rfl, rfl, by kernel_rfl, by kernel_rfl⟩
theorem tok110 : TIok Try.prog 110 (tt2 110) := ⟨⟨_, Try.underlying110, trivial⟩, Try.t110, _, by kernel_rfl, rfl, rfl, rfl, by kernel_rfl, by kernel_rfl⟩
theorem tok112 : TIok Try.prog 112 (tt2 112) := ⟨⟨_, Try.underlying112, trivial⟩, Try.t112, _, by kernel_rfl, rfl, rfl, rfl, by kernel_rfl, by kernel_rfl⟩
theorem tok114 : TIok Try.prog 114 (tt2 114) := ⟨⟨_, Try.underlying114, trivial⟩, Try.t114, _, by kernel_rfl, rfl, rfl, rfl, by kernel_rfl, by kernel_rfl⟩
theorem tok115 : TIok Try.prog 115 (tt2 115) := ⟨⟨_, Try.underlying115, trivial⟩, Try.t115, _, by kernel_rfl, rfl, rfl, rfl, by kernel_rfl, by kernel_rfl⟩
theorem tok116 : TIok Try.prog 116 (tt2 116) := ⟨⟨_, Try.underlying116, trivial⟩, Try.t116, _, by kernel_rfl, rfl, rfl, rfl, by kernel_rfl, by kernel_rfl⟩
theorem tok117 : TIok Try.prog 117 (tt2 117) := ⟨⟨_, Try.underlying117, trivial⟩, Try.t117, _, by kernel_rfl, rfl, rfl, rfl, by kernel_rfl, by kernel_rfl⟩
theorem tok118 : TIok Try.prog 118 (tt2 118) := ⟨⟨_, Try.underlying118, rfl⟩, Try.t118, _, by kernel_rfl, rfl, rfl, rfl, by kernel_rfl, by kernel_rfl⟩
theorem tok119 : TIok Try.prog 119 (tt2 119) := ⟨⟨_, Try.underlying119, trivial⟩, Try.t119, _, by kernel_rfl, rfl, rfl, rfl, by kernel_rfl, by kernel_rfl⟩
theorem tok120 : TIok Try.prog 120 (tt2 120) := ⟨⟨_, Try.underlying120, trivial⟩, Try.t120, _, by kernel_rfl, rfl, rfl, rfl, by kernel_rfl, by kernel_rfl⟩
theorem tok121 : TIok Try.prog 121 (tt2 121) := ⟨⟨_, Try.underlying121, trivial⟩, Try.t121, _, by kernel_rfl, rfl, rfl, rfl, by kernel_rfl, by kernel_rfl⟩
theorem tok122 : TIok Try.prog 122 (tt2 122) := ⟨⟨_, Try.underlying122, trivial⟩, Try.t122, _, by kernel_rfl, rfl, rfl, rfl, by kernel_rfl, by kernel_rfl⟩
theorem tok123 : TIok Try.prog 123 (tt2 123) := ⟨⟨_, Try.underlying123, trivial⟩, Try.t123, _, by kernel_rfl, rfl, rfl, rfl, by kernel_rfl, by kernel_rfl⟩
theorem tok124 : TIok Try.prog 124 (tt2 124) := ⟨⟨_, Try.underlying124, trivial⟩, Try.t124, _, by kernel_rfl, rfl, rfl, rfl, by kernel_rfl, by kernel_rfl⟩
theorem tok125 : TIok Try.prog 125 (tt2 125) := ⟨⟨_, Try.underlying125, rfl⟩, Try.t125, _, by kernel_rfl, rfl, rfl, rfl, by kernel_rfl, by kernel_rfl⟩
theorem tok126 : TIok Try.prog 126 (tt2 126) := ⟨⟨_, Try.underlying126, rfl⟩, Try.t126, _, by kernel_rfl, rfl, rfl, rfl, by kernel_rfl, by kernel_rfl⟩
theorem tok130 : TIok Try.prog 130 (tt2 130) := ⟨⟨_, Try.underlying130, trivial⟩, Try.t130, _, by kernel_rfl, rfl, rfl, rfl, by kernel_rfl, by kernel_rfl⟩
theorem tok131 : TIok Try.prog 131 (tt2 131) := ⟨⟨_, Try.underlying131, rfl⟩, Try.t131, _, by kernel_rfl, rfl, rfl, rfl, by kernel_rfl, by kernel_rfl⟩
theorem tok132 : TIok Try.prog 132 (tt2 132) := ⟨⟨_, Try.underlying132, rfl⟩, Try.t132, _, by kernel_rfl, rfl, rfl, rfl, by kernel_rfl, by kernel_rfl⟩
theorem tok133 : TIok Try.prog 133 (tt2 133) := ⟨⟨_, Try.underlying133, rfl⟩, Try.t133, _, by kernel_rfl, rfl, rfl, rfl, by kernel_rfl, by kernel_rfl⟩
theorem tok134 : TIok Try.prog 134 (tt2 134) := ⟨⟨_, Try.underlying134, trivial⟩, Try.t134, _, by kernel_rfl, rfl, rfl, rfl, by kernel_rfl, by kernel_rfl⟩
theorem tok135 : TIok Try.prog 135 (tt2 135) := ⟨⟨_, Try.underlying135, rfl⟩, Try.t135, _, by kernel_rfl, rfl, rfl, rfl, by kernel_rfl, by kernel_rfl⟩
theorem tok136 : TIok Try.prog 136 (tt2 136) := ⟨⟨_, Try.underlying136, rfl⟩, Try.t136, _, by kernel_rfl, rfl, rfl, rfl, by kernel_rfl, by kernel_rfl⟩
theorem tok137 : TIok Try.prog 137 (tt2 137) := ⟨⟨_, Try.underlying137, rfl⟩, Try.t137, _, by kernel_rfl, rfl, rfl, rfl, by kernel_rfl, by kernel_rfl⟩
theorem tok138 : TIok Try.prog 138 (tt2 138) := ⟨⟨_, Try.underlying138, rfl⟩, Try.t138, _, by kernel_rfl, rfl, rfl, rfl, by kernel_rfl, by kernel_rfl⟩
theorem tok139 : TIok Try.prog 139 (tt2 139) := ⟨⟨_, Try.underlying139, rfl⟩, Try.t139, _, by kernel_rfl, rfl, rfl, rfl, by kernel_rfl, by kernel_rfl⟩
theorem tt0_ok (t : TypeId) : (tt0 t).d = .bad ∨ TIok Try.prog t (tt0 t) := by
  unfold tt0; split
  · exact .inr tok1
  · exact .inr tok2
  · exact .inr tok3
  · exact .inr tok4
  · exact .inr tok5
  · exact .inr tok6
  · exact .inr tok7
  · exact .inr tok8
  · exact .inr tok9
  · exact .inr tok10
  · exact .inr tok11
  · exact .inr tok12
  · exact .inr tok13
  · exact .inr tok14
  · exact .inr tok15
  · exact .inr tok16
  · exact .inr tok17
  · exact .inr tok18
  · exact .inr tok19
  · exact .inr tok21
  · exact .inr tok22
  · exact .inr tok23
  · exact .inr tok24
  · exact .inr tok25
  · exact .inr tok26
  · exact .inr tok27
  · exact .inr tok28
  · exact .inr tok30
  · exact .inr tok32
  · exact .inr tok33
  · exact .inr tok34
  · exact .inr tok35
  · exact .inr tok36
  · exact .inr tok37
  · exact .inr tok38
  · exact .inr tok39
  · exact .inr tok40
  · exact .inr tok41
  · exact .inr tok42
  · exact .inr tok43
  · exact .inl rfl
theorem tt1_ok (t : TypeId) : (tt1 t).d = .bad ∨ TIok Try.prog t (tt1 t) := by
  unfold tt1; split
  · exact .inr tok44
  · exact .inr tok45
  · exact .inr tok46
  · exact .inr tok47
  · exact .inr tok48
  · exact .inr tok49
  · exact .inr tok50
  · exact .inr tok51
  · exact .inr tok53
  · exact .inr tok55
  · exact .inr tok57
  · exact .inr tok59
  · exact .inr tok60
  · exact .inr tok61
  · exact .inr tok62
  · exact .inr tok63
  · exact .inr tok64
  · exact .inr tok65
  · exact .inr tok66
  · exact .inr tok67
  · exact .inr tok68
  · exact .inr tok69
  · exact .inr tok70
  · exact .inr tok72
  · exact .inr tok74
  · exact .inr tok76
  · exact .inr tok78
  · exact .inr tok79
  · exact .inr tok80
  · exact .inr tok81
  · exact .inr tok83
  · exact .inr tok85
  · exact .inr tok86
  · exact .inr tok87
  · exact .inr tok88
  · exact .inr tok90
  · exact .inr tok92
  · exact .inr tok93
  · exact .inr tok94
  · exact .inr tok95
  · exact .inl rfl
theorem tt2_ok (t : TypeId) : (tt2 t).d = .bad ∨ TIok Try.prog t (tt2 t) := by
  unfold tt2; split
  · exact .inr tok96
  · exact .inr tok97
  · exact .inr tok98
  · exact .inr tok99
  · exact .inr tok101
  · exact .inr tok102
  · exact .inr tok103
  · exact .inr tok104
  · exact .inr tok105
  · exact .inr tok106
  · exact .inr tok108
  · exact .inr tok110
  · exact .inr tok112
  · exact .inr tok114
  · exact .inr tok115
  · exact .inr tok116
  · exact .inr tok117
  · exact .inr tok118
  · exact .inr tok119
  · exact .inr tok120
  · exact .inr tok121
  · exact .inr tok122
  · exact .inr tok123
  · exact .inr tok124
  · exact .inr tok125
  · exact .inr tok126
  · exact .inr tok130
  · exact .inr tok131
  · exact .inr tok132
  · exact .inr tok133
  · exact .inr tok134
  · exact .inr tok135
  · exact .inr tok136
  · exact .inr tok137
  · exact .inr tok138
  · exact .inr tok139
  · exact .inl rfl
theorem tt_ok : TTok Try.prog := fun t => by
  unfold tt
  split
  · exact tt0_ok t
  split
  · exact tt1_ok t
  split
  · exact tt2_ok t
  exact .inl rfl
theorem entered0_ok (f : FuncId) (hf : entered0 f = true) (args : Array Value) (w : World) : (callFunc f args).run Try.prog w = .ok (.enter f args) w := by
  unfold entered0 at hf; split at hf
  · exact Try.call2 args w
  · exact Try.call3 args w
  · exact Try.call4 args w
  · exact Try.call5 args w
  · exact Try.call6 args w
  · exact Try.call7 args w
  · exact Try.call8 args w
  · exact Try.call9 args w
  · exact Try.call10 args w
  · exact Try.call11 args w
  · exact Try.call12 args w
  · exact Try.call13 args w
  · exact Try.call14 args w
  · exact Try.call15 args w
  · exact Try.call16 args w
  · exact Try.call17 args w
  · exact Try.call18 args w
  · exact Try.call19 args w
  · exact Try.call20 args w
  · exact Try.call21 args w
  · exact Try.call22 args w
  · exact Try.call23 args w
  · exact Try.call24 args w
  · exact Try.call25 args w
  · exact Try.call26 args w
  · exact Try.call27 args w
  · exact Try.call28 args w
  · exact Try.call29 args w
  · exact Try.call30 args w
  · exact Try.call31 args w
  · exact Try.call32 args w
  · exact Try.call33 args w
  · exact Try.call34 args w
  · exact Try.call35 args w
  · exact Try.call36 args w
  · exact Try.call37 args w
  · exact Try.call38 args w
  · exact Try.call39 args w
  · exact Try.call40 args w
  · exact Try.call41 args w
  · cases hf
theorem entered1_ok (f : FuncId) (hf : entered1 f = true) (args : Array Value) (w : World) : (callFunc f args).run Try.prog w = .ok (.enter f args) w := by
  unfold entered1 at hf; split at hf
  · exact Try.call42 args w
  · exact Try.call43 args w
  · exact Try.call44 args w
  · exact Try.call45 args w
  · exact Try.call46 args w
  · exact Try.call47 args w
  · exact Try.call48 args w
  · exact Try.call49 args w
  · exact Try.call50 args w
  · exact Try.call51 args w
  · exact Try.call52 args w
  · exact Try.call53 args w
  · exact Try.call54 args w
  · exact Try.call55 args w
  · exact Try.call56 args w
  · exact Try.call57 args w
  · exact Try.call58 args w
  · exact Try.call59 args w
  · exact Try.call60 args w
  · exact Try.call61 args w
  · exact Try.call62 args w
  · exact Try.call63 args w
  · exact Try.call64 args w
  · exact Try.call65 args w
  · exact Try.call66 args w
  · exact Try.call67 args w
  · exact Try.call68 args w
  · exact Try.call69 args w
  · exact Try.call70 args w
  · exact Try.call71 args w
  · exact Try.call72 args w
  · exact Try.call73 args w
  · exact Try.call74 args w
  · exact Try.call75 args w
  · exact Try.call76 args w
  · exact Try.call77 args w
  · exact Try.call78 args w
  · exact Try.call79 args w
  · exact Try.call80 args w
  · exact Try.call81 args w
  · cases hf
theorem entered2_ok (f : FuncId) (hf : entered2 f = true) (args : Array Value) (w : World) : (callFunc f args).run Try.prog w = .ok (.enter f args) w := by
  unfold entered2 at hf; split at hf
  · exact Try.call82 args w
  · exact Try.call83 args w
  · cases hf
theorem ent_ok : Enters Try.prog := ⟨fun f hf args w => (by
  unfold entered at hf
  split at hf
  · exact entered0_ok f hf args w
  split at hf
  · exact entered1_ok f hf args w
  split at hf
  · exact entered2_ok f hf args w
  cases hf), by kernel_rfl, fun f hf => by
  unfold ext at hf; split at hf
  · exact absurd rfl hf, fun t ht => by
  unfold eqT at ht; split at ht
  · exact ⟨by kernel_rfl, by kernel_rfl⟩
  · exact absurd ht (by decide), fun f hf args w => by
  unfold ext at hf; split at hf
  · exact absurd rfl hf⟩
end Go.Eng
