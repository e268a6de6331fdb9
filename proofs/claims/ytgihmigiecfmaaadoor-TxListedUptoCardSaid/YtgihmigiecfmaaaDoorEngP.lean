import Derived.Test.YtgihmigiecfmaaaDoorEngS
import Derived.Test.YtgihmigiecfmaaaDoorProg
import Derived.KernelRfl
namespace Go.Eng
open Go Go.Proofs
set_option maxHeartbeats 4000000
theorem tok1 : TIok Tryd.prog 1 (tt0 1) := ⟨⟨_, Tryd.underlying1, trivial⟩, Tryd.t1, _, by kernel_rfl, rfl, rfl, rfl, by kernel_rfl, by kernel_rfl⟩
theorem tok2 : TIok Tryd.prog 2 (tt0 2) := ⟨⟨_, Tryd.underlying2, rfl⟩, Tryd.t2, _, by kernel_rfl, rfl, rfl, rfl, by kernel_rfl, by kernel_rfl⟩
theorem tok3 : TIok Tryd.prog 3 (tt0 3) := ⟨⟨_, Tryd.underlying3, rfl⟩, Tryd.t3, _, by kernel_rfl, rfl, rfl, rfl, by kernel_rfl, by kernel_rfl⟩
theorem tok4 : TIok Tryd.prog 4 (tt0 4) := ⟨⟨_, Tryd.underlying4, trivial⟩, Tryd.t4, _, by kernel_rfl, rfl, rfl, rfl, by kernel_rfl, by kernel_rfl⟩
theorem tok5 : TIok Tryd.prog 5 (tt0 5) := ⟨⟨_, Tryd.underlying5, rfl⟩, Tryd.t5, _, by kernel_rfl, rfl, rfl, rfl, by kernel_rfl, by kernel_rfl⟩
theorem tok6 : TIok Tryd.prog 6 (tt0 6) := ⟨⟨_, Tryd.underlying6, rfl⟩, Tryd.t6, _, by kernel_rfl, rfl, rfl, rfl, by kernel_rfl, by kernel_rfl⟩
theorem tok7 : TIok Tryd.prog 7 (tt0 7) := ⟨⟨_, Tryd.underlying7, rfl⟩, Tryd.t7, _, by kernel_rfl, rfl, rfl, rfl, by kernel_rfl, by kernel_rfl⟩
theorem tok8 : TIok Tryd.prog 8 (tt0 8) := ⟨⟨_, Tryd.underlying8, rfl⟩, Tryd.t8, _, by kernel_rfl, rfl, rfl, rfl, by kernel_rfl, by kernel_rfl⟩
theorem tok9 : TIok Tryd.prog 9 (tt0 9) := ⟨⟨_, Tryd.underlying9, trivial⟩, Tryd.t9, _, by kernel_rfl, rfl, rfl, rfl, by kernel_rfl, by kernel_rfl⟩
theorem tok10 : TIok Tryd.prog 10 (tt0 10) := ⟨⟨_, Tryd.underlying10, trivial⟩, Tryd.t10, _, by kernel_rfl, rfl, rfl, rfl, by kernel_rfl, by kernel_rfl⟩
theorem tok11 : TIok Tryd.prog 11 (tt0 11) := ⟨⟨_, Tryd.underlying11, trivial⟩, Tryd.t11, _, by kernel_rfl, rfl, rfl, rfl, by kernel_rfl, by kernel_rfl⟩
theorem tok12 : TIok Tryd.prog 12 (tt0 12) := ⟨⟨_, Tryd.underlying12, rfl⟩, Tryd.t12, _, by kernel_rfl, rfl, rfl, rfl, by kernel_rfl, by kernel_rfl⟩
theorem tok13 : TIok Tryd.prog 13 (tt0 13) := ⟨⟨_, Tryd.underlying13, rfl⟩, Tryd.t13, _, by kernel_rfl, rfl, rfl, rfl, by kernel_rfl, by kernel_rfl⟩
theorem tok14 : TIok Tryd.prog 14 (tt0 14) := ⟨⟨_, Tryd.underlying14, rfl⟩, Tryd.t14, _, by kernel_rfl, rfl, rfl, rfl, by kernel_rfl, by kernel_rfl⟩
theorem tok15 : TIok Tryd.prog 15 (tt0 15) := ⟨⟨_, Tryd.underlying15, rfl⟩, Tryd.t15, _, by kernel_rfl, rfl, rfl, rfl, by kernel_rfl, by kernel_rfl⟩
theorem tok16 : TIok Tryd.prog 16 (tt0 16) := ⟨⟨_, Tryd.underlying16, rfl⟩, Tryd.t16, _, by kernel_rfl, rfl, rfl, rfl, by kernel_rfl, by kernel_rfl⟩
theorem tok17 : TIok Tryd.prog 17 (tt0 17) := ⟨⟨_, Tryd.underlying17, rfl⟩, Tryd.t17, _, by kernel_rfl, rfl, rfl, rfl, by kernel_rfl, by kernel_rfl⟩
theorem tok18 : TIok Tryd.prog 18 (tt0 18) := ⟨⟨_, Tryd.underlying18, rfl⟩, Tryd.t18, _, by kernel_rfl, rfl, rfl, rfl, by kernel_rfl, by kernel_rfl⟩
theorem tok19 : TIok Tryd.prog 19 (tt0 19) := ⟨⟨_, Tryd.underlying19, rfl⟩, Tryd.t19, _, by kernel_rfl, rfl, rfl, rfl, by kernel_rfl, by kernel_rfl⟩
theorem tok21 : TIok Tryd.prog 21 (tt0 21) := ⟨⟨_, Tryd.underlying21, rfl⟩, Tryd.t21, _, by kernel_rfl, rfl, rfl, rfl, by kernel_rfl, by kernel_rfl⟩
theorem tok22 : TIok Tryd.prog 22 (tt0 22) := ⟨⟨_, Tryd.underlying22, rfl⟩, Tryd.t22, _, by kernel_rfl, rfl, rfl, rfl, by kernel_rfl, by kernel_rfl⟩
theorem tok23 : TIok Tryd.prog 23 (tt0 23) := ⟨⟨_, Tryd.underlying23, ⟨rfl, rfl⟩⟩, Tryd.t23, _, by kernel_rfl, rfl, rfl, rfl, by kernel_rfl, by kernel_rfl⟩
theorem tok24 : TIok Tryd.prog 24 (tt0 24) := ⟨⟨_, Tryd.underlying24, ⟨rfl, rfl⟩⟩, Tryd.t24, _, by kernel_rfl, rfl, rfl, rfl, by kernel_rfl, by kernel_rfl⟩
theorem tok25 : TIok Tryd.prog 25 (tt0 25) := ⟨⟨_, Tryd.underlying25, ⟨rfl, rfl⟩⟩, Tryd.t25, _, by kernel_rfl, rfl, rfl, rfl, by kernel_rfl, by kernel_rfl⟩
theorem tok26 : TIok Tryd.prog 26 (tt0 26) := ⟨⟨_, Tryd.underlying26, ⟨rfl, rfl⟩⟩, Tryd.t26, _, by kernel_rfl, rfl, rfl, rfl, by kernel_rfl, by kernel_rfl⟩
theorem tok27 : TIok Tryd.prog 27 (tt0 27) := ⟨⟨_, Tryd.underlying27, rfl⟩, Tryd.t27, _, by kernel_rfl, rfl, rfl, rfl, by kernel_rfl, by kernel_rfl⟩
theorem tok28 : TIok Tryd.prog 28 (tt0 28) := ⟨⟨_, Tryd.underlying28, rfl⟩, Tryd.t28, _, by kernel_rfl, rfl, rfl, rfl, by kernel_rfl, by kernel_rfl⟩
theorem tok29 : TIok Tryd.prog 29 (tt0 29) := ⟨⟨_, Tryd.underlying29, rfl⟩, Tryd.t29, _, by kernel_rfl, rfl, rfl, rfl, by kernel_rfl, by kernel_rfl⟩
theorem tok30 : TIok Tryd.prog 30 (tt0 30) := ⟨⟨_, Tryd.underlying30, rfl⟩, Tryd.t30, _, by kernel_rfl, rfl, rfl, rfl, by kernel_rfl, by kernel_rfl⟩
theorem tok31 : TIok Tryd.prog 31 (tt0 31) := ⟨⟨_, Tryd.underlying31, rfl⟩, Tryd.t31, _, by kernel_rfl, rfl, rfl, rfl, by kernel_rfl, by kernel_rfl⟩
theorem tok32 : TIok Tryd.prog 32 (tt0 32) := ⟨⟨_, Tryd.underlying32, rfl⟩, Tryd.t32, _, by kernel_rfl, rfl, rfl, rfl, by kernel_rfl, by kernel_rfl⟩
theorem tok33 : TIok Tryd.prog 33 (tt0 33) := ⟨⟨_, Tryd.underlying33, trivial⟩, Tryd.t33, _, by kernel_rfl, rfl, rfl, rfl, by kernel_rfl, by kernel_rfl⟩
theorem tok34 : TIok Tryd.prog 34 (tt0 34) := ⟨⟨_, Tryd.underlying34, rfl⟩, Tryd.t34, _, by kernel_rfl, rfl, rfl, rfl, by kernel_rfl, by kernel_rfl⟩
theorem tok36 : TIok Tryd.prog 36 (tt0 36) := ⟨⟨_, Tryd.underlying36, trivial⟩, Tryd.t36, _, by kernel_rfl, rfl, rfl, rfl, by kernel_rfl, by kernel_rfl⟩
theorem tok37 : TIok Tryd.prog 37 (tt0 37) := ⟨⟨_, Tryd.underlying37, trivial⟩, Tryd.t37, _, by kernel_rfl, rfl, rfl, rfl, by kernel_rfl, by kernel_rfl⟩
theorem tok38 : TIok Tryd.prog 38 (tt0 38) := ⟨⟨_, Tryd.underlying38, trivial⟩, Tryd.t38, _, by kernel_rfl, rfl, rfl, rfl, by kernel_rfl, by kernel_rfl⟩
theorem tok40 : TIok Tryd.prog 40 (tt0 40) := ⟨⟨_, Tryd.underlying40, trivial⟩, Tryd.t40, _, by kernel_rfl, rfl, rfl, rfl, by kernel_rfl, by kernel_rfl⟩
theorem tok41 : TIok Tryd.prog 41 (tt0 41) := ⟨⟨_, Tryd.underlying41, trivial⟩, Tryd.t41, _, by kernel_rfl, rfl, rfl, rfl, by kernel_rfl, by kernel_rfl⟩
theorem tok42 : TIok Tryd.prog 42 (tt0 42) := ⟨⟨_, Tryd.underlying42, rfl⟩, Tryd.t42, _, by kernel_rfl, rfl, rfl, rfl, by kernel_rfl, by kernel_rfl⟩
theorem tok43 : TIok Tryd.prog 43 (tt0 43) := ⟨⟨_, Tryd.underlying43, rfl⟩, Tryd.t43, _, by kernel_rfl, rfl, rfl, rfl, by kernel_rfl, by kernel_rfl⟩
theorem tok44 : TIok Tryd.prog 44 (tt1 44) := ⟨⟨_, Tryd.underlying44, ⟨rfl, rfl⟩⟩, Tryd.t44, _, by kernel_rfl, rfl, rfl, rfl, by kernel_rfl, by kernel_rfl⟩
theorem tok45 : TIok Tryd.prog 45 (tt1 45) := ⟨⟨_, Tryd.underlying45, ⟨rfl, rfl⟩⟩, Tryd.t45, _, by kernel_rfl, rfl, rfl, rfl, by kernel_rfl, by kernel_rfl⟩
theorem tok46 : TIok Tryd.prog 46 (tt1 46) := ⟨⟨_, Tryd.underlying46, rfl⟩, Tryd.t46, _, by kernel_rfl, rfl, rfl, rfl, by kernel_rfl, by kernel_rfl⟩
theorem tok47 : TIok Tryd.prog 47 (tt1 47) := ⟨⟨_, Tryd.underlying47, trivial⟩, Tryd.t47, _, by kernel_rfl, rfl, rfl, rfl, by kernel_rfl, by kernel_rfl⟩
theorem tok48 : TIok Tryd.prog 48 (tt1 48) := ⟨⟨_, Tryd.underlying48, rfl⟩, Tryd.t48, _, by kernel_rfl, rfl, rfl, rfl, by kernel_rfl, by kernel_rfl⟩
theorem tok50 : TIok Tryd.prog 50 (tt1 50) := ⟨⟨_, Tryd.underlying50, trivial⟩, Tryd.t50, _, by kernel_rfl, rfl, rfl, rfl, by kernel_rfl, by kernel_rfl⟩
theorem tok51 : TIok Tryd.prog 51 (tt1 51) := ⟨⟨_, Tryd.underlying51, rfl⟩, Tryd.t51, _, by kernel_rfl, rfl, rfl, rfl, by kernel_rfl, by kernel_rfl⟩
theorem tok52 : TIok Tryd.prog 52 (tt1 52) := ⟨⟨_, Tryd.underlying52, rfl⟩, Tryd.t52, _, by kernel_rfl, rfl, rfl, rfl, by kernel_rfl, by kernel_rfl⟩
theorem tok53 : TIok Tryd.prog 53 (tt1 53) := ⟨⟨_, Tryd.underlying53, trivial⟩, Tryd.t53, _, by kernel_rfl, rfl, rfl, rfl, by kernel_rfl, by kernel_rfl⟩
theorem tok54 : TIok Tryd.prog 54 (tt1 54) := ⟨⟨_, Tryd.underlying54, trivial⟩, Tryd.t54, _, by kernel_rfl, rfl, rfl, rfl, by kernel_rfl, by kernel_rfl⟩
theorem tok55 : TIok Tryd.prog 55 (tt1 55) := ⟨⟨_, Tryd.underlying55, trivial⟩, Tryd.t55, _, by kernel_rfl, rfl, rfl, rfl, by kernel_rfl, by kernel_rfl⟩
theorem tok56 : TIok Tryd.prog 56 (tt1 56) := ⟨⟨_, Tryd.underlying56, trivial⟩, Tryd.t56, _, by kernel_rfl, rfl, rfl, rfl, by kernel_rfl, by kernel_rfl⟩
theorem tok57 : TIok Tryd.prog 57 (tt1 57) := ⟨⟨_, Tryd.underlying57, trivial⟩, Tryd.t57, _, by kernel_rfl, rfl, rfl, rfl, by kernel_rfl, by kernel_rfl⟩
theorem tok58 : TIok Tryd.prog 58 (tt1 58) := ⟨⟨_, Tryd.underlying58, trivial⟩, Tryd.t58, _, by kernel_rfl, rfl, rfl, rfl, by kernel_rfl, by kernel_rfl⟩
theorem tok59 : TIok Tryd.prog 59 (tt1 59) := ⟨⟨_, Tryd.underlying59, trivial⟩, Tryd.t59, _, by kernel_rfl, rfl, rfl, rfl, by kernel_rfl, by kernel_rfl⟩
theorem tok60 : TIok Tryd.prog 60 (tt1 60) := ⟨⟨_, Tryd.underlying60, rfl⟩, Tryd.t60, _, by kernel_rfl, rfl, rfl, rfl, by kernel_rfl, by kernel_rfl⟩
theorem tok61 : TIok Tryd.prog 61 (tt1 61) := ⟨⟨_, Tryd.underlying61, trivial⟩, Tryd.t61, _, by kernel_rfl, rfl, rfl, rfl, by kernel_rfl, by kernel_rfl⟩
theorem tok62 : TIok Tryd.prog 62 (tt1 62) := ⟨⟨_, Tryd.underlying62, trivial⟩, Tryd.t62, _, by kernel_rfl, rfl, rfl, rfl, by kernel_rfl, by kernel_rfl⟩
theorem tok63 : TIok Tryd.prog 63 (tt1 63) := ⟨⟨_, Tryd.underlying63, trivial⟩, Tryd.t63, _, by kernel_rfl, rfl, rfl, rfl, by kernel_rfl, by kernel_rfl⟩
theorem tok64 : TIok Tryd.prog 64 (tt1 64) := ⟨⟨_, Tryd.underlying64, rfl⟩, Tryd.t64, _, by kernel_rfl, rfl, rfl, rfl, by kernel_rfl, by kernel_rfl⟩
theorem tok65 : TIok Tryd.prog 65 (tt1 65) := ⟨⟨_, Tryd.underlying65, rfl⟩, Tryd.t65, _, by kernel_rfl, rfl, rfl, rfl, by kernel_rfl, by kernel_rfl⟩
theorem tok66 : TIok Tryd.prog 66 (tt1 66) := ⟨⟨_, Tryd.underlying66, trivial⟩, Tryd.t66, _, by kernel_rfl, rfl, rfl, rfl, by kernel_rfl, by kernel_rfl⟩
theorem tok67 : TIok Tryd.prog 67 (tt1 67) := ⟨⟨_, Tryd.underlying67, trivial⟩, Tryd.t67, _, by kernel_rfl, rfl, rfl, rfl, by kernel_rfl, by kernel_rfl⟩
theorem tok68 : TIok Tryd.prog 68 (tt1 68) := ⟨⟨_, Tryd.underlying68, trivial⟩, Tryd.t68, _, by kernel_rfl, rfl, rfl, rfl, by kernel_rfl, by kernel_rfl⟩
theorem tok69 : TIok Tryd.prog 69 (tt1 69) := ⟨⟨_, Tryd.underlying69, trivial⟩, Tryd.t69, _, by kernel_rfl, rfl, rfl, rfl, by kernel_rfl, by kernel_rfl⟩
theorem tok70 : TIok Tryd.prog 70 (tt1 70) := ⟨⟨_, Tryd.underlying70, trivial⟩, Tryd.t70, _, by kernel_rfl, rfl, rfl, rfl, by kernel_rfl, by kernel_rfl⟩
theorem tok71 : TIok Tryd.prog 71 (tt1 71) := ⟨⟨_, Tryd.underlying71, trivial⟩, Tryd.t71, _, by kernel_rfl, rfl, rfl, rfl, by kernel_rfl, by kernel_rfl⟩
theorem tok72 : TIok Tryd.prog 72 (tt1 72) := ⟨⟨_, Tryd.underlying72, trivial⟩, Tryd.t72, _, by kernel_rfl, rfl, rfl, rfl, by kernel_rfl, by kernel_rfl⟩
theorem tok73 : TIok Tryd.prog 73 (tt1 73) := ⟨⟨_, Tryd.underlying73, trivial⟩, Tryd.t73, _, by kernel_rfl, rfl, rfl, rfl, by kernel_rfl, by kernel_rfl⟩
theorem tok74 : TIok Tryd.prog 74 (tt1 74) := ⟨⟨_, Tryd.underlying74, trivial⟩, Tryd.t74, _, by kernel_rfl, rfl, rfl, rfl, by kernel_rfl, by kernel_rfl⟩
theorem tok75 : TIok Tryd.prog 75 (tt1 75) := ⟨⟨_, Tryd.underlying75, trivial⟩, Tryd.t75, _, by kernel_rfl, rfl, rfl, rfl, by kernel_rfl, by kernel_rfl⟩
theorem tok77 : TIok Tryd.prog 77 (tt1 77) := ⟨⟨_, Tryd.underlying77, trivial⟩, Tryd.t77, _, by kernel_rfl, rfl, rfl, rfl, by kernel_rfl, by kernel_rfl⟩
theorem tok79 : TIok Tryd.prog 79 (tt1 79) := ⟨⟨_, Tryd.underlying79, trivial⟩, Tryd.t79, _, by kernel_rfl, rfl, rfl, rfl, by kernel_rfl, by kernel_rfl⟩
theorem tok81 : TIok Tryd.prog 81 (tt1 81) := ⟨⟨_, Tryd.underlying81, trivial⟩, Tryd.t81, _, by kernel_rfl, rfl, rfl, rfl, by kernel_rfl, by kernel_rfl⟩
theorem tok82 : TIok Tryd.prog 82 (tt1 82) := ⟨⟨_, Tryd.underlying82, trivial⟩, Tryd.t82, _, by kernel_rfl, rfl, rfl, rfl, by kernel_rfl, by kernel_rfl⟩
theorem tok84 : TIok Tryd.prog 84 (tt1 84) := ⟨⟨_, Tryd.underlying84, trivial⟩, Tryd.t84, _, by kernel_rfl, rfl, rfl, rfl, by kernel_rfl, by kernel_rfl⟩
theorem tok85 : TIok Tryd.prog 85 (tt1 85) := ⟨⟨_, Tryd.underlying85, trivial⟩, Tryd.t85, _, by kernel_rfl, rfl, rfl, rfl, by kernel_rfl, by kernel_rfl⟩
theorem tok86 : TIok Tryd.prog 86 (tt1 86) := ⟨⟨_, Tryd.underlying86, trivial⟩, Tryd.t86, _, by kernel_rfl, rfl, rfl, rfl, by kernel_rfl, by kernel_rfl⟩
theorem tok87 : TIok Tryd.prog 87 (tt1 87) := ⟨⟨_, Tryd.underlying87, trivial⟩, Tryd.t87, _, by kernel_rfl, rfl, rfl, rfl, by kernel_rfl, by kernel_rfl⟩
theorem tok88 : TIok Tryd.prog 88 (tt1 88) := ⟨⟨_, Tryd.underlying88, rfl⟩, Tryd.t88, _, by kernel_rfl, rfl, rfl, rfl, by kernel_rfl, by kernel_rfl⟩
theorem tok89 : TIok Tryd.prog 89 (tt2 89) := ⟨⟨_, Tryd.underlying89, trivial⟩, Tryd.t89, _, by kernel_rfl, rfl, rfl, rfl, by kernel_rfl, by kernel_rfl⟩
theorem tok90 : TIok Tryd.prog 90 (tt2 90) := ⟨⟨_, Tryd.underlying90, trivial⟩, Tryd.t90, _, by kernel_rfl, rfl, rfl, rfl, by kernel_rfl, by kernel_rfl⟩
theorem tok92 : TIok Tryd.prog 92 (tt2 92) := ⟨⟨_, Tryd.underlying92, trivial⟩, Tryd.t92, _, by kernel_rfl, rfl, rfl, rfl, by kernel_rfl, by kernel_rfl⟩
theorem tok93 : TIok Tryd.prog 93 (tt2 93) := ⟨⟨_, Tryd.underlying93, trivial⟩, Tryd.t93, _, by kernel_rfl, rfl, rfl, rfl, by kernel_rfl, by kernel_rfl⟩
theorem tok94 : TIok Tryd.prog 94 (tt2 94) := ⟨⟨_, Tryd.underlying94, trivial⟩, Tryd.t94, _, by kernel_rfl, rfl, rfl, rfl, by kernel_rfl, by kernel_rfl⟩
theorem tok95 : TIok Tryd.prog 95 (tt2 95) := ⟨⟨_, Tryd.underlying95, trivial⟩, Tryd.t95, _, by kernel_rfl, rfl, rfl, rfl, by kernel_rfl, by kernel_rfl⟩
theorem tok96 : TIok Tryd.prog 96 (tt2 96) := ⟨⟨_, Tryd.underlying96, trivial⟩, Tryd.t96, _, by kernel_rfl, rfl, rfl, rfl, by kernel_rfl, by kernel_rfl⟩
theorem tok97 : TIok Tryd.prog 97 (tt2 97) := ⟨⟨_, Tryd.underlying97, trivial⟩, Tryd.t97, _, by kernel_rfl, rfl, rfl, rfl, by kernel_rfl, by kernel_rfl⟩
theorem tok98 : TIok Tryd.prog 98 (tt2 98) := ⟨⟨_, Tryd.underlying98, trivial⟩, Tryd.t98, _, by kernel_rfl, rfl, rfl, rfl, by kernel_rfl, by kernel_rfl⟩
theorem tok99 : TIok Tryd.prog 99 (tt2 99) := ⟨⟨_, Tryd.underlying99, trivial⟩, Tryd.t99, _, by kernel_rfl, rfl, rfl, rfl, by kernel_rfl, by kernel_rfl⟩
theorem tok101 : TIok Tryd.prog 101 (tt2 101) := ⟨⟨_, Tryd.underlying101, trivial⟩, Tryd.t101, _, by kernel_rfl, rfl, rfl, rfl, by kernel_rfl, by kernel_rfl⟩
theorem tok102 : TIok Tryd.prog 102 (tt2 102) := ⟨⟨_, Tryd.underlying102, trivial⟩, Tryd.t102, _, by kernel_rfl, rfl, rfl, rfl, by kernel_rfl, by kernel_rfl⟩
theorem tok103 : TIok Tryd.prog 103 (tt2 103) := ⟨⟨_, Tryd.underlying103, trivial⟩, Tryd.t103, _, by kernel_rfl, rfl, rfl, rfl, by kernel_rfl, by kernel_rfl⟩
theorem tok104 : TIok Tryd.prog 104 (tt2 104) := ⟨⟨_, Tryd.underlying104, trivial⟩, Tryd.t104, _, by kernel_rfl, rfl, rfl, rfl, by kernel_rfl, by kernel_rfl⟩
theorem tok105 : TIok Tryd.prog 105 (tt2 105) := ⟨⟨_, Tryd.underlying105, trivial⟩, Tryd.t105, _, by kernel_rfl, rfl, rfl, rfl, by kernel_rfl, by kernel_rfl⟩
theorem tok106 : TIok Tryd.prog 106 (tt2 106) := ⟨⟨_, Tryd.underlying106, trivial⟩, Tryd.t106, _, by kernel_rfl, rfl, rfl, rfl, by kernel_rfl, by kernel_rfl⟩
theorem tok107 : TIok Tryd.prog 107 (tt2 107) := ⟨⟨_, Tryd.underlying107, rfl⟩, Tryd.t107, _, by kernel_rfl, rfl, rfl, rfl, by kernel_rfl, by kernel_rfl⟩
theorem tok108 : TIok Tryd.prog 108 (tt2 108) := ⟨⟨_, Tryd.underlying108, trivial⟩, Tryd.t108, _, by kernel_rfl, rfl, rfl, rfl, by kernel_rfl, by kernel_rfl⟩
theorem tok109 : TIok Tryd.prog 109 (tt2 109) := ⟨⟨_, Tryd.underlying109, rfl⟩, Tryd.t109, _, by kernel_rfl, rfl, rfl, rfl, by kernel_rfl, by kernel_rfl⟩
theorem tok111 : TIok Tryd.prog 111 (tt2 111) := ⟨⟨_, Tryd.underlying111, trivial⟩, Tryd.t111, _, by kernel_rfl, rfl, rfl, rfl, by kernel_rfl, by kernel_rfl⟩
theorem tok112 : TIok Tryd.prog 112 (tt2 112) := ⟨⟨_, Tryd.underlying112, rfl⟩, Tryd.t112, _, by kernel_rfl, rfl, rfl, rfl, by kernel_rfl, by kernel_rfl⟩
theorem tok113 : TIok Tryd.prog 113 (tt2 113) := ⟨⟨_, Tryd.underlying113, rfl⟩, Tryd.t113, _, by kernel_rfl, rfl, rfl, rfl, by kernel_rfl, by kernel_rfl⟩
theorem tok114 : TIok Tryd.prog 114 (tt2 114) := ⟨⟨_, Tryd.underlying114, trivial⟩, Tryd.t114, _, by kernel_rfl, rfl, rfl, rfl, by kernel_rfl, by kernel_rfl⟩
theorem tok115 : TIok Tryd.prog 115 (tt2 115) := ⟨⟨_, Tryd.underlying115, rfl⟩, Tryd.t115, _, by kernel_rfl, rfl, rfl, rfl, by kernel_rfl, by kernel_rfl⟩
theorem tok116 : TIok Tryd.prog 116 (tt2 116) := ⟨⟨_, Tryd.underlying116, trivial⟩, Tryd.t116, _, by kernel_rfl, rfl, rfl, rfl, by kernel_rfl, by kernel_rfl⟩
theorem tok118 : TIok Tryd.prog 118 (tt2 118) := ⟨⟨_, Tryd.underlying118, trivial⟩, Tryd.t118, _, by kernel_rfl, rfl, rfl, rfl, by kernel_rfl, by kernel_rfl⟩
theorem tok120 : TIok Tryd.prog 120 (tt2 120) := ⟨⟨_, Tryd.underlying120, trivial⟩, Tryd.t120, _, by kernel_rfl, rfl, rfl, rfl, by kernel_rfl, by kernel_rfl⟩
theorem tok122 : TIok Tryd.prog 122 (tt2 122) := ⟨⟨_, Tryd.underlying122, trivial⟩, Tryd.t122, _, by kernel_rfl, rfl, rfl, rfl, by kernel_rfl, by kernel_rfl⟩
theorem tok123 : TIok Tryd.prog 123 (tt2 123) := ⟨⟨_, Tryd.underlying123, trivial⟩, Tryd.t123, _, by kernel_rfl, rfl, rfl, rfl, by kernel_rfl, by kernel_rfl⟩
theorem tok124 : TIok Tryd.prog 124 (tt2 124) := ⟨⟨_, Tryd.underlying124, trivial⟩, Tryd.t124, _, by kernel_rfl, rfl, rfl, rfl, by kernel_rfl, by kernel_rfl⟩
theorem tok125 : TIok Tryd.prog 125 (tt2 125) := ⟨⟨_, Tryd.underlying125, trivial⟩, Tryd.t125, _, by kernel_rfl, rfl, rfl, rfl, by kernel_rfl, by kernel_rfl⟩
theorem tok126 : TIok Tryd.prog 126 (tt2 126) := ⟨⟨_, Tryd.underlying126, trivial⟩, Tryd.t126, _, by kernel_rfl, rfl, rfl, rfl, by kernel_rfl, by kernel_rfl⟩
theorem tok128 : TIok Tryd.prog 128 (tt2 128) := ⟨⟨_, Tryd.underlying128, trivial⟩, Tryd.t128, _, by kernel_rfl, rfl, rfl, rfl, by kernel_rfl, by kernel_rfl⟩
theorem tok129 : TIok Tryd.prog 129 (tt2 129) := ⟨⟨_, Tryd.underlying129, trivial⟩, Tryd.t129, _, by kernel_rfl, rfl, rfl, rfl, by kernel_rfl, by kernel_rfl⟩
theorem tok130 : TIok Tryd.prog 130 (tt2 130) := ⟨⟨_, Tryd.underlying130, trivial⟩, Tryd.t130, _, by kernel_rfl, rfl, rfl, rfl, by kernel_rfl, by kernel_rfl⟩
theorem tok132 : TIok Tryd.prog 132 (tt2 132) := ⟨⟨_, Tryd.underlying132, trivial⟩, Tryd.t132, _, by kernel_rfl, rfl, rfl, rfl, by kernel_rfl, by kernel_rfl⟩
theorem tok133 : TIok Tryd.prog 133 (tt2 133) := ⟨⟨_, Tryd.underlying133, trivial⟩, Tryd.t133, _, by kernel_rfl, rfl, rfl, rfl, by kernel_rfl, by kernel_rfl⟩
theorem tok135 : TIok Tryd.prog 135 (tt2 135) := ⟨⟨_, Tryd.underlying135, trivial⟩, Tryd.t135, _, by kernel_rfl, rfl, rfl, rfl, by kernel_rfl, by kernel_rfl⟩
theorem tok136 : TIok Tryd.prog 136 (tt2 136) := ⟨⟨_, Tryd.underlying136, trivial⟩, Tryd.t136, _, by kernel_rfl, rfl, rfl, rfl, by kernel_rfl, by kernel_rfl⟩
theorem tok138 : TIok Tryd.prog 138 (tt2 138) := ⟨⟨_, Tryd.underlying138, trivial⟩, Tryd.t138, _, by kernel_rfl, rfl, rfl, rfl, by kernel_rfl, by kernel_rfl⟩
theorem tok139 : TIok Tryd.prog 139 (tt3 139) := ⟨⟨_, Tryd.underlying139, trivial⟩, Tryd.t139, _, by kernel_rfl, rfl, rfl, rfl, by kernel_rfl, by kernel_rfl⟩
theorem tok140 : TIok Tryd.prog 140 (tt3 140) := ⟨⟨_, Tryd.underlying140, rfl⟩, Tryd.t140, _, by kernel_rfl, rfl, rfl, rfl, by kernel_rfl, by kernel_rfl⟩
theorem tok141 : TIok Tryd.prog 141 (tt3 141) := ⟨⟨_, Tryd.underlying141, trivial⟩, Tryd.t141, _, by kernel_rfl, rfl, rfl, rfl, by kernel_rfl, by kernel_rfl⟩
theorem tok142 : TIok Tryd.prog 142 (tt3 142) := ⟨⟨_, Tryd.underlying142, trivial⟩, Tryd.t142, _, by kernel_rfl, rfl, rfl, rfl, by kernel_rfl, by kernel_rfl⟩
theorem tok143 : TIok Tryd.prog 143 (tt3 143) := ⟨⟨_, Tryd.underlying143, rfl⟩, Tryd.t143, _, by kernel_rfl, rfl, rfl, rfl, by kernel_rfl, by kernel_rfl⟩
theorem tok144 : TIok Tryd.prog 144 (tt3 144) := ⟨⟨_, Tryd.underlying144, trivial⟩, Tryd.t144, _, by kernel_rfl, rfl, rfl, rfl, by kernel_rfl, by kernel_rfl⟩
theorem tok145 : TIok Tryd.prog 145 (tt3 145) := ⟨⟨_, Tryd.underlying145, rfl⟩, Tryd.t145, _, by kernel_rfl, rfl, rfl, rfl, by kernel_rfl, by kernel_rfl⟩
theorem tok146 : TIok Tryd.prog 146 (tt3 146) := ⟨⟨_, Tryd.underlying146, trivial⟩, Tryd.t146, _, by kernel_rfl, rfl, rfl, rfl, by kernel_rfl, by kernel_rfl⟩
theorem tok147 : TIok Tryd.prog 147 (tt3 147) := ⟨⟨_, Tryd.underlying147, rfl⟩, Tryd.t147, _, by kernel_rfl, rfl, rfl, rfl, by kernel_rfl, by kernel_rfl⟩
theorem tok148 : TIok Tryd.prog 148 (tt3 148) := ⟨⟨_, Tryd.underlying148, rfl⟩, Tryd.t148, _, by kernel_rfl, rfl, rfl, rfl, by kernel_rfl, by kernel_rfl⟩
theorem tok152 : TIok Tryd.prog 152 (tt3 152) := ⟨⟨_, Tryd.underlying152, trivial⟩, Tryd.t152, _, by kernel_rfl, rfl, rfl, rfl, by kernel_rfl, by kernel_rfl⟩
theorem tok153 : TIok Tryd.prog 153 (tt3 153) := ⟨⟨_, Tryd.underlying153, rfl⟩, Tryd.t153, _, by kernel_rfl, rfl, rfl, rfl, by kernel_rfl, by kernel_rfl⟩
theorem tok154 : TIok Tryd.prog 154 (tt3 154) := ⟨⟨_, Tryd.underlying154, rfl⟩, Tryd.t154, _, by kernel_rfl, rfl, rfl, rfl, by kernel_rfl, by kernel_rfl⟩
theorem tok155 : TIok Tryd.prog 155 (tt3 155) := ⟨⟨_, Tryd.underlying155, rfl⟩, Tryd.t155, _, by kernel_rfl, rfl, rfl, rfl, by kernel_rfl, by kernel_rfl⟩
theorem tok156 : TIok Tryd.prog 156 (tt3 156) := ⟨⟨_, Tryd.underlying156, trivial⟩, Tryd.t156, _, by kernel_rfl, rfl, rfl, rfl, by kernel_rfl, by kernel_rfl⟩
theorem tok157 : TIok Tryd.prog 157 (tt3 157) := ⟨⟨_, Tryd.underlying157, rfl⟩, Tryd.t157, _, by kernel_rfl, rfl, rfl, rfl, by kernel_rfl, by kernel_rfl⟩
theorem tok158 : TIok Tryd.prog 158 (tt3 158) := ⟨⟨_, Tryd.underlying158, rfl⟩, Tryd.t158, _, by kernel_rfl, rfl, rfl, rfl, by kernel_rfl, by kernel_rfl⟩
theorem tok159 : TIok Tryd.prog 159 (tt3 159) := ⟨⟨_, Tryd.underlying159, rfl⟩, Tryd.t159, _, by kernel_rfl, rfl, rfl, rfl, by kernel_rfl, by kernel_rfl⟩
theorem tok160 : TIok Tryd.prog 160 (tt3 160) := ⟨⟨_, Tryd.underlying160, rfl⟩, Tryd.t160, _, by kernel_rfl, rfl, rfl, rfl, by kernel_rfl, by kernel_rfl⟩
theorem tok161 : TIok Tryd.prog 161 (tt3 161) := ⟨⟨_, Tryd.underlying161, rfl⟩, Tryd.t161, _, by kernel_rfl, rfl, rfl, rfl, by kernel_rfl, by kernel_rfl⟩
theorem tt0_ok (t : TypeId) : (tt0 t).d = .bad ∨ TIok Tryd.prog t (tt0 t) := by
  unfold tt0; split
  · exact .inr tok1
  · exact .inr tok2
  · exact .inr tok3
  · exact .inr tok4
  · exact .inr tok5
  · exact .inr tok6
  · exact .inr tok7
  · exact .inr tok8
  · exact .inr tok9
  · exact .inr tok10
  · exact .inr tok11
  · exact .inr tok12
  · exact .inr tok13
  · exact .inr tok14
  · exact .inr tok15
  · exact .inr tok16
  · exact .inr tok17
  · exact .inr tok18
  · exact .inr tok19
  · exact .inr tok21
  · exact .inr tok22
  · exact .inr tok23
  · exact .inr tok24
  · exact .inr tok25
  · exact .inr tok26
  · exact .inr tok27
  · exact .inr tok28
  · exact .inr tok29
  · exact .inr tok30
  · exact .inr tok31
  · exact .inr tok32
  · exact .inr tok33
  · exact .inr tok34
  · exact .inr tok36
  · exact .inr tok37
  · exact .inr tok38
  · exact .inr tok40
  · exact .inr tok41
  · exact .inr tok42
  · exact .inr tok43
  · exact .inl rfl
theorem tt1_ok (t : TypeId) : (tt1 t).d = .bad ∨ TIok Tryd.prog t (tt1 t) := by
  unfold tt1; split
  · exact .inr tok44
  · exact .inr tok45
  · exact .inr tok46
  · exact .inr tok47
  · exact .inr tok48
  · exact .inr tok50
  · exact .inr tok51
  · exact .inr tok52
  · exact .inr tok53
  · exact .inr tok54
  · exact .inr tok55
  · exact .inr tok56
  · exact .inr tok57
  · exact .inr tok58
  · exact .inr tok59
  · exact .inr tok60
  · exact .inr tok61
  · exact .inr tok62
  · exact .inr tok63
  · exact .inr tok64
  · exact .inr tok65
  · exact .inr tok66
  · exact .inr tok67
  · exact .inr tok68
  · exact .inr tok69
  · exact .inr tok70
  · exact .inr tok71
  · exact .inr tok72
  · exact .inr tok73
  · exact .inr tok74
  · exact .inr tok75
  · exact .inr tok77
  · exact .inr tok79
  · exact .inr tok81
  · exact .inr tok82
  · exact .inr tok84
  · exact .inr tok85
  · exact .inr tok86
  · exact .inr tok87
  · exact .inr tok88
  · exact .inl rfl
theorem tt2_ok (t : TypeId) : (tt2 t).d = .bad ∨ TIok Tryd.prog t (tt2 t) := by
  unfold tt2; split
  · exact .inr tok89
  · exact .inr tok90
  · exact .inr tok92
  · exact .inr tok93
  · exact .inr tok94
  · exact .inr tok95
  · exact .inr tok96
  · exact .inr tok97
  · exact .inr tok98
  · exact .inr tok99
  · exact .inr tok101
  · exact .inr tok102
  · exact .inr tok103
  · exact .inr tok104
  · exact .inr tok105
  · exact .inr tok106
  · exact .inr tok107
  · exact .inr tok108
  · exact .inr tok109
  · exact .inr tok111
  · exact .inr tok112
  · exact .inr tok113
  · exact .inr tok114
  · exact .inr tok115
  · exact .inr tok116
  · exact .inr tok118
  · exact .inr tok120
  · exact .inr tok122
  · exact .inr tok123
  · exact .inr tok124
  · exact .inr tok125
  · exact .inr tok126
  · exact .inr tok128
  · exact .inr tok129
  · exact .inr tok130
  · exact .inr tok132
  · exact .inr tok133
  · exact .inr tok135
  · exact .inr tok136
  · exact .inr tok138
  · exact .inl rfl
theorem tt3_ok (t : TypeId) : (tt3 t).d = .bad ∨ TIok Tryd.prog t (tt3 t) := by
  unfold tt3; split
  · exact .inr tok139
  · exact .inr tok140
  · exact .inr tok141
  · exact .inr tok142
  · exact .inr tok143
  · exact .inr tok144
  · exact .inr tok145
  · exact .inr tok146
  · exact .inr tok147
  · exact .inr tok148
  · exact .inr tok152
  · exact .inr tok153
  · exact .inr tok154
  · exact .inr tok155
  · exact .inr tok156
  · exact .inr tok157
  · exact .inr tok158
  · exact .inr tok159
  · exact .inr tok160
  · exact .inr tok161
  · exact .inl rfl
theorem tt_ok : TTok Tryd.prog := fun t => by
  unfold tt
  split
  · exact tt0_ok t
  split
  · exact tt1_ok t
  split
  · exact tt2_ok t
  split
  · exact tt3_ok t
  exact .inl rfl
theorem entered0_ok (f : FuncId) (hf : entered0 f = true) (args : Array Value) (w : World) : (callFunc f args).run Tryd.prog w = .ok (.enter f args) w := by
  unfold entered0 at hf; split at hf
  · exact Tryd.call2 args w
  · exact Tryd.call3 args w
  · exact Tryd.call4 args w
  · exact Tryd.call5 args w
  · exact Tryd.call6 args w
  · exact Tryd.call7 args w
  · exact Tryd.call8 args w
  · exact Tryd.call9 args w
  · exact Tryd.call10 args w
  · exact Tryd.call11 args w
  · exact Tryd.call12 args w
  · exact Tryd.call13 args w
  · exact Tryd.call14 args w
  · exact Tryd.call15 args w
  · exact Tryd.call16 args w
  · exact Tryd.call17 args w
  · exact Tryd.call18 args w
  · exact Tryd.call19 args w
  · exact Tryd.call20 args w
  · exact Tryd.call21 args w
  · exact Tryd.call22 args w
  · exact Tryd.call23 args w
  · exact Tryd.call24 args w
  · exact Tryd.call25 args w
  · exact Tryd.call26 args w
  · exact Tryd.call27 args w
  · exact Tryd.call28 args w
  · exact Tryd.call29 args w
  · exact Tryd.call30 args w
  · exact Tryd.call31 args w
  · exact Tryd.call32 args w
  · exact Tryd.call33 args w
  · exact Tryd.call34 args w
  · exact Tryd.call35 args w
  · exact Tryd.call36 args w
  · exact Tryd.call37 args w
  · exact Tryd.call38 args w
  · exact Tryd.call39 args w
  · exact Tryd.call40 args w
  · exact Tryd.call41 args w
  · cases hf
theorem entered1_ok (f : FuncId) (hf : entered1 f = true) (args : Array Value) (w : World) : (callFunc f args).run Tryd.prog w = .ok (.enter f args) w := by
  unfold entered1 at hf; split at hf
  · exact Tryd.call42 args w
  · exact Tryd.call43 args w
  · exact Tryd.call44 args w
  · exact Tryd.call45 args w
  · exact Tryd.call46 args w
  · exact Tryd.call47 args w
  · exact Tryd.call48 args w
  · exact Tryd.call49 args w
  · exact Tryd.call50 args w
  · exact Tryd.call51 args w
  · exact Tryd.call52 args w
  · exact Tryd.call53 args w
  · exact Tryd.call54 args w
  · exact Tryd.call55 args w
  · exact Tryd.call56 args w
  · exact Tryd.call57 args w
  · exact Tryd.call58 args w
  · exact Tryd.call59 args w
  · exact Tryd.call60 args w
  · exact Tryd.call61 args w
  · exact Tryd.call62 args w
  · exact Tryd.call63 args w
  · exact Tryd.call64 args w
  · exact Tryd.call65 args w
  · exact Tryd.call66 args w
  · exact Tryd.call67 args w
  · exact Tryd.call68 args w
  · exact Tryd.call69 args w
  · exact Tryd.call70 args w
  · exact Tryd.call71 args w
  · exact Tryd.call72 args w
  · exact Tryd.call73 args w
  · exact Tryd.call74 args w
  · exact Tryd.call75 args w
  · exact Tryd.call76 args w
  · exact Tryd.call77 args w
  · exact Tryd.call79 args w
  · exact Tryd.call80 args w
  · exact Tryd.call81 args w
  · exact Tryd.call82 args w
  · cases hf
theorem entered2_ok (f : FuncId) (hf : entered2 f = true) (args : Array Value) (w : World) : (callFunc f args).run Tryd.prog w = .ok (.enter f args) w := by
  unfold entered2 at hf; split at hf
  · exact Tryd.call83 args w
  · exact Tryd.call84 args w
  · exact Tryd.call85 args w
  · exact Tryd.call86 args w
  · exact Tryd.call87 args w
  · exact Tryd.call88 args w
  · exact Tryd.call89 args w
  · exact Tryd.call90 args w
  · exact Tryd.call91 args w
  · exact Tryd.call92 args w
  · exact Tryd.call93 args w
  · exact Tryd.call94 args w
  · exact Tryd.call95 args w
  · exact Tryd.call117 args w
  · cases hf
theorem ent_ok : Enters Tryd.prog := ⟨fun f hf args w => (by
  unfold entered at hf
  split at hf
  · exact entered0_ok f hf args w
  split at hf
  · exact entered1_ok f hf args w
  split at hf
  · exact entered2_ok f hf args w
  cases hf), by kernel_rfl, fun f hf => by
  unfold ext at hf; split at hf
  · rfl
  · exact absurd rfl hf, fun t ht => by
  unfold eqT at ht; split at ht
  · exact ⟨by kernel_rfl, by kernel_rfl⟩
  · exact absurd ht (by decide), fun f hf args w => by
  unfold ext at hf; split at hf
  · exact run_callFunc_extern Tryd.func78 (by kernel_rfl) (by kernel_rfl) (by kernel_rfl) (e := extE 1) (by kernel_rfl) args w
  · exact absurd rfl hf⟩
end Go.Eng
