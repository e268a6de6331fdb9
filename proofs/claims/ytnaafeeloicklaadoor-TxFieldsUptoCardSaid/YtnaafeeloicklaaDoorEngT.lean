/-
  MADE BY PROGRAM (gentt.py): the types of this translation, as the evaluator takes them, and the functions that it calls.
-/
import Derived.Test.YtnaafeeloicklaaDoorEngC0
namespace Go.Eng
open Go

def tt0 : TypeId → TI
  | 1 => ⟨.other, 1, 8, [.c (.v .nilFunc)]⟩
  | 2 => ⟨.int .i64, 1, 8, [.c (.v (.int .i64 0))]⟩
  | 3 => ⟨.int .i64, 1, 8, [.c (.v (.int .i64 0))]⟩
  | 4 => ⟨.bool, 1, 1, [.c (.v (.bool false))]⟩
  | 5 => ⟨.int .u8, 1, 1, [.c (.v (.int .u8 0))]⟩
  | 6 => ⟨.int .u8, 1, 1, [.c (.v (.int .u8 0))]⟩
  | 7 => ⟨.struct [(0, 2), (1, 3), (2, 4), (3, 6)], 4, 24, [.c (.v (.int .i64 0)), .c (.v (.int .i64 0)), .c (.v (.bool false)), .c (.v (.int .u8 0))]⟩
  | 8 => ⟨.struct [(0, 2), (1, 3), (2, 4), (3, 6)], 4, 24, [.c (.v (.int .i64 0)), .c (.v (.int .i64 0)), .c (.v (.bool false)), .c (.v (.int .u8 0))]⟩
  | 9 => ⟨.str, 1, 16, [.c (.v (.string ⟨#[]⟩))]⟩
  | 10 => ⟨.str, 1, 16, [.c (.v (.string ⟨#[]⟩))]⟩
  | 11 => ⟨.str, 1, 16, [.c (.v (.string ⟨#[]⟩))]⟩
  | 12 => ⟨.int .u64, 1, 8, [.c (.v (.int .u64 0))]⟩
  | 13 => ⟨.struct [(0, 9), (1, 12)], 2, 24, [.c (.v (.string ⟨#[]⟩)), .c (.v (.int .u64 0))]⟩
  | 14 => ⟨.struct [(0, 9), (1, 12)], 2, 24, [.c (.v (.string ⟨#[]⟩)), .c (.v (.int .u64 0))]⟩
  | 15 => ⟨.ptr 151, 1, 8, [.c (.v (.pointer none))]⟩
  | 16 => ⟨.ptr 154, 1, 8, [.c (.v (.pointer none))]⟩
  | 17 => ⟨.ptr 164, 1, 8, [.c (.v (.pointer none))]⟩
  | 18 => ⟨.struct [(0, 17)], 1, 8, [.c (.v (.pointer none))]⟩
  | 19 => ⟨.struct [(0, 17)], 1, 8, [.c (.v (.pointer none))]⟩
  | 21 => ⟨.int .i32, 1, 4, [.c (.v (.int .i32 0))]⟩
  | 22 => ⟨.int .u64, 1, 8, [.c (.v (.int .u64 0))]⟩
  | 23 => ⟨.arr 4 22, 4, 32, [.r 4 (List.replicate 4 (.int .u64 0))]⟩
  | 24 => ⟨.arr 4 22, 4, 32, [.r 4 (List.replicate 4 (.int .u64 0))]⟩
  | 25 => ⟨.arr 20 5, 20, 20, [.r 20 (List.replicate 20 (.int .u8 0))]⟩
  | 26 => ⟨.arr 20 5, 20, 20, [.r 20 (List.replicate 20 (.int .u8 0))]⟩
  | 27 => ⟨.slice 5, 1, 24, [.c (.sl [] [])]⟩
  | 28 => ⟨.slice 57, 1, 24, [.c (.sl [] [])]⟩
  | 29 => ⟨.slice 59, 1, 24, [.c (.sl [] [])]⟩
  | 30 => ⟨.slice 69, 1, 24, [.c (.sl [] [])]⟩
  | 31 => ⟨.struct [(0, 3), (1, 22), (2, 22), (3, 24), (7, 24), (11, 24), (15, 22), (16, 4), (17, 26), (37, 24), (41, 27), (42, 28), (43, 24), (47, 29), (48, 30), (49, 24), (53, 24), (57, 24)], 61, 408, [.c (.v (.int .i64 0)), .c (.v (.int .u64 0)), .c (.v (.int .u64 0)), .r 4 (List.replicate 4 (.int .u64 0)), .r 4 (List.replicate 4 (.int .u64 0)), .r 4 (List.replicate 4 (.int .u64 0)), .c (.v (.int .u64 0)), .c (.v (.bool false)), .r 20 (List.replicate 20 (.int .u8 0)), .r 4 (List.replicate 4 (.int .u64 0)), .c (.sl [] []), .c (.sl [] []), .r 4 (List.replicate 4 (.int .u64 0)), .c (.sl [] []), .c (.sl [] []), .r 4 (List.replicate 4 (.int .u64 0)), .r 4 (List.replicate 4 (.int .u64 0)), .r 4 (List.replicate 4 (.int .u64 0))]⟩
  | 32 => ⟨.struct [(0, 3), (1, 22), (2, 22), (3, 24), (7, 24), (11, 24), (15, 22), (16, 4), (17, 26), (37, 24), (41, 27), (42, 28), (43, 24), (47, 29), (48, 30), (49, 24), (53, 24), (57, 24)], 61, 408, [.c (.v (.int .i64 0)), .c (.v (.int .u64 0)), .c (.v (.int .u64 0)), .r 4 (List.replicate 4 (.int .u64 0)), .r 4 (List.replicate 4 (.int .u64 0)), .r 4 (List.replicate 4 (.int .u64 0)), .c (.v (.int .u64 0)), .c (.v (.bool false)), .r 20 (List.replicate 20 (.int .u8 0)), .r 4 (List.replicate 4 (.int .u64 0)), .c (.sl [] []), .c (.sl [] []), .r 4 (List.replicate 4 (.int .u64 0)), .c (.sl [] []), .c (.sl [] []), .r 4 (List.replicate 4 (.int .u64 0)), .r 4 (List.replicate 4 (.int .u64 0)), .r 4 (List.replicate 4 (.int .u64 0))]⟩
  | 33 => ⟨.other, 1, 8, [.c (.v .nilFunc)]⟩
  | 34 => ⟨.int .i64, 1, 8, [.c (.v (.int .i64 0))]⟩
  | 36 => ⟨.other, 1, 8, [.c (.v .nilFunc)]⟩
  | 37 => ⟨.other, 1, 8, [.c (.v .nilFunc)]⟩
  | 38 => ⟨.other, 1, 8, [.c (.v .nilFunc)]⟩
  | 40 => ⟨.other, 1, 8, [.c (.v .nilFunc)]⟩
  | 41 => ⟨.other, 1, 8, [.c (.v .nilFunc)]⟩
  | 42 => ⟨.other, 1, 8, [.c (.v .nilFunc)]⟩
  | 43 => ⟨.other, 1, 8, [.c (.v .nilFunc)]⟩
  | _ => ⟨.bad, 0, 0, []⟩

def tt1 : TypeId → TI
  | 44 => ⟨.other, 1, 8, [.c (.v .nilFunc)]⟩
  | 45 => ⟨.other, 1, 8, [.c (.v .nilFunc)]⟩
  | 46 => ⟨.other, 1, 8, [.c (.v .nilFunc)]⟩
  | 47 => ⟨.slice 51, 1, 24, [.c (.sl [] [])]⟩
  | 49 => ⟨.other, 1, 8, [.c (.v .nilFunc)]⟩
  | 50 => ⟨.struct [(0, 4), (1, 27), (2, 47)], 3, 56, [.c (.v (.bool false)), .c (.sl [] []), .c (.sl [] [])]⟩
  | 51 => ⟨.struct [(0, 4), (1, 27), (2, 47)], 3, 56, [.c (.v (.bool false)), .c (.sl [] []), .c (.sl [] [])]⟩
  | 52 => ⟨.other, 1, 8, [.c (.v .nilFunc)]⟩
  | 53 => ⟨.other, 1, 8, [.c (.v .nilFunc)]⟩
  | 54 => ⟨.other, 1, 8, [.c (.v .nilFunc)]⟩
  | 55 => ⟨.other, 1, 8, [.c (.v .nilFunc)]⟩
  | 56 => ⟨.struct [(0, 26), (20, 29)], 21, 48, [.r 20 (List.replicate 20 (.int .u8 0)), .c (.sl [] [])]⟩
  | 57 => ⟨.struct [(0, 26), (20, 29)], 21, 48, [.r 20 (List.replicate 20 (.int .u8 0)), .c (.sl [] [])]⟩
  | 58 => ⟨.arr 32 5, 32, 32, [.r 32 (List.replicate 32 (.int .u8 0))]⟩
  | 59 => ⟨.arr 32 5, 32, 32, [.r 32 (List.replicate 32 (.int .u8 0))]⟩
  | 60 => ⟨.slice 29, 1, 24, [.c (.sl [] [])]⟩
  | 61 => ⟨.other, 1, 8, [.c (.v .nilFunc)]⟩
  | 62 => ⟨.other, 1, 8, [.c (.v .nilFunc)]⟩
  | 63 => ⟨.other, 1, 8, [.c (.v .nilFunc)]⟩
  | 64 => ⟨.slice 3, 1, 24, [.c (.sl [] [])]⟩
  | 65 => ⟨.other, 1, 8, [.c (.v .nilFunc)]⟩
  | 66 => ⟨.other, 1, 8, [.c (.v .nilFunc)]⟩
  | 67 => ⟨.other, 1, 8, [.c (.v .nilFunc)]⟩
  | 68 => ⟨.struct [(0, 24), (4, 26), (24, 22), (25, 22), (26, 24), (30, 24)], 34, 136, [.r 4 (List.replicate 4 (.int .u64 0)), .r 20 (List.replicate 20 (.int .u8 0)), .c (.v (.int .u64 0)), .c (.v (.int .u64 0)), .r 4 (List.replicate 4 (.int .u64 0)), .r 4 (List.replicate 4 (.int .u64 0))]⟩
  | 69 => ⟨.struct [(0, 24), (4, 26), (24, 22), (25, 22), (26, 24), (30, 24)], 34, 136, [.r 4 (List.replicate 4 (.int .u64 0)), .r 20 (List.replicate 20 (.int .u8 0)), .c (.v (.int .u64 0)), .c (.v (.int .u64 0)), .r 4 (List.replicate 4 (.int .u64 0)), .r 4 (List.replicate 4 (.int .u64 0))]⟩
  | 70 => ⟨.other, 1, 8, [.c (.v .nilFunc)]⟩
  | 71 => ⟨.other, 1, 8, [.c (.v .nilFunc)]⟩
  | 72 => ⟨.other, 1, 8, [.c (.v .nilFunc)]⟩
  | 73 => ⟨.other, 1, 8, [.c (.v .nilFunc)]⟩
  | 74 => ⟨.other, 1, 8, [.c (.v .nilFunc)]⟩
  | 75 => ⟨.other, 1, 8, [.c (.v .nilFunc)]⟩
  | 76 => ⟨.other, 1, 8, [.c (.v .nilFunc)]⟩
  | 77 => ⟨.other, 1, 8, [.c (.v .nilFunc)]⟩
  | 78 => ⟨.other, 1, 8, [.c (.v .nilFunc)]⟩
  | 79 => ⟨.other, 1, 8, [.c (.v .nilFunc)]⟩
  | 81 => ⟨.other, 1, 8, [.c (.v .nilFunc)]⟩
  | 83 => ⟨.other, 1, 8, [.c (.v .nilFunc)]⟩
  | 85 => ⟨.other, 1, 8, [.c (.v .nilFunc)]⟩
  | 86 => ⟨.other, 1, 8, [.c (.v .nilFunc)]⟩
  | 88 => ⟨.other, 1, 8, [.c (.v .nilFunc)]⟩
  | _ => ⟨.bad, 0, 0, []⟩

def tt2 : TypeId → TI
  | 89 => ⟨.other, 1, 8, [.c (.v .nilFunc)]⟩
  | 90 => ⟨.other, 1, 8, [.c (.v .nilFunc)]⟩
  | 91 => ⟨.other, 1, 8, [.c (.v .nilFunc)]⟩
  | 92 => ⟨.ptr 32, 1, 8, [.c (.v (.pointer none))]⟩
  | 93 => ⟨.other, 1, 8, [.c (.v .nilFunc)]⟩
  | 94 => ⟨.other, 1, 8, [.c (.v .nilFunc)]⟩
  | 96 => ⟨.other, 1, 8, [.c (.v .nilFunc)]⟩
  | 97 => ⟨.other, 1, 8, [.c (.v .nilFunc)]⟩
  | 98 => ⟨.other, 1, 8, [.c (.v .nilFunc)]⟩
  | 99 => ⟨.other, 1, 8, [.c (.v .nilFunc)]⟩
  | 100 => ⟨.other, 1, 8, [.c (.v .nilFunc)]⟩
  | 101 => ⟨.other, 1, 8, [.c (.v .nilFunc)]⟩
  | 102 => ⟨.other, 1, 8, [.c (.v .nilFunc)]⟩
  | 104 => ⟨.other, 1, 8, [.c (.v .nilFunc)]⟩
  | 105 => ⟨.other, 1, 8, [.c (.v .nilFunc)]⟩
  | 106 => ⟨.other, 1, 8, [.c (.v .nilFunc)]⟩
  | 107 => ⟨.other, 1, 8, [.c (.v .nilFunc)]⟩
  | 108 => ⟨.other, 1, 8, [.c (.v .nilFunc)]⟩
  | 109 => ⟨.other, 1, 8, [.c (.v .nilFunc)]⟩
  | 110 => ⟨.ptr 24, 1, 8, [.c (.v (.pointer none))]⟩
  | 111 => ⟨.other, 1, 8, [.c (.v .nilFunc)]⟩
  | 112 => ⟨.slice 116, 1, 24, [.c (.sl [] [])]⟩
  | 114 => ⟨.other, 1, 8, [.c (.v .nilFunc)]⟩
  | 115 => ⟨.struct [(0, 47), (1, 27)], 2, 48, [.c (.sl [] []), .c (.sl [] [])]⟩
  | 116 => ⟨.struct [(0, 47), (1, 27)], 2, 48, [.c (.sl [] []), .c (.sl [] [])]⟩
  | 117 => ⟨.other, 1, 8, [.c (.v .nilFunc)]⟩
  | 118 => ⟨.ptr 22, 1, 8, [.c (.v (.pointer none))]⟩
  | 119 => ⟨.other, 1, 8, [.c (.v .nilFunc)]⟩
  | 121 => ⟨.other, 1, 8, [.c (.v .nilFunc)]⟩
  | 123 => ⟨.other, 1, 8, [.c (.v .nilFunc)]⟩
  | 125 => ⟨.other, 1, 8, [.c (.v .nilFunc)]⟩
  | 126 => ⟨.other, 1, 8, [.c (.v .nilFunc)]⟩
  | 127 => ⟨.other, 1, 8, [.c (.v .nilFunc)]⟩
  | 128 => ⟨.other, 1, 8, [.c (.v .nilFunc)]⟩
  | 129 => ⟨.other, 1, 8, [.c (.v .nilFunc)]⟩
  | 131 => ⟨.other, 1, 8, [.c (.v .nilFunc)]⟩
  | 132 => ⟨.other, 1, 8, [.c (.v .nilFunc)]⟩
  | 133 => ⟨.other, 1, 8, [.c (.v .nilFunc)]⟩
  | 135 => ⟨.other, 1, 8, [.c (.v .nilFunc)]⟩
  | 136 => ⟨.other, 1, 8, [.c (.v .nilFunc)]⟩
  | _ => ⟨.bad, 0, 0, []⟩

def tt3 : TypeId → TI
  | 138 => ⟨.other, 1, 8, [.c (.v .nilFunc)]⟩
  | 139 => ⟨.other, 1, 8, [.c (.v .nilFunc)]⟩
  | 141 => ⟨.other, 1, 8, [.c (.v .nilFunc)]⟩
  | 142 => ⟨.other, 1, 8, [.c (.v .nilFunc)]⟩
  | 143 => ⟨.int .u64, 1, 8, [.c (.v (.int .u64 0))]⟩
  | 144 => ⟨.other, 1, 8, [.c (.v .nilFunc)]⟩
  | 145 => ⟨.other, 1, 8, [.c (.v .nilFunc)]⟩
  | 146 => ⟨.ptr 26, 1, 8, [.c (.v (.pointer none))]⟩
  | 147 => ⟨.other, 1, 8, [.c (.v .nilFunc)]⟩
  | 148 => ⟨.slice 127, 1, 24, [.c (.sl [] [])]⟩
  | 149 => ⟨.other, 1, 8, [.c (.v .nilFunc)]⟩
  | 150 => ⟨.struct [(0, 17), (1, 17), (2, 17), (3, 9)], 4, 40, [.c (.v (.pointer none)), .c (.v (.pointer none)), .c (.v (.pointer none)), .c (.v (.string ⟨#[]⟩))]⟩
  | 151 => ⟨.struct [(0, 17), (1, 17), (2, 17), (3, 9)], 4, 40, [.c (.v (.pointer none)), .c (.v (.pointer none)), .c (.v (.pointer none)), .c (.v (.string ⟨#[]⟩))]⟩
  | 155 => ⟨.other, 1, 8, [.c (.v .nilFunc)]⟩
  | 156 => ⟨.int .u32, 1, 4, [.c (.v (.int .u32 0))]⟩
  | 157 => ⟨.int .u8, 1, 1, [.c (.v (.int .u8 0))]⟩
  | 158 => ⟨.int .u8, 1, 1, [.c (.v (.int .u8 0))]⟩
  | 159 => ⟨.other, 1, 8, [.c (.v .nilFunc)]⟩
  | 160 => ⟨.ptr 5, 1, 8, [.c (.v (.pointer none))]⟩
  | 161 => ⟨.int .i32, 1, 4, [.c (.v (.int .i32 0))]⟩
  | 162 => ⟨.int .i32, 1, 4, [.c (.v (.int .i32 0))]⟩
  | 163 => ⟨.struct [(0, 12), (1, 12), (2, 156), (3, 157), (4, 5), (5, 5), (6, 158), (7, 159), (8, 160), (9, 161), (10, 162)], 11, 48, [.c (.v (.int .u64 0)), .c (.v (.int .u64 0)), .c (.v (.int .u32 0)), .c (.v (.int .u8 0)), .c (.v (.int .u8 0)), .c (.v (.int .u8 0)), .c (.v (.int .u8 0)), .c (.v .nilFunc), .c (.v (.pointer none)), .c (.v (.int .i32 0)), .c (.v (.int .i32 0))]⟩
  | 164 => ⟨.struct [(0, 12), (1, 12), (2, 156), (3, 157), (4, 5), (5, 5), (6, 158), (7, 159), (8, 160), (9, 161), (10, 162)], 11, 48, [.c (.v (.int .u64 0)), .c (.v (.int .u64 0)), .c (.v (.int .u32 0)), .c (.v (.int .u8 0)), .c (.v (.int .u8 0)), .c (.v (.int .u8 0)), .c (.v (.int .u8 0)), .c (.v .nilFunc), .c (.v (.pointer none)), .c (.v (.int .i32 0)), .c (.v (.int .i32 0))]⟩
  | _ => ⟨.bad, 0, 0, []⟩

def tt (t : TypeId) : TI := if t < 44 then tt0 t else if t < 89 then tt1 t else if t < 137 then tt2 t else if t < 165 then tt3 t else ⟨.bad, 0, 0, []⟩

def tl : List (Nat × TI) := [(1, tt 1), (2, tt 2), (3, tt 3), (4, tt 4), (5, tt 5), (6, tt 6), (7, tt 7), (8, tt 8), (9, tt 9), (10, tt 10), (11, tt 11), (12, tt 12), (13, tt 13), (14, tt 14), (15, tt 15), (16, tt 16), (17, tt 17), (18, tt 18), (19, tt 19), (21, tt 21), (22, tt 22), (23, tt 23), (24, tt 24), (25, tt 25), (26, tt 26), (27, tt 27), (28, tt 28), (29, tt 29), (30, tt 30), (31, tt 31), (32, tt 32), (33, tt 33), (34, tt 34), (36, tt 36), (37, tt 37), (38, tt 38), (40, tt 40), (41, tt 41), (42, tt 42), (43, tt 43), (44, tt 44), (45, tt 45), (46, tt 46), (47, tt 47), (49, tt 49), (50, tt 50), (51, tt 51), (52, tt 52), (53, tt 53), (54, tt 54), (55, tt 55), (56, tt 56), (57, tt 57), (58, tt 58), (59, tt 59), (60, tt 60), (61, tt 61), (62, tt 62), (63, tt 63), (64, tt 64), (65, tt 65), (66, tt 66), (67, tt 67), (68, tt 68), (69, tt 69), (70, tt 70), (71, tt 71), (72, tt 72), (73, tt 73), (74, tt 74), (75, tt 75), (76, tt 76), (77, tt 77), (78, tt 78), (79, tt 79), (81, tt 81), (83, tt 83), (85, tt 85), (86, tt 86), (88, tt 88), (89, tt 89), (90, tt 90), (91, tt 91), (92, tt 92), (93, tt 93), (94, tt 94), (96, tt 96), (97, tt 97), (98, tt 98), (99, tt 99), (100, tt 100), (101, tt 101), (102, tt 102), (104, tt 104), (105, tt 105), (106, tt 106), (107, tt 107), (108, tt 108), (109, tt 109), (110, tt 110), (111, tt 111), (112, tt 112), (114, tt 114), (115, tt 115), (116, tt 116), (117, tt 117), (118, tt 118), (119, tt 119), (121, tt 121), (123, tt 123), (125, tt 125), (126, tt 126), (127, tt 127), (128, tt 128), (129, tt 129), (131, tt 131), (132, tt 132), (133, tt 133), (135, tt 135), (136, tt 136), (138, tt 138), (139, tt 139), (141, tt 141), (142, tt 142), (143, tt 143), (144, tt 144), (145, tt 145), (146, tt 146), (147, tt 147), (148, tt 148), (149, tt 149), (150, tt 150), (151, tt 151), (155, tt 155), (156, tt 156), (157, tt 157), (158, tt 158), (159, tt 159), (160, tt 160), (161, tt 161), (162, tt 162), (163, tt 163), (164, tt 164)]

def tlook : List (Nat × TI) → Nat → TI
  | [], _ => ⟨.bad, 0, 0, []⟩
  | (n, i) :: l, t => if n = t then i else tlook l t

/-- Flat structs. -/
def eqT : TypeId → Bool
  | 69 => true
  | _ => false

/-- Rows that are laid out with their nil slices known to be nil. -/
def zT : TypeId → Bool
  | 116 => true
  | _ => false

def entered0 : FuncId → Bool
  | 2 => true
  | 3 => true
  | 4 => true
  | 5 => true
  | 6 => true
  | 7 => true
  | 8 => true
  | 9 => true
  | 10 => true
  | 11 => true
  | 12 => true
  | 13 => true
  | 14 => true
  | 15 => true
  | 16 => true
  | 17 => true
  | 18 => true
  | 19 => true
  | 20 => true
  | 21 => true
  | 22 => true
  | 23 => true
  | 24 => true
  | 25 => true
  | 26 => true
  | 27 => true
  | 28 => true
  | 29 => true
  | 30 => true
  | 31 => true
  | 32 => true
  | 33 => true
  | 34 => true
  | 35 => true
  | 36 => true
  | 37 => true
  | 38 => true
  | 39 => true
  | 40 => true
  | 41 => true
  | _ => false

def entered1 : FuncId → Bool
  | 42 => true
  | 43 => true
  | 44 => true
  | 45 => true
  | 46 => true
  | 47 => true
  | 48 => true
  | 49 => true
  | 50 => true
  | 51 => true
  | 52 => true
  | 53 => true
  | 54 => true
  | 55 => true
  | 56 => true
  | 57 => true
  | 58 => true
  | 59 => true
  | 60 => true
  | 61 => true
  | 62 => true
  | 63 => true
  | 64 => true
  | 65 => true
  | 66 => true
  | 67 => true
  | 68 => true
  | 69 => true
  | 70 => true
  | 71 => true
  | 72 => true
  | 73 => true
  | 74 => true
  | 75 => true
  | 76 => true
  | 77 => true
  | 78 => true
  | 79 => true
  | 80 => true
  | 81 => true
  | _ => false

def entered2 : FuncId → Bool
  | 83 => true
  | 84 => true
  | 85 => true
  | 86 => true
  | 87 => true
  | 88 => true
  | 89 => true
  | 90 => true
  | 91 => true
  | 92 => true
  | 93 => true
  | 94 => true
  | 95 => true
  | 96 => true
  | 97 => true
  | 98 => true
  | 99 => true
  | 121 => true
  | _ => false

/-- Functions with a body. -/
def entered (f : FuncId) : Bool := if f < 42 then entered0 f else if f < 82 then entered1 f else if f < 122 then entered2 f else false

end Go.Eng
