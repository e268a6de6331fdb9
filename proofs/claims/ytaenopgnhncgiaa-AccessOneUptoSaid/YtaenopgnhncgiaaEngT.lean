/-
  MADE BY PROGRAM (gentt.py): the types of this translation, as the evaluator takes them, and the functions that it calls.
-/
import Derived.Test.YtaenopgnhncgiaaEngC0
namespace Go.Eng
open Go

def tt0 : TypeId → TI
  | 1 => ⟨.other, 1, 8, [.c (.v .nilFunc)]⟩
  | 2 => ⟨.int .i64, 1, 8, [.c (.v (.int .i64 0))]⟩
  | 3 => ⟨.int .i64, 1, 8, [.c (.v (.int .i64 0))]⟩
  | 4 => ⟨.bool, 1, 1, [.c (.v (.bool false))]⟩
  | 5 => ⟨.int .u8, 1, 1, [.c (.v (.int .u8 0))]⟩
  | 6 => ⟨.int .u8, 1, 1, [.c (.v (.int .u8 0))]⟩
  | 7 => ⟨.struct [(0, 2), (1, 3), (2, 4), (3, 6)], 4, 24, [.c (.v (.int .i64 0)), .c (.v (.int .i64 0)), .c (.v (.bool false)), .c (.v (.int .u8 0))]⟩
  | 8 => ⟨.struct [(0, 2), (1, 3), (2, 4), (3, 6)], 4, 24, [.c (.v (.int .i64 0)), .c (.v (.int .i64 0)), .c (.v (.bool false)), .c (.v (.int .u8 0))]⟩
  | 9 => ⟨.str, 1, 16, [.c (.v (.string ⟨#[]⟩))]⟩
  | 10 => ⟨.str, 1, 16, [.c (.v (.string ⟨#[]⟩))]⟩
  | 11 => ⟨.str, 1, 16, [.c (.v (.string ⟨#[]⟩))]⟩
  | 12 => ⟨.int .u64, 1, 8, [.c (.v (.int .u64 0))]⟩
  | 13 => ⟨.struct [(0, 9), (1, 12)], 2, 24, [.c (.v (.string ⟨#[]⟩)), .c (.v (.int .u64 0))]⟩
  | 14 => ⟨.struct [(0, 9), (1, 12)], 2, 24, [.c (.v (.string ⟨#[]⟩)), .c (.v (.int .u64 0))]⟩
  | 15 => ⟨.ptr 144, 1, 8, [.c (.v (.pointer none))]⟩
  | 16 => ⟨.ptr 147, 1, 8, [.c (.v (.pointer none))]⟩
  | 17 => ⟨.ptr 157, 1, 8, [.c (.v (.pointer none))]⟩
  | 18 => ⟨.struct [(0, 17)], 1, 8, [.c (.v (.pointer none))]⟩
  | 19 => ⟨.struct [(0, 17)], 1, 8, [.c (.v (.pointer none))]⟩
  | 21 => ⟨.int .i32, 1, 4, [.c (.v (.int .i32 0))]⟩
  | 22 => ⟨.int .u64, 1, 8, [.c (.v (.int .u64 0))]⟩
  | 23 => ⟨.arr 4 22, 4, 32, [.r 4 (List.replicate 4 (.int .u64 0))]⟩
  | 24 => ⟨.arr 4 22, 4, 32, [.r 4 (List.replicate 4 (.int .u64 0))]⟩
  | 25 => ⟨.int .i64, 1, 8, [.c (.v (.int .i64 0))]⟩
  | 27 => ⟨.other, 1, 8, [.c (.v .nilFunc)]⟩
  | 29 => ⟨.other, 1, 8, [.c (.v .nilFunc)]⟩
  | 30 => ⟨.other, 1, 8, [.c (.v .nilFunc)]⟩
  | 31 => ⟨.other, 1, 8, [.c (.v .nilFunc)]⟩
  | 32 => ⟨.slice 67, 1, 24, [.c (.sl [] [])]⟩
  | 33 => ⟨.other, 1, 8, [.c (.v .nilFunc)]⟩
  | 34 => ⟨.slice 5, 1, 24, [.c (.sl [] [])]⟩
  | 35 => ⟨.slice 37, 1, 24, [.c (.sl [] [])]⟩
  | 36 => ⟨.struct [(0, 4), (1, 34), (2, 35)], 3, 56, [.c (.v (.bool false)), .c (.sl [] []), .c (.sl [] [])]⟩
  | 37 => ⟨.struct [(0, 4), (1, 34), (2, 35)], 3, 56, [.c (.v (.bool false)), .c (.sl [] []), .c (.sl [] [])]⟩
  | 39 => ⟨.other, 1, 8, [.c (.v .nilFunc)]⟩
  | 41 => ⟨.other, 1, 8, [.c (.v .nilFunc)]⟩
  | 42 => ⟨.other, 1, 8, [.c (.v .nilFunc)]⟩
  | 43 => ⟨.other, 1, 8, [.c (.v .nilFunc)]⟩
  | 44 => ⟨.other, 1, 8, [.c (.v .nilFunc)]⟩
  | 45 => ⟨.other, 1, 8, [.c (.v .nilFunc)]⟩
  | _ => ⟨.bad, 0, 0, []⟩

def tt1 : TypeId → TI
  | 46 => ⟨.slice 50, 1, 24, [.c (.sl [] [])]⟩
  | 47 => ⟨.arr 20 5, 20, 20, [.r 20 (List.replicate 20 (.int .u8 0))]⟩
  | 48 => ⟨.arr 20 5, 20, 20, [.r 20 (List.replicate 20 (.int .u8 0))]⟩
  | 49 => ⟨.struct [(0, 24), (4, 48), (24, 22), (25, 22), (26, 24), (30, 24)], 34, 136, [.r 4 (List.replicate 4 (.int .u64 0)), .r 20 (List.replicate 20 (.int .u8 0)), .c (.v (.int .u64 0)), .c (.v (.int .u64 0)), .r 4 (List.replicate 4 (.int .u64 0)), .r 4 (List.replicate 4 (.int .u64 0))]⟩
  | 50 => ⟨.struct [(0, 24), (4, 48), (24, 22), (25, 22), (26, 24), (30, 24)], 34, 136, [.r 4 (List.replicate 4 (.int .u64 0)), .r 20 (List.replicate 20 (.int .u8 0)), .c (.v (.int .u64 0)), .c (.v (.int .u64 0)), .r 4 (List.replicate 4 (.int .u64 0)), .r 4 (List.replicate 4 (.int .u64 0))]⟩
  | 51 => ⟨.other, 1, 8, [.c (.v .nilFunc)]⟩
  | 52 => ⟨.other, 1, 8, [.c (.v .nilFunc)]⟩
  | 53 => ⟨.other, 1, 8, [.c (.v .nilFunc)]⟩
  | 54 => ⟨.other, 1, 8, [.c (.v .nilFunc)]⟩
  | 55 => ⟨.other, 1, 8, [.c (.v .nilFunc)]⟩
  | 56 => ⟨.other, 1, 8, [.c (.v .nilFunc)]⟩
  | 58 => ⟨.other, 1, 8, [.c (.v .nilFunc)]⟩
  | 60 => ⟨.other, 1, 8, [.c (.v .nilFunc)]⟩
  | 62 => ⟨.other, 1, 8, [.c (.v .nilFunc)]⟩
  | 64 => ⟨.other, 1, 8, [.c (.v .nilFunc)]⟩
  | 65 => ⟨.slice 69, 1, 24, [.c (.sl [] [])]⟩
  | 66 => ⟨.struct [(0, 48), (20, 65)], 21, 48, [.r 20 (List.replicate 20 (.int .u8 0)), .c (.sl [] [])]⟩
  | 67 => ⟨.struct [(0, 48), (20, 65)], 21, 48, [.r 20 (List.replicate 20 (.int .u8 0)), .c (.sl [] [])]⟩
  | 68 => ⟨.arr 32 5, 32, 32, [.r 32 (List.replicate 32 (.int .u8 0))]⟩
  | 69 => ⟨.arr 32 5, 32, 32, [.r 32 (List.replicate 32 (.int .u8 0))]⟩
  | 70 => ⟨.other, 1, 8, [.c (.v .nilFunc)]⟩
  | 72 => ⟨.other, 1, 8, [.c (.v .nilFunc)]⟩
  | 73 => ⟨.other, 1, 8, [.c (.v .nilFunc)]⟩
  | 74 => ⟨.other, 1, 8, [.c (.v .nilFunc)]⟩
  | 75 => ⟨.other, 1, 8, [.c (.v .nilFunc)]⟩
  | 77 => ⟨.other, 1, 8, [.c (.v .nilFunc)]⟩
  | 78 => ⟨.other, 1, 8, [.c (.v .nilFunc)]⟩
  | 79 => ⟨.other, 1, 8, [.c (.v .nilFunc)]⟩
  | 80 => ⟨.other, 1, 8, [.c (.v .nilFunc)]⟩
  | 81 => ⟨.other, 1, 8, [.c (.v .nilFunc)]⟩
  | 82 => ⟨.other, 1, 8, [.c (.v .nilFunc)]⟩
  | 83 => ⟨.other, 1, 8, [.c (.v .nilFunc)]⟩
  | 85 => ⟨.other, 1, 8, [.c (.v .nilFunc)]⟩
  | 87 => ⟨.other, 1, 8, [.c (.v .nilFunc)]⟩
  | 89 => ⟨.other, 1, 8, [.c (.v .nilFunc)]⟩
  | 91 => ⟨.other, 1, 8, [.c (.v .nilFunc)]⟩
  | 92 => ⟨.other, 1, 8, [.c (.v .nilFunc)]⟩
  | 94 => ⟨.other, 1, 8, [.c (.v .nilFunc)]⟩
  | 95 => ⟨.arr 8 22, 8, 64, [.r 8 (List.replicate 8 (.int .u64 0))]⟩
  | 96 => ⟨.other, 1, 8, [.c (.v .nilFunc)]⟩
  | _ => ⟨.bad, 0, 0, []⟩

def tt2 : TypeId → TI
  | 97 => ⟨.other, 1, 8, [.c (.v .nilFunc)]⟩
  | 98 => ⟨.other, 1, 8, [.c (.v .nilFunc)]⟩
  | 99 => ⟨.other, 1, 8, [.c (.v .nilFunc)]⟩
  | 101 => ⟨.other, 1, 8, [.c (.v .nilFunc)]⟩
  | 103 => ⟨.other, 1, 8, [.c (.v .nilFunc)]⟩
  | 104 => ⟨.other, 1, 8, [.c (.v .nilFunc)]⟩
  | 105 => ⟨.other, 1, 8, [.c (.v .nilFunc)]⟩
  | 107 => ⟨.other, 1, 8, [.c (.v .nilFunc)]⟩
  | 109 => ⟨.other, 1, 8, [.c (.v .nilFunc)]⟩
  | 110 => ⟨.other, 1, 8, [.c (.v .nilFunc)]⟩
  | 111 => ⟨.ptr 24, 1, 8, [.c (.v (.pointer none))]⟩
  | 112 => ⟨.other, 1, 8, [.c (.v .nilFunc)]⟩
  | 113 => ⟨.ptr 48, 1, 8, [.c (.v (.pointer none))]⟩
  | 114 => ⟨.other, 1, 8, [.c (.v .nilFunc)]⟩
  | 115 => ⟨.ptr 22, 1, 8, [.c (.v (.pointer none))]⟩
  | 116 => ⟨.slice 55, 1, 24, [.c (.sl [] [])]⟩
  | 118 => ⟨.other, 1, 8, [.c (.v .nilFunc)]⟩
  | 119 => ⟨.other, 1, 8, [.c (.v .nilFunc)]⟩
  | 120 => ⟨.other, 1, 8, [.c (.v .nilFunc)]⟩
  | 121 => ⟨.other, 1, 8, [.c (.v .nilFunc)]⟩
  | 122 => ⟨.other, 1, 8, [.c (.v .nilFunc)]⟩
  | 123 => ⟨.other, 1, 8, [.c (.v .nilFunc)]⟩
  | 124 => ⟨.other, 1, 8, [.c (.v .nilFunc)]⟩
  | 126 => ⟨.other, 1, 8, [.c (.v .nilFunc)]⟩
  | 128 => ⟨.other, 1, 8, [.c (.v .nilFunc)]⟩
  | 130 => ⟨.other, 1, 8, [.c (.v .nilFunc)]⟩
  | 131 => ⟨.int .u64, 1, 8, [.c (.v (.int .u64 0))]⟩
  | 133 => ⟨.other, 1, 8, [.c (.v .nilFunc)]⟩
  | 134 => ⟨.other, 1, 8, [.c (.v .nilFunc)]⟩
  | 135 => ⟨.other, 1, 8, [.c (.v .nilFunc)]⟩
  | 136 => ⟨.other, 1, 8, [.c (.v .nilFunc)]⟩
  | 137 => ⟨.other, 1, 8, [.c (.v .nilFunc)]⟩
  | 138 => ⟨.other, 1, 8, [.c (.v .nilFunc)]⟩
  | 139 => ⟨.other, 1, 8, [.c (.v .nilFunc)]⟩
  | 140 => ⟨.other, 1, 8, [.c (.v .nilFunc)]⟩
  | 141 => ⟨.other, 1, 8, [.c (.v .nilFunc)]⟩
  | 142 => ⟨.other, 1, 8, [.c (.v .nilFunc)]⟩
  | 143 => ⟨.struct [(0, 17), (1, 17), (2, 17), (3, 9)], 4, 40, [.c (.v (.pointer none)), .c (.v (.pointer none)), .c (.v (.pointer none)), .c (.v (.string ⟨#[]⟩))]⟩
  | 144 => ⟨.struct [(0, 17), (1, 17), (2, 17), (3, 9)], 4, 40, [.c (.v (.pointer none)), .c (.v (.pointer none)), .c (.v (.pointer none)), .c (.v (.string ⟨#[]⟩))]⟩
  | 148 => ⟨.other, 1, 8, [.c (.v .nilFunc)]⟩
  | _ => ⟨.bad, 0, 0, []⟩

def tt3 : TypeId → TI
  | 149 => ⟨.int .u32, 1, 4, [.c (.v (.int .u32 0))]⟩
  | 150 => ⟨.int .u8, 1, 1, [.c (.v (.int .u8 0))]⟩
  | 151 => ⟨.int .u8, 1, 1, [.c (.v (.int .u8 0))]⟩
  | 152 => ⟨.other, 1, 8, [.c (.v .nilFunc)]⟩
  | 153 => ⟨.ptr 5, 1, 8, [.c (.v (.pointer none))]⟩
  | 154 => ⟨.int .i32, 1, 4, [.c (.v (.int .i32 0))]⟩
  | 155 => ⟨.int .i32, 1, 4, [.c (.v (.int .i32 0))]⟩
  | 156 => ⟨.struct [(0, 12), (1, 12), (2, 149), (3, 150), (4, 5), (5, 5), (6, 151), (7, 152), (8, 153), (9, 154), (10, 155)], 11, 48, [.c (.v (.int .u64 0)), .c (.v (.int .u64 0)), .c (.v (.int .u32 0)), .c (.v (.int .u8 0)), .c (.v (.int .u8 0)), .c (.v (.int .u8 0)), .c (.v (.int .u8 0)), .c (.v .nilFunc), .c (.v (.pointer none)), .c (.v (.int .i32 0)), .c (.v (.int .i32 0))]⟩
  | 157 => ⟨.struct [(0, 12), (1, 12), (2, 149), (3, 150), (4, 5), (5, 5), (6, 151), (7, 152), (8, 153), (9, 154), (10, 155)], 11, 48, [.c (.v (.int .u64 0)), .c (.v (.int .u64 0)), .c (.v (.int .u32 0)), .c (.v (.int .u8 0)), .c (.v (.int .u8 0)), .c (.v (.int .u8 0)), .c (.v (.int .u8 0)), .c (.v .nilFunc), .c (.v (.pointer none)), .c (.v (.int .i32 0)), .c (.v (.int .i32 0))]⟩
  | _ => ⟨.bad, 0, 0, []⟩

def tt (t : TypeId) : TI := if t < 46 then tt0 t else if t < 97 then tt1 t else if t < 149 then tt2 t else if t < 158 then tt3 t else ⟨.bad, 0, 0, []⟩

def tl : List (Nat × TI) := [(1, tt 1), (2, tt 2), (3, tt 3), (4, tt 4), (5, tt 5), (6, tt 6), (7, tt 7), (8, tt 8), (9, tt 9), (10, tt 10), (11, tt 11), (12, tt 12), (13, tt 13), (14, tt 14), (15, tt 15), (16, tt 16), (17, tt 17), (18, tt 18), (19, tt 19), (21, tt 21), (22, tt 22), (23, tt 23), (24, tt 24), (25, tt 25), (27, tt 27), (29, tt 29), (30, tt 30), (31, tt 31), (32, tt 32), (33, tt 33), (34, tt 34), (35, tt 35), (36, tt 36), (37, tt 37), (39, tt 39), (41, tt 41), (42, tt 42), (43, tt 43), (44, tt 44), (45, tt 45), (46, tt 46), (47, tt 47), (48, tt 48), (49, tt 49), (50, tt 50), (51, tt 51), (52, tt 52), (53, tt 53), (54, tt 54), (55, tt 55), (56, tt 56), (58, tt 58), (60, tt 60), (62, tt 62), (64, tt 64), (65, tt 65), (66, tt 66), (67, tt 67), (68, tt 68), (69, tt 69), (70, tt 70), (72, tt 72), (73, tt 73), (74, tt 74), (75, tt 75), (77, tt 77), (78, tt 78), (79, tt 79), (80, tt 80), (81, tt 81), (82, tt 82), (83, tt 83), (85, tt 85), (87, tt 87), (89, tt 89), (91, tt 91), (92, tt 92), (94, tt 94), (95, tt 95), (96, tt 96), (97, tt 97), (98, tt 98), (99, tt 99), (101, tt 101), (103, tt 103), (104, tt 104), (105, tt 105), (107, tt 107), (109, tt 109), (110, tt 110), (111, tt 111), (112, tt 112), (113, tt 113), (114, tt 114), (115, tt 115), (116, tt 116), (118, tt 118), (119, tt 119), (120, tt 120), (121, tt 121), (122, tt 122), (123, tt 123), (124, tt 124), (126, tt 126), (128, tt 128), (130, tt 130), (131, tt 131), (133, tt 133), (134, tt 134), (135, tt 135), (136, tt 136), (137, tt 137), (138, tt 138), (139, tt 139), (140, tt 140), (141, tt 141), (142, tt 142), (143, tt 143), (144, tt 144), (148, tt 148), (149, tt 149), (150, tt 150), (151, tt 151), (152, tt 152), (153, tt 153), (154, tt 154), (155, tt 155), (156, tt 156), (157, tt 157)]

def tlook : List (Nat × TI) → Nat → TI
  | [], _ => ⟨.bad, 0, 0, []⟩
  | (n, i) :: l, t => if n = t then i else tlook l t

/-- Flat structs. -/
def eqT : TypeId → Bool
  | 50 => true
  | _ => false

def entered0 : FuncId → Bool
  | 2 => true
  | 3 => true
  | 4 => true
  | 5 => true
  | 6 => true
  | 7 => true
  | 8 => true
  | 9 => true
  | 10 => true
  | 11 => true
  | 12 => true
  | 13 => true
  | 14 => true
  | 15 => true
  | 16 => true
  | 17 => true
  | 18 => true
  | 19 => true
  | 20 => true
  | 21 => true
  | 22 => true
  | 23 => true
  | 24 => true
  | 25 => true
  | 26 => true
  | 27 => true
  | 28 => true
  | 29 => true
  | 30 => true
  | 31 => true
  | 32 => true
  | 33 => true
  | 34 => true
  | 35 => true
  | 36 => true
  | 37 => true
  | 38 => true
  | 39 => true
  | 40 => true
  | 41 => true
  | _ => false

def entered1 : FuncId → Bool
  | 42 => true
  | 43 => true
  | 44 => true
  | 45 => true
  | 46 => true
  | 47 => true
  | 48 => true
  | 49 => true
  | 50 => true
  | 51 => true
  | 52 => true
  | 53 => true
  | 55 => true
  | 56 => true
  | 57 => true
  | 58 => true
  | 59 => true
  | 60 => true
  | 61 => true
  | 62 => true
  | 63 => true
  | 64 => true
  | 65 => true
  | 66 => true
  | 67 => true
  | 68 => true
  | 69 => true
  | 70 => true
  | 71 => true
  | 72 => true
  | 73 => true
  | 74 => true
  | 75 => true
  | 76 => true
  | 77 => true
  | 78 => true
  | 79 => true
  | 80 => true
  | 81 => true
  | 82 => true
  | _ => false

def entered2 : FuncId → Bool
  | 83 => true
  | 84 => true
  | 85 => true
  | 86 => true
  | 87 => true
  | 88 => true
  | 89 => true
  | 90 => true
  | 91 => true
  | 92 => true
  | 93 => true
  | 94 => true
  | 95 => true
  | 96 => true
  | 97 => true
  | 98 => true
  | 99 => true
  | 100 => true
  | 101 => true
  | 102 => true
  | _ => false

/-- Functions with a body. -/
def entered (f : FuncId) : Bool := if f < 42 then entered0 f else if f < 83 then entered1 f else if f < 103 then entered2 f else false

end Go.Eng
