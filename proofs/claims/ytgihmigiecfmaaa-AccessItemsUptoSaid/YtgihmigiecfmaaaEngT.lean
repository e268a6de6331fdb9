/-
  MADE BY PROGRAM (gentt.py): the types of this translation, as the evaluator takes them, and the functions that it calls.
-/
import Derived.Test.YtgihmigiecfmaaaEngC0
namespace Go.Eng
open Go

def tt0 : TypeId → TI
  | 1 => ⟨.other, 1, 8, [.c (.v .nilFunc)]⟩
  | 2 => ⟨.int .i64, 1, 8, [.c (.v (.int .i64 0))]⟩
  | 3 => ⟨.int .i64, 1, 8, [.c (.v (.int .i64 0))]⟩
  | 4 => ⟨.bool, 1, 1, [.c (.v (.bool false))]⟩
  | 5 => ⟨.int .u8, 1, 1, [.c (.v (.int .u8 0))]⟩
  | 6 => ⟨.int .u8, 1, 1, [.c (.v (.int .u8 0))]⟩
  | 7 => ⟨.struct [(0, 2), (1, 3), (2, 4), (3, 6)], 4, 24, [.c (.v (.int .i64 0)), .c (.v (.int .i64 0)), .c (.v (.bool false)), .c (.v (.int .u8 0))]⟩
  | 8 => ⟨.struct [(0, 2), (1, 3), (2, 4), (3, 6)], 4, 24, [.c (.v (.int .i64 0)), .c (.v (.int .i64 0)), .c (.v (.bool false)), .c (.v (.int .u8 0))]⟩
  | 9 => ⟨.str, 1, 16, [.c (.v (.string ⟨#[]⟩))]⟩
  | 10 => ⟨.str, 1, 16, [.c (.v (.string ⟨#[]⟩))]⟩
  | 11 => ⟨.str, 1, 16, [.c (.v (.string ⟨#[]⟩))]⟩
  | 12 => ⟨.int .u64, 1, 8, [.c (.v (.int .u64 0))]⟩
  | 13 => ⟨.struct [(0, 9), (1, 12)], 2, 24, [.c (.v (.string ⟨#[]⟩)), .c (.v (.int .u64 0))]⟩
  | 14 => ⟨.struct [(0, 9), (1, 12)], 2, 24, [.c (.v (.string ⟨#[]⟩)), .c (.v (.int .u64 0))]⟩
  | 15 => ⟨.ptr 126, 1, 8, [.c (.v (.pointer none))]⟩
  | 16 => ⟨.ptr 129, 1, 8, [.c (.v (.pointer none))]⟩
  | 17 => ⟨.ptr 139, 1, 8, [.c (.v (.pointer none))]⟩
  | 18 => ⟨.struct [(0, 17)], 1, 8, [.c (.v (.pointer none))]⟩
  | 19 => ⟨.struct [(0, 17)], 1, 8, [.c (.v (.pointer none))]⟩
  | 21 => ⟨.int .i32, 1, 4, [.c (.v (.int .i32 0))]⟩
  | 22 => ⟨.slice 62, 1, 24, [.c (.sl [] [])]⟩
  | 23 => ⟨.other, 1, 8, [.c (.v .nilFunc)]⟩
  | 24 => ⟨.slice 5, 1, 24, [.c (.sl [] [])]⟩
  | 25 => ⟨.slice 27, 1, 24, [.c (.sl [] [])]⟩
  | 26 => ⟨.struct [(0, 4), (1, 24), (2, 25)], 3, 56, [.c (.v (.bool false)), .c (.sl [] []), .c (.sl [] [])]⟩
  | 27 => ⟨.struct [(0, 4), (1, 24), (2, 25)], 3, 56, [.c (.v (.bool false)), .c (.sl [] []), .c (.sl [] [])]⟩
  | 28 => ⟨.int .i64, 1, 8, [.c (.v (.int .i64 0))]⟩
  | 30 => ⟨.other, 1, 8, [.c (.v .nilFunc)]⟩
  | 32 => ⟨.other, 1, 8, [.c (.v .nilFunc)]⟩
  | 33 => ⟨.other, 1, 8, [.c (.v .nilFunc)]⟩
  | 34 => ⟨.other, 1, 8, [.c (.v .nilFunc)]⟩
  | 35 => ⟨.other, 1, 8, [.c (.v .nilFunc)]⟩
  | 36 => ⟨.other, 1, 8, [.c (.v .nilFunc)]⟩
  | 37 => ⟨.other, 1, 8, [.c (.v .nilFunc)]⟩
  | 38 => ⟨.slice 45, 1, 24, [.c (.sl [] [])]⟩
  | 39 => ⟨.int .u64, 1, 8, [.c (.v (.int .u64 0))]⟩
  | 40 => ⟨.arr 4 39, 4, 32, [.r 4 (List.replicate 4 (.int .u64 0))]⟩
  | 41 => ⟨.arr 4 39, 4, 32, [.r 4 (List.replicate 4 (.int .u64 0))]⟩
  | 42 => ⟨.arr 20 5, 20, 20, [.r 20 (List.replicate 20 (.int .u8 0))]⟩
  | 43 => ⟨.arr 20 5, 20, 20, [.r 20 (List.replicate 20 (.int .u8 0))]⟩
  | _ => ⟨.bad, 0, 0, []⟩

def tt1 : TypeId → TI
  | 44 => ⟨.struct [(0, 41), (4, 43), (24, 39), (25, 39), (26, 41), (30, 41)], 34, 136, [.r 4 (List.replicate 4 (.int .u64 0)), .r 20 (List.replicate 20 (.int .u8 0)), .c (.v (.int .u64 0)), .c (.v (.int .u64 0)), .r 4 (List.replicate 4 (.int .u64 0)), .r 4 (List.replicate 4 (.int .u64 0))]⟩
  | 45 => ⟨.struct [(0, 41), (4, 43), (24, 39), (25, 39), (26, 41), (30, 41)], 34, 136, [.r 4 (List.replicate 4 (.int .u64 0)), .r 20 (List.replicate 20 (.int .u8 0)), .c (.v (.int .u64 0)), .c (.v (.int .u64 0)), .r 4 (List.replicate 4 (.int .u64 0)), .r 4 (List.replicate 4 (.int .u64 0))]⟩
  | 46 => ⟨.other, 1, 8, [.c (.v .nilFunc)]⟩
  | 47 => ⟨.other, 1, 8, [.c (.v .nilFunc)]⟩
  | 48 => ⟨.other, 1, 8, [.c (.v .nilFunc)]⟩
  | 49 => ⟨.other, 1, 8, [.c (.v .nilFunc)]⟩
  | 50 => ⟨.other, 1, 8, [.c (.v .nilFunc)]⟩
  | 51 => ⟨.other, 1, 8, [.c (.v .nilFunc)]⟩
  | 53 => ⟨.other, 1, 8, [.c (.v .nilFunc)]⟩
  | 55 => ⟨.other, 1, 8, [.c (.v .nilFunc)]⟩
  | 57 => ⟨.other, 1, 8, [.c (.v .nilFunc)]⟩
  | 59 => ⟨.other, 1, 8, [.c (.v .nilFunc)]⟩
  | 60 => ⟨.slice 64, 1, 24, [.c (.sl [] [])]⟩
  | 61 => ⟨.struct [(0, 43), (20, 60)], 21, 48, [.r 20 (List.replicate 20 (.int .u8 0)), .c (.sl [] [])]⟩
  | 62 => ⟨.struct [(0, 43), (20, 60)], 21, 48, [.r 20 (List.replicate 20 (.int .u8 0)), .c (.sl [] [])]⟩
  | 63 => ⟨.arr 32 5, 32, 32, [.r 32 (List.replicate 32 (.int .u8 0))]⟩
  | 64 => ⟨.arr 32 5, 32, 32, [.r 32 (List.replicate 32 (.int .u8 0))]⟩
  | 65 => ⟨.other, 1, 8, [.c (.v .nilFunc)]⟩
  | 66 => ⟨.other, 1, 8, [.c (.v .nilFunc)]⟩
  | 67 => ⟨.other, 1, 8, [.c (.v .nilFunc)]⟩
  | 68 => ⟨.other, 1, 8, [.c (.v .nilFunc)]⟩
  | 69 => ⟨.other, 1, 8, [.c (.v .nilFunc)]⟩
  | 70 => ⟨.other, 1, 8, [.c (.v .nilFunc)]⟩
  | 72 => ⟨.other, 1, 8, [.c (.v .nilFunc)]⟩
  | 74 => ⟨.other, 1, 8, [.c (.v .nilFunc)]⟩
  | 76 => ⟨.other, 1, 8, [.c (.v .nilFunc)]⟩
  | 78 => ⟨.other, 1, 8, [.c (.v .nilFunc)]⟩
  | 79 => ⟨.other, 1, 8, [.c (.v .nilFunc)]⟩
  | 80 => ⟨.other, 1, 8, [.c (.v .nilFunc)]⟩
  | 81 => ⟨.other, 1, 8, [.c (.v .nilFunc)]⟩
  | 83 => ⟨.other, 1, 8, [.c (.v .nilFunc)]⟩
  | 85 => ⟨.other, 1, 8, [.c (.v .nilFunc)]⟩
  | 86 => ⟨.other, 1, 8, [.c (.v .nilFunc)]⟩
  | 87 => ⟨.other, 1, 8, [.c (.v .nilFunc)]⟩
  | 88 => ⟨.other, 1, 8, [.c (.v .nilFunc)]⟩
  | 90 => ⟨.other, 1, 8, [.c (.v .nilFunc)]⟩
  | 92 => ⟨.other, 1, 8, [.c (.v .nilFunc)]⟩
  | 93 => ⟨.other, 1, 8, [.c (.v .nilFunc)]⟩
  | 94 => ⟨.ptr 41, 1, 8, [.c (.v (.pointer none))]⟩
  | 95 => ⟨.other, 1, 8, [.c (.v .nilFunc)]⟩
  | _ => ⟨.bad, 0, 0, []⟩

def tt2 : TypeId → TI
  | 96 => ⟨.ptr 43, 1, 8, [.c (.v (.pointer none))]⟩
  | 97 => ⟨.other, 1, 8, [.c (.v .nilFunc)]⟩
  | 98 => ⟨.ptr 39, 1, 8, [.c (.v (.pointer none))]⟩
  | 99 => ⟨.slice 50, 1, 24, [.c (.sl [] [])]⟩
  | 101 => ⟨.other, 1, 8, [.c (.v .nilFunc)]⟩
  | 102 => ⟨.other, 1, 8, [.c (.v .nilFunc)]⟩
  | 103 => ⟨.other, 1, 8, [.c (.v .nilFunc)]⟩
  | 104 => ⟨.other, 1, 8, [.c (.v .nilFunc)]⟩
  | 105 => ⟨.other, 1, 8, [.c (.v .nilFunc)]⟩
  | 106 => ⟨.other, 1, 8, [.c (.v .nilFunc)]⟩
  | 108 => ⟨.other, 1, 8, [.c (.v .nilFunc)]⟩
  | 110 => ⟨.other, 1, 8, [.c (.v .nilFunc)]⟩
  | 112 => ⟨.other, 1, 8, [.c (.v .nilFunc)]⟩
  | 114 => ⟨.other, 1, 8, [.c (.v .nilFunc)]⟩
  | 115 => ⟨.other, 1, 8, [.c (.v .nilFunc)]⟩
  | 116 => ⟨.other, 1, 8, [.c (.v .nilFunc)]⟩
  | 117 => ⟨.other, 1, 8, [.c (.v .nilFunc)]⟩
  | 118 => ⟨.int .u64, 1, 8, [.c (.v (.int .u64 0))]⟩
  | 119 => ⟨.other, 1, 8, [.c (.v .nilFunc)]⟩
  | 120 => ⟨.other, 1, 8, [.c (.v .nilFunc)]⟩
  | 121 => ⟨.other, 1, 8, [.c (.v .nilFunc)]⟩
  | 122 => ⟨.other, 1, 8, [.c (.v .nilFunc)]⟩
  | 123 => ⟨.other, 1, 8, [.c (.v .nilFunc)]⟩
  | 124 => ⟨.other, 1, 8, [.c (.v .nilFunc)]⟩
  | 125 => ⟨.struct [(0, 17), (1, 17), (2, 17), (3, 9)], 4, 40, [.c (.v (.pointer none)), .c (.v (.pointer none)), .c (.v (.pointer none)), .c (.v (.string ⟨#[]⟩))]⟩
  | 126 => ⟨.struct [(0, 17), (1, 17), (2, 17), (3, 9)], 4, 40, [.c (.v (.pointer none)), .c (.v (.pointer none)), .c (.v (.pointer none)), .c (.v (.string ⟨#[]⟩))]⟩
  | 130 => ⟨.other, 1, 8, [.c (.v .nilFunc)]⟩
  | 131 => ⟨.int .u32, 1, 4, [.c (.v (.int .u32 0))]⟩
  | 132 => ⟨.int .u8, 1, 1, [.c (.v (.int .u8 0))]⟩
  | 133 => ⟨.int .u8, 1, 1, [.c (.v (.int .u8 0))]⟩
  | 134 => ⟨.other, 1, 8, [.c (.v .nilFunc)]⟩
  | 135 => ⟨.ptr 5, 1, 8, [.c (.v (.pointer none))]⟩
  | 136 => ⟨.int .i32, 1, 4, [.c (.v (.int .i32 0))]⟩
  | 137 => ⟨.int .i32, 1, 4, [.c (.v (.int .i32 0))]⟩
  | 138 => ⟨.struct [(0, 12), (1, 12), (2, 131), (3, 132), (4, 5), (5, 5), (6, 133), (7, 134), (8, 135), (9, 136), (10, 137)], 11, 48, [.c (.v (.int .u64 0)), .c (.v (.int .u64 0)), .c (.v (.int .u32 0)), .c (.v (.int .u8 0)), .c (.v (.int .u8 0)), .c (.v (.int .u8 0)), .c (.v (.int .u8 0)), .c (.v .nilFunc), .c (.v (.pointer none)), .c (.v (.int .i32 0)), .c (.v (.int .i32 0))]⟩
  | 139 => ⟨.struct [(0, 12), (1, 12), (2, 131), (3, 132), (4, 5), (5, 5), (6, 133), (7, 134), (8, 135), (9, 136), (10, 137)], 11, 48, [.c (.v (.int .u64 0)), .c (.v (.int .u64 0)), .c (.v (.int .u32 0)), .c (.v (.int .u8 0)), .c (.v (.int .u8 0)), .c (.v (.int .u8 0)), .c (.v (.int .u8 0)), .c (.v .nilFunc), .c (.v (.pointer none)), .c (.v (.int .i32 0)), .c (.v (.int .i32 0))]⟩
  | _ => ⟨.bad, 0, 0, []⟩

def tt (t : TypeId) : TI := if t < 44 then tt0 t else if t < 96 then tt1 t else if t < 140 then tt2 t else ⟨.bad, 0, 0, []⟩

def tl : List (Nat × TI) := [(1, tt 1), (2, tt 2), (3, tt 3), (4, tt 4), (5, tt 5), (6, tt 6), (7, tt 7), (8, tt 8), (9, tt 9), (10, tt 10), (11, tt 11), (12, tt 12), (13, tt 13), (14, tt 14), (15, tt 15), (16, tt 16), (17, tt 17), (18, tt 18), (19, tt 19), (21, tt 21), (22, tt 22), (23, tt 23), (24, tt 24), (25, tt 25), (26, tt 26), (27, tt 27), (28, tt 28), (30, tt 30), (32, tt 32), (33, tt 33), (34, tt 34), (35, tt 35), (36, tt 36), (37, tt 37), (38, tt 38), (39, tt 39), (40, tt 40), (41, tt 41), (42, tt 42), (43, tt 43), (44, tt 44), (45, tt 45), (46, tt 46), (47, tt 47), (48, tt 48), (49, tt 49), (50, tt 50), (51, tt 51), (53, tt 53), (55, tt 55), (57, tt 57), (59, tt 59), (60, tt 60), (61, tt 61), (62, tt 62), (63, tt 63), (64, tt 64), (65, tt 65), (66, tt 66), (67, tt 67), (68, tt 68), (69, tt 69), (70, tt 70), (72, tt 72), (74, tt 74), (76, tt 76), (78, tt 78), (79, tt 79), (80, tt 80), (81, tt 81), (83, tt 83), (85, tt 85), (86, tt 86), (87, tt 87), (88, tt 88), (90, tt 90), (92, tt 92), (93, tt 93), (94, tt 94), (95, tt 95), (96, tt 96), (97, tt 97), (98, tt 98), (99, tt 99), (101, tt 101), (102, tt 102), (103, tt 103), (104, tt 104), (105, tt 105), (106, tt 106), (108, tt 108), (110, tt 110), (112, tt 112), (114, tt 114), (115, tt 115), (116, tt 116), (117, tt 117), (118, tt 118), (119, tt 119), (120, tt 120), (121, tt 121), (122, tt 122), (123, tt 123), (124, tt 124), (125, tt 125), (126, tt 126), (130, tt 130), (131, tt 131), (132, tt 132), (133, tt 133), (134, tt 134), (135, tt 135), (136, tt 136), (137, tt 137), (138, tt 138), (139, tt 139)]

def tlook : List (Nat × TI) → Nat → TI
  | [], _ => ⟨.bad, 0, 0, []⟩
  | (n, i) :: l, t => if n = t then i else tlook l t

/-- Flat structs. -/
def eqT : TypeId → Bool
  | 45 => true
  | _ => false

/-- Rows that are laid out with their nil slices known to be nil. -/
def zT : TypeId → Bool
  | _ => false

def entered0 : FuncId → Bool
  | 2 => true
  | 3 => true
  | 4 => true
  | 5 => true
  | 6 => true
  | 7 => true
  | 8 => true
  | 9 => true
  | 10 => true
  | 11 => true
  | 12 => true
  | 13 => true
  | 14 => true
  | 15 => true
  | 16 => true
  | 17 => true
  | 18 => true
  | 19 => true
  | 20 => true
  | 21 => true
  | 22 => true
  | 23 => true
  | 24 => true
  | 25 => true
  | 26 => true
  | 27 => true
  | 28 => true
  | 29 => true
  | 30 => true
  | 31 => true
  | 32 => true
  | 33 => true
  | 34 => true
  | 35 => true
  | 36 => true
  | 37 => true
  | 38 => true
  | 39 => true
  | 40 => true
  | 41 => true
  | _ => false

def entered1 : FuncId → Bool
  | 42 => true
  | 43 => true
  | 44 => true
  | 45 => true
  | 46 => true
  | 47 => true
  | 48 => true
  | 49 => true
  | 50 => true
  | 51 => true
  | 52 => true
  | 53 => true
  | 54 => true
  | 55 => true
  | 56 => true
  | 57 => true
  | 58 => true
  | 59 => true
  | 60 => true
  | 61 => true
  | 62 => true
  | 63 => true
  | 64 => true
  | 65 => true
  | 66 => true
  | 67 => true
  | 68 => true
  | 69 => true
  | 70 => true
  | 71 => true
  | 72 => true
  | 73 => true
  | 74 => true
  | 75 => true
  | 76 => true
  | 77 => true
  | 78 => true
  | 79 => true
  | 80 => true
  | 81 => true
  | _ => false

def entered2 : FuncId → Bool
  | 82 => true
  | 83 => true
  | _ => false

/-- Functions with a body. -/
def entered (f : FuncId) : Bool := if f < 42 then entered0 f else if f < 82 then entered1 f else if f < 84 then entered2 f else false

end Go.Eng
