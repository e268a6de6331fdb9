/-
  MADE BY PROGRAM (gentt.py): the types of this translation, as the evaluator takes them, and the functions that it calls.
-/
import Derived.Test.YtejelaaocjfjbaaDoorEngC0
namespace Go.Eng
open Go

def tt0 : TypeId → TI
  | 1 => ⟨.other, 1, 8, [.c (.v .nilFunc)]⟩
  | 2 => ⟨.int .i64, 1, 8, [.c (.v (.int .i64 0))]⟩
  | 3 => ⟨.int .i64, 1, 8, [.c (.v (.int .i64 0))]⟩
  | 4 => ⟨.bool, 1, 1, [.c (.v (.bool false))]⟩
  | 5 => ⟨.int .u8, 1, 1, [.c (.v (.int .u8 0))]⟩
  | 6 => ⟨.int .u8, 1, 1, [.c (.v (.int .u8 0))]⟩
  | 7 => ⟨.struct [(0, 2), (1, 3), (2, 4), (3, 6)], 4, 24, [.c (.v (.int .i64 0)), .c (.v (.int .i64 0)), .c (.v (.bool false)), .c (.v (.int .u8 0))]⟩
  | 8 => ⟨.struct [(0, 2), (1, 3), (2, 4), (3, 6)], 4, 24, [.c (.v (.int .i64 0)), .c (.v (.int .i64 0)), .c (.v (.bool false)), .c (.v (.int .u8 0))]⟩
  | 9 => ⟨.str, 1, 16, [.c (.v (.string ⟨#[]⟩))]⟩
  | 10 => ⟨.str, 1, 16, [.c (.v (.string ⟨#[]⟩))]⟩
  | 11 => ⟨.str, 1, 16, [.c (.v (.string ⟨#[]⟩))]⟩
  | 12 => ⟨.int .u64, 1, 8, [.c (.v (.int .u64 0))]⟩
  | 13 => ⟨.struct [(0, 9), (1, 12)], 2, 24, [.c (.v (.string ⟨#[]⟩)), .c (.v (.int .u64 0))]⟩
  | 14 => ⟨.struct [(0, 9), (1, 12)], 2, 24, [.c (.v (.string ⟨#[]⟩)), .c (.v (.int .u64 0))]⟩
  | 15 => ⟨.ptr 178, 1, 8, [.c (.v (.pointer none))]⟩
  | 16 => ⟨.ptr 181, 1, 8, [.c (.v (.pointer none))]⟩
  | 17 => ⟨.ptr 191, 1, 8, [.c (.v (.pointer none))]⟩
  | 18 => ⟨.struct [(0, 17)], 1, 8, [.c (.v (.pointer none))]⟩
  | 19 => ⟨.struct [(0, 17)], 1, 8, [.c (.v (.pointer none))]⟩
  | 21 => ⟨.int .i32, 1, 4, [.c (.v (.int .i32 0))]⟩
  | 22 => ⟨.int .u64, 1, 8, [.c (.v (.int .u64 0))]⟩
  | 23 => ⟨.arr 4 22, 4, 32, [.r 4 (List.replicate 4 (.int .u64 0))]⟩
  | 24 => ⟨.arr 4 22, 4, 32, [.r 4 (List.replicate 4 (.int .u64 0))]⟩
  | 25 => ⟨.arr 20 5, 20, 20, [.r 20 (List.replicate 20 (.int .u8 0))]⟩
  | 26 => ⟨.arr 20 5, 20, 20, [.r 20 (List.replicate 20 (.int .u8 0))]⟩
  | 27 => ⟨.slice 5, 1, 24, [.c (.sl [] [])]⟩
  | 28 => ⟨.slice 54, 1, 24, [.c (.sl [] [])]⟩
  | 29 => ⟨.slice 38, 1, 24, [.c (.sl [] [])]⟩
  | 30 => ⟨.slice 36, 1, 24, [.c (.sl [] [])]⟩
  | 31 => ⟨.struct [(0, 3), (1, 22), (2, 22), (3, 24), (7, 24), (11, 24), (15, 22), (16, 4), (17, 26), (37, 24), (41, 27), (42, 28), (43, 24), (47, 29), (48, 30), (49, 24), (53, 24), (57, 24)], 61, 408, [.c (.v (.int .i64 0)), .c (.v (.int .u64 0)), .c (.v (.int .u64 0)), .r 4 (List.replicate 4 (.int .u64 0)), .r 4 (List.replicate 4 (.int .u64 0)), .r 4 (List.replicate 4 (.int .u64 0)), .c (.v (.int .u64 0)), .c (.v (.bool false)), .r 20 (List.replicate 20 (.int .u8 0)), .r 4 (List.replicate 4 (.int .u64 0)), .c (.sl [] []), .c (.sl [] []), .r 4 (List.replicate 4 (.int .u64 0)), .c (.sl [] []), .c (.sl [] []), .r 4 (List.replicate 4 (.int .u64 0)), .r 4 (List.replicate 4 (.int .u64 0)), .r 4 (List.replicate 4 (.int .u64 0))]⟩
  | 32 => ⟨.struct [(0, 3), (1, 22), (2, 22), (3, 24), (7, 24), (11, 24), (15, 22), (16, 4), (17, 26), (37, 24), (41, 27), (42, 28), (43, 24), (47, 29), (48, 30), (49, 24), (53, 24), (57, 24)], 61, 408, [.c (.v (.int .i64 0)), .c (.v (.int .u64 0)), .c (.v (.int .u64 0)), .r 4 (List.replicate 4 (.int .u64 0)), .r 4 (List.replicate 4 (.int .u64 0)), .r 4 (List.replicate 4 (.int .u64 0)), .c (.v (.int .u64 0)), .c (.v (.bool false)), .r 20 (List.replicate 20 (.int .u8 0)), .r 4 (List.replicate 4 (.int .u64 0)), .c (.sl [] []), .c (.sl [] []), .r 4 (List.replicate 4 (.int .u64 0)), .c (.sl [] []), .c (.sl [] []), .r 4 (List.replicate 4 (.int .u64 0)), .r 4 (List.replicate 4 (.int .u64 0)), .r 4 (List.replicate 4 (.int .u64 0))]⟩
  | 33 => ⟨.other, 1, 8, [.c (.v .nilFunc)]⟩
  | 34 => ⟨.other, 1, 8, [.c (.v .nilFunc)]⟩
  | 35 => ⟨.struct [(0, 24), (4, 26), (24, 22), (25, 22), (26, 24), (30, 24)], 34, 136, [.r 4 (List.replicate 4 (.int .u64 0)), .r 20 (List.replicate 20 (.int .u8 0)), .c (.v (.int .u64 0)), .c (.v (.int .u64 0)), .r 4 (List.replicate 4 (.int .u64 0)), .r 4 (List.replicate 4 (.int .u64 0))]⟩
  | 36 => ⟨.struct [(0, 24), (4, 26), (24, 22), (25, 22), (26, 24), (30, 24)], 34, 136, [.r 4 (List.replicate 4 (.int .u64 0)), .r 20 (List.replicate 20 (.int .u8 0)), .c (.v (.int .u64 0)), .c (.v (.int .u64 0)), .r 4 (List.replicate 4 (.int .u64 0)), .r 4 (List.replicate 4 (.int .u64 0))]⟩
  | 37 => ⟨.arr 32 5, 32, 32, [.r 32 (List.replicate 32 (.int .u8 0))]⟩
  | 38 => ⟨.arr 32 5, 32, 32, [.r 32 (List.replicate 32 (.int .u8 0))]⟩
  | 39 => ⟨.other, 1, 8, [.c (.v .nilFunc)]⟩
  | 40 => ⟨.other, 1, 8, [.c (.v .nilFunc)]⟩
  | 41 => ⟨.other, 1, 8, [.c (.v .nilFunc)]⟩
  | _ => ⟨.bad, 0, 0, []⟩

def tt1 : TypeId → TI
  | 42 => ⟨.int .i64, 1, 8, [.c (.v (.int .i64 0))]⟩
  | 44 => ⟨.other, 1, 8, [.c (.v .nilFunc)]⟩
  | 45 => ⟨.other, 1, 8, [.c (.v .nilFunc)]⟩
  | 47 => ⟨.other, 1, 8, [.c (.v .nilFunc)]⟩
  | 48 => ⟨.other, 1, 8, [.c (.v .nilFunc)]⟩
  | 49 => ⟨.other, 1, 8, [.c (.v .nilFunc)]⟩
  | 50 => ⟨.other, 1, 8, [.c (.v .nilFunc)]⟩
  | 51 => ⟨.other, 1, 8, [.c (.v .nilFunc)]⟩
  | 52 => ⟨.other, 1, 8, [.c (.v .nilFunc)]⟩
  | 53 => ⟨.struct [(0, 26), (20, 29)], 21, 48, [.r 20 (List.replicate 20 (.int .u8 0)), .c (.sl [] [])]⟩
  | 54 => ⟨.struct [(0, 26), (20, 29)], 21, 48, [.r 20 (List.replicate 20 (.int .u8 0)), .c (.sl [] [])]⟩
  | 55 => ⟨.slice 29, 1, 24, [.c (.sl [] [])]⟩
  | 56 => ⟨.other, 1, 8, [.c (.v .nilFunc)]⟩
  | 57 => ⟨.slice 61, 1, 24, [.c (.sl [] [])]⟩
  | 59 => ⟨.other, 1, 8, [.c (.v .nilFunc)]⟩
  | 60 => ⟨.struct [(0, 4), (1, 27), (2, 57)], 3, 56, [.c (.v (.bool false)), .c (.sl [] []), .c (.sl [] [])]⟩
  | 61 => ⟨.struct [(0, 4), (1, 27), (2, 57)], 3, 56, [.c (.v (.bool false)), .c (.sl [] []), .c (.sl [] [])]⟩
  | 62 => ⟨.other, 1, 8, [.c (.v .nilFunc)]⟩
  | 63 => ⟨.other, 1, 8, [.c (.v .nilFunc)]⟩
  | 64 => ⟨.other, 1, 8, [.c (.v .nilFunc)]⟩
  | 65 => ⟨.other, 1, 8, [.c (.v .nilFunc)]⟩
  | 66 => ⟨.other, 1, 8, [.c (.v .nilFunc)]⟩
  | 67 => ⟨.other, 1, 8, [.c (.v .nilFunc)]⟩
  | 68 => ⟨.other, 1, 8, [.c (.v .nilFunc)]⟩
  | 69 => ⟨.other, 1, 8, [.c (.v .nilFunc)]⟩
  | 70 => ⟨.other, 1, 8, [.c (.v .nilFunc)]⟩
  | 71 => ⟨.other, 1, 8, [.c (.v .nilFunc)]⟩
  | 73 => ⟨.other, 1, 8, [.c (.v .nilFunc)]⟩
  | 74 => ⟨.other, 1, 8, [.c (.v .nilFunc)]⟩
  | 75 => ⟨.slice 27, 1, 24, [.c (.sl [] [])]⟩
  | 76 => ⟨.other, 1, 8, [.c (.v .nilFunc)]⟩
  | 77 => ⟨.other, 1, 8, [.c (.v .nilFunc)]⟩
  | 78 => ⟨.other, 1, 8, [.c (.v .nilFunc)]⟩
  | 79 => ⟨.slice 3, 1, 24, [.c (.sl [] [])]⟩
  | 80 => ⟨.other, 1, 8, [.c (.v .nilFunc)]⟩
  | 81 => ⟨.other, 1, 8, [.c (.v .nilFunc)]⟩
  | 82 => ⟨.other, 1, 8, [.c (.v .nilFunc)]⟩
  | 83 => ⟨.other, 1, 8, [.c (.v .nilFunc)]⟩
  | 84 => ⟨.other, 1, 8, [.c (.v .nilFunc)]⟩
  | 85 => ⟨.other, 1, 8, [.c (.v .nilFunc)]⟩
  | _ => ⟨.bad, 0, 0, []⟩

def tt2 : TypeId → TI
  | 86 => ⟨.other, 1, 8, [.c (.v .nilFunc)]⟩
  | 87 => ⟨.other, 1, 8, [.c (.v .nilFunc)]⟩
  | 88 => ⟨.other, 1, 8, [.c (.v .nilFunc)]⟩
  | 89 => ⟨.other, 1, 8, [.c (.v .nilFunc)]⟩
  | 90 => ⟨.other, 1, 8, [.c (.v .nilFunc)]⟩
  | 91 => ⟨.other, 1, 8, [.c (.v .nilFunc)]⟩
  | 92 => ⟨.other, 1, 8, [.c (.v .nilFunc)]⟩
  | 94 => ⟨.other, 1, 8, [.c (.v .nilFunc)]⟩
  | 96 => ⟨.other, 1, 8, [.c (.v .nilFunc)]⟩
  | 98 => ⟨.other, 1, 8, [.c (.v .nilFunc)]⟩
  | 100 => ⟨.other, 1, 8, [.c (.v .nilFunc)]⟩
  | 101 => ⟨.other, 1, 8, [.c (.v .nilFunc)]⟩
  | 102 => ⟨.other, 1, 8, [.c (.v .nilFunc)]⟩
  | 103 => ⟨.other, 1, 8, [.c (.v .nilFunc)]⟩
  | 104 => ⟨.ptr 32, 1, 8, [.c (.v (.pointer none))]⟩
  | 105 => ⟨.other, 1, 8, [.c (.v .nilFunc)]⟩
  | 106 => ⟨.other, 1, 8, [.c (.v .nilFunc)]⟩
  | 108 => ⟨.other, 1, 8, [.c (.v .nilFunc)]⟩
  | 109 => ⟨.other, 1, 8, [.c (.v .nilFunc)]⟩
  | 110 => ⟨.arr 25 22, 25, 200, [.r 25 (List.replicate 25 (.int .u64 0))]⟩
  | 111 => ⟨.arr 136 5, 136, 136, [.r 136 (List.replicate 136 (.int .u8 0))]⟩
  | 112 => ⟨.struct [(0, 3), (1, 110), (26, 111), (162, 3), (163, 3)], 164, 360, [.c (.v (.int .i64 0)), .r 25 (List.replicate 25 (.int .u64 0)), .r 136 (List.replicate 136 (.int .u8 0)), .c (.v (.int .i64 0)), .c (.v (.int .i64 0))]⟩
  | 113 => ⟨.struct [(0, 3), (1, 110), (26, 111), (162, 3), (163, 3)], 164, 360, [.c (.v (.int .i64 0)), .r 25 (List.replicate 25 (.int .u64 0)), .r 136 (List.replicate 136 (.int .u8 0)), .c (.v (.int .i64 0)), .c (.v (.int .i64 0))]⟩
  | 114 => ⟨.other, 1, 8, [.c (.v .nilFunc)]⟩
  | 115 => ⟨.other, 1, 8, [.c (.v .nilFunc)]⟩
  | 116 => ⟨.other, 1, 8, [.c (.v .nilFunc)]⟩
  | 117 => ⟨.other, 1, 8, [.c (.v .nilFunc)]⟩
  | 118 => ⟨.other, 1, 8, [.c (.v .nilFunc)]⟩
  | 119 => ⟨.int .u64, 1, 8, [.c (.v (.int .u64 0))]⟩
  | 120 => ⟨.other, 1, 8, [.c (.v .nilFunc)]⟩
  | 121 => ⟨.other, 1, 8, [.c (.v .nilFunc)]⟩
  | 122 => ⟨.other, 1, 8, [.c (.v .nilFunc)]⟩
  | 123 => ⟨.other, 1, 8, [.c (.v .nilFunc)]⟩
  | 124 => ⟨.other, 1, 8, [.c (.v .nilFunc)]⟩
  | 126 => ⟨.other, 1, 8, [.c (.v .nilFunc)]⟩
  | 127 => ⟨.other, 1, 8, [.c (.v .nilFunc)]⟩
  | 128 => ⟨.other, 1, 8, [.c (.v .nilFunc)]⟩
  | 129 => ⟨.other, 1, 8, [.c (.v .nilFunc)]⟩
  | 130 => ⟨.ptr 24, 1, 8, [.c (.v (.pointer none))]⟩
  | 131 => ⟨.other, 1, 8, [.c (.v .nilFunc)]⟩
  | _ => ⟨.bad, 0, 0, []⟩

def tt3 : TypeId → TI
  | 132 => ⟨.slice 136, 1, 24, [.c (.sl [] [])]⟩
  | 134 => ⟨.other, 1, 8, [.c (.v .nilFunc)]⟩
  | 135 => ⟨.struct [(0, 57), (1, 27)], 2, 48, [.c (.sl [] []), .c (.sl [] [])]⟩
  | 136 => ⟨.struct [(0, 57), (1, 27)], 2, 48, [.c (.sl [] []), .c (.sl [] [])]⟩
  | 137 => ⟨.other, 1, 8, [.c (.v .nilFunc)]⟩
  | 138 => ⟨.ptr 22, 1, 8, [.c (.v (.pointer none))]⟩
  | 139 => ⟨.other, 1, 8, [.c (.v .nilFunc)]⟩
  | 141 => ⟨.other, 1, 8, [.c (.v .nilFunc)]⟩
  | 143 => ⟨.other, 1, 8, [.c (.v .nilFunc)]⟩
  | 145 => ⟨.other, 1, 8, [.c (.v .nilFunc)]⟩
  | 146 => ⟨.other, 1, 8, [.c (.v .nilFunc)]⟩
  | 147 => ⟨.ptr 113, 1, 8, [.c (.v (.pointer none))]⟩
  | 148 => ⟨.arr 2 5, 2, 2, [.r 2 (List.replicate 2 (.int .u8 0))]⟩
  | 149 => ⟨.arr 24 22, 24, 192, [.r 24 (List.replicate 24 (.int .u64 0))]⟩
  | 150 => ⟨.other, 1, 8, [.c (.v .nilFunc)]⟩
  | 151 => ⟨.other, 1, 8, [.c (.v .nilFunc)]⟩
  | 153 => ⟨.other, 1, 8, [.c (.v .nilFunc)]⟩
  | 154 => ⟨.other, 1, 8, [.c (.v .nilFunc)]⟩
  | 155 => ⟨.other, 1, 8, [.c (.v .nilFunc)]⟩
  | 157 => ⟨.other, 1, 8, [.c (.v .nilFunc)]⟩
  | 158 => ⟨.other, 1, 8, [.c (.v .nilFunc)]⟩
  | 160 => ⟨.other, 1, 8, [.c (.v .nilFunc)]⟩
  | 161 => ⟨.other, 1, 8, [.c (.v .nilFunc)]⟩
  | 163 => ⟨.other, 1, 8, [.c (.v .nilFunc)]⟩
  | 164 => ⟨.other, 1, 8, [.c (.v .nilFunc)]⟩
  | 165 => ⟨.arr 5 22, 5, 40, [.r 5 (List.replicate 5 (.int .u64 0))]⟩
  | 166 => ⟨.other, 1, 8, [.c (.v .nilFunc)]⟩
  | 167 => ⟨.arr 25 3, 25, 200, [.r 25 (List.replicate 25 (.int .i64 0))]⟩
  | 168 => ⟨.other, 1, 8, [.c (.v .nilFunc)]⟩
  | 169 => ⟨.other, 1, 8, [.c (.v .nilFunc)]⟩
  | 170 => ⟨.ptr 26, 1, 8, [.c (.v (.pointer none))]⟩
  | 171 => ⟨.other, 1, 8, [.c (.v .nilFunc)]⟩
  | 172 => ⟨.slice 116, 1, 24, [.c (.sl [] [])]⟩
  | 174 => ⟨.other, 1, 8, [.c (.v .nilFunc)]⟩
  | 175 => ⟨.other, 1, 8, [.c (.v .nilFunc)]⟩
  | 176 => ⟨.other, 1, 8, [.c (.v .nilFunc)]⟩
  | 177 => ⟨.struct [(0, 17), (1, 17), (2, 17), (3, 9)], 4, 40, [.c (.v (.pointer none)), .c (.v (.pointer none)), .c (.v (.pointer none)), .c (.v (.string ⟨#[]⟩))]⟩
  | 178 => ⟨.struct [(0, 17), (1, 17), (2, 17), (3, 9)], 4, 40, [.c (.v (.pointer none)), .c (.v (.pointer none)), .c (.v (.pointer none)), .c (.v (.string ⟨#[]⟩))]⟩
  | 182 => ⟨.other, 1, 8, [.c (.v .nilFunc)]⟩
  | 183 => ⟨.int .u32, 1, 4, [.c (.v (.int .u32 0))]⟩
  | _ => ⟨.bad, 0, 0, []⟩

def tt4 : TypeId → TI
  | 184 => ⟨.int .u8, 1, 1, [.c (.v (.int .u8 0))]⟩
  | 185 => ⟨.int .u8, 1, 1, [.c (.v (.int .u8 0))]⟩
  | 186 => ⟨.other, 1, 8, [.c (.v .nilFunc)]⟩
  | 187 => ⟨.ptr 5, 1, 8, [.c (.v (.pointer none))]⟩
  | 188 => ⟨.int .i32, 1, 4, [.c (.v (.int .i32 0))]⟩
  | 189 => ⟨.int .i32, 1, 4, [.c (.v (.int .i32 0))]⟩
  | 190 => ⟨.struct [(0, 12), (1, 12), (2, 183), (3, 184), (4, 5), (5, 5), (6, 185), (7, 186), (8, 187), (9, 188), (10, 189)], 11, 48, [.c (.v (.int .u64 0)), .c (.v (.int .u64 0)), .c (.v (.int .u32 0)), .c (.v (.int .u8 0)), .c (.v (.int .u8 0)), .c (.v (.int .u8 0)), .c (.v (.int .u8 0)), .c (.v .nilFunc), .c (.v (.pointer none)), .c (.v (.int .i32 0)), .c (.v (.int .i32 0))]⟩
  | 191 => ⟨.struct [(0, 12), (1, 12), (2, 183), (3, 184), (4, 5), (5, 5), (6, 185), (7, 186), (8, 187), (9, 188), (10, 189)], 11, 48, [.c (.v (.int .u64 0)), .c (.v (.int .u64 0)), .c (.v (.int .u32 0)), .c (.v (.int .u8 0)), .c (.v (.int .u8 0)), .c (.v (.int .u8 0)), .c (.v (.int .u8 0)), .c (.v .nilFunc), .c (.v (.pointer none)), .c (.v (.int .i32 0)), .c (.v (.int .i32 0))]⟩
  | _ => ⟨.bad, 0, 0, []⟩

def tt (t : TypeId) : TI := if t < 42 then tt0 t else if t < 86 then tt1 t else if t < 132 then tt2 t else if t < 184 then tt3 t else if t < 192 then tt4 t else ⟨.bad, 0, 0, []⟩

def tl : List (Nat × TI) := [(1, tt 1), (2, tt 2), (3, tt 3), (4, tt 4), (5, tt 5), (6, tt 6), (7, tt 7), (8, tt 8), (9, tt 9), (10, tt 10), (11, tt 11), (12, tt 12), (13, tt 13), (14, tt 14), (15, tt 15), (16, tt 16), (17, tt 17), (18, tt 18), (19, tt 19), (21, tt 21), (22, tt 22), (23, tt 23), (24, tt 24), (25, tt 25), (26, tt 26), (27, tt 27), (28, tt 28), (29, tt 29), (30, tt 30), (31, tt 31), (32, tt 32), (33, tt 33), (34, tt 34), (35, tt 35), (36, tt 36), (37, tt 37), (38, tt 38), (39, tt 39), (40, tt 40), (41, tt 41), (42, tt 42), (44, tt 44), (45, tt 45), (47, tt 47), (48, tt 48), (49, tt 49), (50, tt 50), (51, tt 51), (52, tt 52), (53, tt 53), (54, tt 54), (55, tt 55), (56, tt 56), (57, tt 57), (59, tt 59), (60, tt 60), (61, tt 61), (62, tt 62), (63, tt 63), (64, tt 64), (65, tt 65), (66, tt 66), (67, tt 67), (68, tt 68), (69, tt 69), (70, tt 70), (71, tt 71), (73, tt 73), (74, tt 74), (75, tt 75), (76, tt 76), (77, tt 77), (78, tt 78), (79, tt 79), (80, tt 80), (81, tt 81), (82, tt 82), (83, tt 83), (84, tt 84), (85, tt 85), (86, tt 86), (87, tt 87), (88, tt 88), (89, tt 89), (90, tt 90), (91, tt 91), (92, tt 92), (94, tt 94), (96, tt 96), (98, tt 98), (100, tt 100), (101, tt 101), (102, tt 102), (103, tt 103), (104, tt 104), (105, tt 105), (106, tt 106), (108, tt 108), (109, tt 109), (110, tt 110), (111, tt 111), (112, tt 112), (113, tt 113), (114, tt 114), (115, tt 115), (116, tt 116), (117, tt 117), (118, tt 118), (119, tt 119), (120, tt 120), (121, tt 121), (122, tt 122), (123, tt 123), (124, tt 124), (126, tt 126), (127, tt 127), (128, tt 128), (129, tt 129), (130, tt 130), (131, tt 131), (132, tt 132), (134, tt 134), (135, tt 135), (136, tt 136), (137, tt 137), (138, tt 138), (139, tt 139), (141, tt 141), (143, tt 143), (145, tt 145), (146, tt 146), (147, tt 147), (148, tt 148), (149, tt 149), (150, tt 150), (151, tt 151), (153, tt 153), (154, tt 154), (155, tt 155), (157, tt 157), (158, tt 158), (160, tt 160), (161, tt 161), (163, tt 163), (164, tt 164), (165, tt 165), (166, tt 166), (167, tt 167), (168, tt 168), (169, tt 169), (170, tt 170), (171, tt 171), (172, tt 172), (174, tt 174), (175, tt 175), (176, tt 176), (177, tt 177), (178, tt 178), (182, tt 182), (183, tt 183), (184, tt 184), (185, tt 185), (186, tt 186), (187, tt 187), (188, tt 188), (189, tt 189), (190, tt 190), (191, tt 191)]

def tlook : List (Nat × TI) → Nat → TI
  | [], _ => ⟨.bad, 0, 0, []⟩
  | (n, i) :: l, t => if n = t then i else tlook l t

/-- Flat structs. -/
def eqT : TypeId → Bool
  | 36 => true
  | 113 => true
  | _ => false

def entered0 : FuncId → Bool
  | 2 => true
  | 3 => true
  | 4 => true
  | 5 => true
  | 6 => true
  | 7 => true
  | 8 => true
  | 9 => true
  | 10 => true
  | 11 => true
  | 12 => true
  | 13 => true
  | 14 => true
  | 15 => true
  | 16 => true
  | 17 => true
  | 18 => true
  | 19 => true
  | 20 => true
  | 21 => true
  | 22 => true
  | 23 => true
  | 24 => true
  | 25 => true
  | 26 => true
  | 27 => true
  | 28 => true
  | 29 => true
  | 30 => true
  | 31 => true
  | 32 => true
  | 33 => true
  | 34 => true
  | 35 => true
  | 36 => true
  | 37 => true
  | 38 => true
  | 39 => true
  | 40 => true
  | 41 => true
  | _ => false

def entered1 : FuncId → Bool
  | 42 => true
  | 43 => true
  | 44 => true
  | 45 => true
  | 46 => true
  | 47 => true
  | 48 => true
  | 49 => true
  | 50 => true
  | 51 => true
  | 52 => true
  | 53 => true
  | 54 => true
  | 55 => true
  | 56 => true
  | 57 => true
  | 58 => true
  | 59 => true
  | 60 => true
  | 61 => true
  | 62 => true
  | 63 => true
  | 64 => true
  | 65 => true
  | 66 => true
  | 67 => true
  | 68 => true
  | 69 => true
  | 70 => true
  | 71 => true
  | 72 => true
  | 73 => true
  | 74 => true
  | 75 => true
  | 76 => true
  | 77 => true
  | 78 => true
  | 79 => true
  | 80 => true
  | 81 => true
  | _ => false

def entered2 : FuncId → Bool
  | 82 => true
  | 83 => true
  | 84 => true
  | 85 => true
  | 86 => true
  | 87 => true
  | 88 => true
  | 89 => true
  | 90 => true
  | 91 => true
  | 92 => true
  | 93 => true
  | 94 => true
  | 95 => true
  | 96 => true
  | 97 => true
  | 98 => true
  | 99 => true
  | 100 => true
  | 101 => true
  | 102 => true
  | 103 => true
  | 104 => true
  | 105 => true
  | 106 => true
  | 107 => true
  | 108 => true
  | 109 => true
  | 110 => true
  | 111 => true
  | 112 => true
  | 113 => true
  | 114 => true
  | 115 => true
  | 116 => true
  | 117 => true
  | 118 => true
  | 119 => true
  | 120 => true
  | 122 => true
  | _ => false

def entered3 : FuncId → Bool
  | 123 => true
  | 124 => true
  | 125 => true
  | 126 => true
  | 127 => true
  | 128 => true
  | 129 => true
  | 130 => true
  | 131 => true
  | 132 => true
  | 133 => true
  | 134 => true
  | 135 => true
  | 136 => true
  | 137 => true
  | 138 => true
  | 139 => true
  | 140 => true
  | 141 => true
  | 142 => true
  | 143 => true
  | 144 => true
  | 170 => true
  | _ => false

/-- Functions with a body. -/
def entered (f : FuncId) : Bool := if f < 42 then entered0 f else if f < 82 then entered1 f else if f < 123 then entered2 f else if f < 171 then entered3 f else false

end Go.Eng
