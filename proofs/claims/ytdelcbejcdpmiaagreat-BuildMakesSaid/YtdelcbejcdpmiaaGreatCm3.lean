/- The law BuildMakes answers true for every query, every input and every numbers, and its arguments read as they read before: no condition. Part 3 of 7. -/
import Derived.Test.YtdelcbejcdpmiaaGreatProg
import Derived.KernelRfl
import Derived.Test.YtdelcbejcdpmiaaGreatCm2
/- The functions' numbers, and how each call is carried out. Printed by mkcfg.lean. -/
namespace Go.Pv
open Go.Proofs
set_option maxRecDepth 100000
def n_law36_BuildMakes : Nat := 3
def n_ref36_Great : Nat := 4
def n_build_Build : Nat := 5
def n_ref36_Build : Nat := 6
def n_ref36_Same : Nat := 7
def n_ref08_Great : Nat := 8
def n_checks_Check : Nat := 9
def n_late_Check : Nat := 10
def n_plan_Of : Nat := 11
def n_graph_Of : Nat := 12
def n_slices_Clone_api_NodeN : Nat := 13
def n_slices_Clone_int_int : Nat := 14
def n_build_Build_1 : Nat := 15
def n_source_New : Nat := 16
def n_filter_New : Nat := 17
def n_part_New : Nat := 18
def n_build_Build_2 : Nat := 19
def n_agg_New : Nat := 20
def n_join_New : Nat := 21
def n_build_Build_3 : Nat := 22
def n_sink_New : Nat := 23
def n_build_Build_4 : Nat := 24
def n_channel_New : Nat := 25
def n_ref36_Asked : Nat := 26
def n_ref36_Made : Nat := 27
def n_ref08_Alike : Nat := 28
def n_ref24_Same : Nat := 29
def n_ref35_Same : Nat := 30
def n_ref04_Great : Nat := 31
def n_clauses_Check : Nat := 32
def n_checks_first : Nat := 33
def n_kinds_Number : Nat := 34
def n_kinds_Truth : Nat := 35
def n_late_time : Nat := 36
def n_plan_steps : Nat := 37
def n_plan_Check : Nat := 38
def n_graph_Of_1 : Nat := 39
def n_graph_Of_2 : Nat := 40
def n_source_New_1 : Nat := 41
def n_message_Event : Nat := 42
def n_slices_ContainsFunc_api_Event_api_Event : Nat := 43
def n_slices_Clone_api_Event_api_Event : Nat := 44
def n_marks_New : Nat := 45
def n_ref10_Check : Nat := 46
def n_ref20_Check : Nat := 47
def n_ref22_Of : Nat := 48
def n_ref08_Twin : Nat := 49
def n_ref24_Made : Nat := 50
def n_ref36_fresh : Nat := 51
def n_ref26_New : Nat := 52
def n_ref04_Alike : Nat := 53
def n_ref08_SameSources : Nat := 54
def n_ref26_SameAll : Nat := 55
def n_ref27_Same : Nat := 56
def n_nodes_Check : Nat := 57
def n_clauses_Sources : Nat := 58
def n_clauses_Window : Nat := 59
def n_kinds_want : Nat := 60
def n_slices_Equal_uint8_uint8 : Nat := 61
def n_message_Of : Nat := 62
def n_slices_IndexFunc_api_Event_api_Event : Nat := 63
def n_slices_Repeat_int64_int64 : Nat := 64
def n_ref08_Check : Nat := 65
def n_ref10_Right : Nat := 66
def n_ref20_Valid : Nat := 67
def n_ref22_Steps : Nat := 68
def n_ref22_Has : Nat := 69
def n_ref28_New : Nat := 70
def n_ref29_New : Nat := 71
def n_ref30_New : Nat := 72
def n_ref32_New : Nat := 73
def n_ref33_New : Nat := 74
def n_ref34_New : Nat := 75
def n_ref26_Same : Nat := 76
def n_ref27_SameSends : Nat := 77
def n_nodes_check : Nat := 78
def n_clauses_Sources_1 : Nat := 79
def n_slices_ContainsFunc_int_int : Nat := 80
def n_clauses_distinct_int : Nat := 81
def n_kinds_Of : Nat := 82
def n_message_isMark : Nat := 83
def n_message_isTime : Nat := 84
def n_mathbits_Mul : Nat := 85
def n_ref04_Check : Nat := 86
def n_ref08_Sources : Nat := 87
def n_ref08_Fits : Nat := 88
def n_ref06_Want : Nat := 89
def n_ref13_Check : Nat := 90
def n_ref25_Event : Nat := 91
def n_ref31_New : Nat := 92
def n_ref26_SameList : Nat := 93
def n_nodes_tops : Nat := 94
def n_slices_IndexFunc_int_int : Nat := 95
def n_kinds_told : Nat := 96
def n_mathbits_Mul32 : Nat := 97
def n_mathbits_Mul64 : Nat := 98
def n_ref04_Sizes : Nat := 99
def n_ref06_Of : Nat := 100
def n_ref25_Mark : Nat := 101
def n_ref25_Right : Nat := 102
def n_nodes_Parts : Nat := 103
def n_nodes_pop_nodes_top : Nat := 104
def n_kinds_told_1 : Nat := 105
def n_ref04_Count : Nat := 106
def n_ref04_right : Nat := 107
def n_ref06_Wrong : Nat := 108
def n_ref06_Gives : Nat := 109
def n_ref06_fits : Nat := 110
def mdTab : List (Option Md) := [none, none, some .pure, some .pure, some .pure, some .pure, some .pure, some .pure, some .pure, some .pure, some .pure, some .pure, some .pure, some .own, some .own, some .pure, some .pure, some .pure, some .pure, some .pure, some .pure, some .pure, some .pure, some .pure, some .pure, some .pure, some .pure, some .pure, some .pure, some .pure, some .pure, some .pure, some .pure, some .pure, some .pure, some .pure, some .pure, some .pure, some .pure, some .inl, some .inl, some .pure, some .pure, some .pure, some .own, some .pure, some .pure, some .pure, some .pure, some .pure, some .pure, some .pure, some .pure, some .pure, some .pure, some .pure, some .pure, some .pure, some .pure, some .pure, some .pure, some .pure, some .pure, some .pure, some .pure, some .pure, some .pure, some .pure, some .pure, some .pure, some .pure, some .pure, some .pure, some .pure, some .pure, some .pure, some .pure, some .pure, some .pure, some .pure, some .pure, some .ext, some .pure, some .pure, some .pure, some .pure, some .pure, some .pure, some .pure, some .pure, some .pure, some .pure, some .pure, some .pure, some .pure, some .pure, some .pure, some .pure, some .pure, some .pure, some .pure, some .pure, some .pure, some .pure, some .inl, some .pure, some .pure, some .pure, some .pure, some .pure, some .pure, none, none, none, none, none, none, none, none, none, none, none, none, none, none, none, none, none]
def freshTab : List (Nat × List (Nat × Nat)) := [(5, [(53266, 9), (57362, 2), (19, 0)]), (12, [(4106, 2), (8202, 5)]), (13, [(2, 5)]), (14, [(2, 1)]), (27, [(53259, 9), (57355, 2)]), (37, [(3, 1)]), (39, [(4098, 2)]), (40, [(8196, 5)]), (44, [(2, 5)]), (49, [(8193, 5), (20481, 5), (12289, 1)]), (50, [(4109, 2), (8205, 5)]), (68, [(3, 1)]), (92, [(4, 1)]), (94, [(5, 3), (4, 3)]), (96, [(4100, 1)]), (99, [(5, 1), (6, 1)])]
def cutTab : List (Nat × List (Nat × List Nat)) := [(4, [(4, [1, 5])]), (5, [(7, [2, 3, 4, 5, 8, 44, 45, 46]), (23, [8, 17, 18, 19, 96, 97, 98]), (31, [8, 18, 125, 126, 127]), (12, [2, 3, 4, 5, 8, 44, 45, 46]), (8, [2, 3, 4, 5, 8, 44, 45, 46]), (28, [8, 17, 18, 19, 22, 96, 97, 98]), (29, [8, 17, 18, 19, 96, 97, 98]), (24, [8, 17, 18, 19, 96, 97, 98]), (36, [8, 18, 26, 125, 126, 127]), (37, [8, 18, 125, 126, 127]), (32, [8, 18, 125, 126, 127]), (38, [8, 18]), (30, [8, 17, 18]), (19, [4, 5, 8, 17]), (16, [2, 3, 4, 5, 8, 15]), (13, [2, 3, 4, 5, 8]), (6, [2, 3, 4, 5, 8]), (4, [2, 3, 4, 5, 8])]), (10, [(4, [10, 11, 12])]), (12, [(22, [1, 3, 6, 9, 10, 11, 12, 13, 14, 16, 17, 72, 73]), (27, [1, 3, 6, 9, 10, 11, 12, 13, 14, 16, 17, 83, 84]), (36, [1, 3, 6, 10, 11, 12, 14, 16, 17, 118, 119]), (39, [1, 3, 6, 10, 11, 12, 14, 16, 17, 20, 118, 119, 122, 123]), (46, [3, 6, 10, 11, 12, 16, 17, 141, 142]), (23, [1, 3, 6, 9, 10, 11, 12, 13, 14, 16, 17, 72, 73]), (32, [1, 3, 6, 9, 10, 11, 12, 13, 14, 16, 17, 19, 83, 84]), (34, [1, 3, 6, 9, 10, 11, 12, 13, 14, 16, 17, 83, 84]), (28, [1, 3, 6, 9, 10, 11, 12, 13, 14, 16, 17, 83, 84]), (43, [1, 3, 6, 10, 11, 12, 14, 16, 17, 20, 118, 119, 122, 123]), (40, [1, 3, 6, 10, 11, 12, 14, 16, 17, 20, 118, 119, 122, 123]), (44, [1, 3, 6, 10, 11, 12, 14, 16, 17, 118, 119]), (37, [1, 3, 6, 10, 11, 12, 14, 16, 17, 118, 119]), (47, [3, 6, 10, 11, 12, 16, 17, 141, 142]), (52, [6, 10]), (50, [3, 6, 10, 11]), (45, [1, 3, 6, 10, 11, 12, 16, 17]), (35, [1, 3, 6, 9, 10, 11, 12, 14, 16, 17]), (26, [1, 3, 6, 9, 10, 11, 12, 13, 14, 16, 17]), (19, [1, 3, 6, 9, 10, 11, 12, 13, 14, 15]), (16, [1, 3, 6, 9, 10, 11, 12, 13, 14]), (6, [1, 3, 5, 6]), (4, [1, 3, 5, 6])]), (26, [(7, [1, 2, 3, 11])]), (27, [(4, [1, 4, 8, 11, 12]), (8, [8, 11, 13]), (6, [1, 4, 8, 11, 12]), (10, [8, 11, 13]), (12, [8, 11]), (7, [8, 11])]), (29, [(4, [2, 3, 5]), (9, [2, 3, 6])]), (30, [(4, [2, 3, 5])]), (32, [(18, [1]), (16, [1]), (13, [1]), (9, [1]), (3, [1])]), (39, [(3, [0, 2, 6, 11, 12])]), (47, [(4, [0, 3])]), (50, [(12, [1, 2, 3, 6, 7, 8, 9, 11, 12, 13, 14]), (29, [1, 2, 3, 6, 7, 8, 9, 11, 12, 13, 14, 16]), (23, [1, 2, 3, 6, 7, 8, 9, 11, 12, 13, 14, 15]), (31, [1, 2, 3, 6, 7, 8, 9, 11, 12, 13, 14, 16]), (36, [1, 2, 3, 6, 7, 8, 9, 11, 12, 13, 14, 17]), (13, [1, 2, 3, 6, 7, 8, 9, 11, 12, 13, 14]), (15, [1, 2, 3, 6, 7, 8, 9, 11, 12, 13, 14]), (40, [6, 13]), (38, [6, 9, 13]), (8, [1, 2, 3, 6, 7, 8, 9, 10]), (5, [1, 2, 3, 6, 7, 8, 9])]), (53, [(4, [0, 1, 5])]), (54, [(4, [0, 1, 5])]), (55, [(4, [0, 1, 5])]), (56, [(4, [2, 3, 5]), (9, [2, 3, 6]), (14, [2, 3, 7]), (19, [2, 3, 8]), (24, [2, 3, 9])]), (61, [(4, [0, 1, 12, 13])]), (63, [(2, [0, 1, 7, 8])]), (64, [(8, [7, 8])]), (65, [(13, []), (11, [1]), (9, [1]), (7, [1]), (5, [1]), (3, [1])]), (68, [(3, [1, 3, 4])]), (70, [(6, [0, 1, 4, 6])]), (77, [(4, [0, 1, 5])]), (81, [(3, [3, 7, 8, 9])]), (87, [(6, [0, 5]), (11, [0, 6]), (14, [0, 6, 7])]), (92, [(5, [0, 4, 5])]), (93, [(4, [0, 1, 5])]), (94, [(3, [4, 5, 15, 16, 17]), (13, [4, 5, 7, 11, 12, 15, 16, 17, 52, 53, 54])]), (95, [(2, [0, 1, 7, 8])]), (96, [(4, [0, 4, 5, 12, 13, 14])]), (99, [(3, [0, 5, 6, 7]), (18, [0, 5, 6, 7, 10, 11, 13, 14]), (11, [0, 5, 6, 7, 9, 10, 12, 13]), (23, [0, 5, 6, 7, 10, 11]), (21, [0, 5, 6, 7, 8, 9, 10, 11]), (4, [0, 5, 6, 7]), (5, [0, 5, 6, 7]), (25, [0, 5, 6])]), (105, [(2, [0, 2, 8, 9, 10])]), (108, [(2, [0, 3])])]
def ordTab : List ((Nat × Nat) × List Nat) := [((5, 19), [0, 1, 3, 4, 6, 7, 2, 9, 5, 8, 10, 11, 12, 13, 14]), ((11, 4), [0, 1, 3, 4, 6, 7, 2, 9, 5, 8, 10, 11, 12, 13, 14])]
def eqTab : List Nat := [94, 25, 62, 77, 59, 151, 96, 132, 173, 134, 129, 149, 130, 148]
def intB : V → Bool
  | .int .i64 n => decide (-9223372036854775808 ≤ n) && decide (n ≤ 9223372036854775807)
  | _ => false
def intsB : List V → Bool
  | [] => true
  | v :: l => intB v && intsB l
/-- How many different numbers. -/
def distinctV : List V → Option V
  | [.sl n cells] => cond (Nat.beq n cells.length && (intsB cells && decide (n ≤ 1000000))) (some (.int .i64 ((cells.map V.toI).eraseDups.length : Nat))) none
  | _ => none
def lk {α : Type} : List (Nat × α) → Nat → Option α
  | [], _ => none
  | (a, x) :: l, b => cond (Nat.beq a b) (some x) (lk l b)
def lk2 {α : Type} : List ((Nat × Nat) × α) → Nat → Nat → Option α
  | [], _, _ => none
  | ((a, a'), x) :: l, b, b' => cond (Nat.beq a b && Nat.beq a' b') (some x) (lk2 l b b')
def distinctTab : List Nat := [81]
def memN : List Nat → Nat → Bool
  | [], _ => false
  | a :: l, b => cond (Nat.beq a b) true (memN l b)
def extFn (f : Nat) (xs : List V) : Option V := cond (memN distinctTab f) (distinctV xs) none
noncomputable def cc : Cfg := { P := Tryz.prog, md := fun f => (mdTab[f]?).getD none, ext := extFn, cut := fun f id => (lk cutTab f).bind fun l => lk l id, ord := fun f id => lk2 ordTab f id, fresh := fun f _ => (lk freshTab f).getD [], eqs := eqTab }
end Go.Pv

/- What each function computes, from cut to cut: printed by a program of this seat's prover, checked by the kernel. -/
namespace Go.Pv
set_option maxRecDepth 100000
theorem F_law36_BuildMakes (N : Nat) (x0 : Int) (n1 : Nat) (c2 : List V) (n3 : Nat) (c4 : List V) (b5 : Bool) (n6 : Nat) (c7 : List V) (x8 : Int) (x9 : Int) (x10 : Int) (b11 : Bool) (x12 : Int) (n13 : Nat) (c14 : List V) (x15 : Int) (x16 : Int) : call cc (N + 1) n_law36_BuildMakes [V.agg [V.int IntKind.u8 x0, V.sl n1 c2, V.sl n3 c4, V.bool b5, V.sl n6 c7, V.int IntKind.u8 x8, V.int IntKind.i64 x9, V.int IntKind.i64 x10, V.bool b11, V.int IntKind.u8 x12], V.sl n13 c14, V.int IntKind.i64 x15, V.int IntKind.i64 x16] =
 (call cc N n_ref36_Great [V.agg [V.int IntKind.u8 x0, V.sl n1 c2, V.sl n3 c4, V.bool b5, V.sl n6 c7, V.int IntKind.u8 x8, V.int IntKind.i64 x9, V.int IntKind.i64 x10, V.bool b11, V.int IntKind.u8 x12], V.sl n13 c14]).bind fun v17 =>
 cond (okRes [(false, [CK.b])] v17)
 (cond (V.toB (cellAt (V.cells v17) 0))
 (some (V.bool true))
 ((call cc N n_build_Build [V.agg [V.int IntKind.u8 x0, V.sl n1 c2, V.sl n3 c4, V.bool b5, V.sl n6 c7, V.int IntKind.u8 x8, V.int IntKind.i64 x9, V.int IntKind.i64 x10, V.bool b11, V.int IntKind.u8 x12], V.sl n13 c14, V.int IntKind.i64 x15, V.int IntKind.i64 x16]).bind fun v18 =>
  cond (okRes [(true, [CK.i IntKind.u8, CK.sl 5, CK.sl 1, CK.b, CK.sl 5, CK.i IntKind.u8, CK.i IntKind.i64, CK.i IntKind.i64, CK.b, CK.i IntKind.u8, CK.sl 2, CK.sl 5, CK.sl 9, CK.sl 2]), (false, [CK.i IntKind.i64])] v18)
  ((call cc N n_ref36_Build [V.agg [V.int IntKind.u8 x0, V.sl n1 c2, V.sl n3 c4, V.bool b5, V.sl n6 c7, V.int IntKind.u8 x8, V.int IntKind.i64 x9, V.int IntKind.i64 x10, V.bool b11, V.int IntKind.u8 x12], V.sl n13 c14, V.int IntKind.i64 x15, V.int IntKind.i64 x16]).bind fun v19 =>
  cond (okRes [(true, [CK.i IntKind.u8, CK.sl 5, CK.sl 1, CK.b, CK.sl 5, CK.i IntKind.u8, CK.i IntKind.i64, CK.i IntKind.i64, CK.b, CK.i IntKind.u8, CK.sl 2, CK.sl 5, CK.sl 9, CK.sl 2]), (false, [CK.i IntKind.i64])] v19)
  ((call cc N n_ref36_Same [V.agg [V.int IntKind.u8 (V.toI (cellAt (V.cells (cellAt (V.cs v18) 0)) 0)), V.sl (V.slN (cellAt (V.cells (cellAt (V.cs v18) 0)) 1)) (V.slC (cellAt (V.cells (cellAt (V.cs v18) 0)) 1)), V.sl (V.slN (cellAt (V.cells (cellAt (V.cs v18) 0)) 2)) (V.slC (cellAt (V.cells (cellAt (V.cs v18) 0)) 2)), V.bool (V.toB (cellAt (V.cells (cellAt (V.cs v18) 0)) 3)), V.sl (V.slN (cellAt (V.cells (cellAt (V.cs v18) 0)) 4)) (V.slC (cellAt (V.cells (cellAt (V.cs v18) 0)) 4)), V.int IntKind.u8 (V.toI (cellAt (V.cells (cellAt (V.cs v18) 0)) 5)), V.int IntKind.i64 (V.toI (cellAt (V.cells (cellAt (V.cs v18) 0)) 6)), V.int IntKind.i64 (V.toI (cellAt (V.cells (cellAt (V.cs v18) 0)) 7)), V.bool (V.toB (cellAt (V.cells (cellAt (V.cs v18) 0)) 8)), V.int IntKind.u8 (V.toI (cellAt (V.cells (cellAt (V.cs v18) 0)) 9)), V.sl (V.slN (cellAt (V.cells (cellAt (V.cs v18) 0)) 10)) (V.slC (cellAt (V.cells (cellAt (V.cs v18) 0)) 10)), V.sl (V.slN (cellAt (V.cells (cellAt (V.cs v18) 0)) 11)) (V.slC (cellAt (V.cells (cellAt (V.cs v18) 0)) 11)), V.sl (V.slN (cellAt (V.cells (cellAt (V.cs v18) 0)) 12)) (V.slC (cellAt (V.cells (cellAt (V.cs v18) 0)) 12)), V.sl (V.slN (cellAt (V.cells (cellAt (V.cs v18) 0)) 13)) (V.slC (cellAt (V.cells (cellAt (V.cs v18) 0)) 13))], V.agg [V.int IntKind.u8 (V.toI (cellAt (V.cells (cellAt (V.cs v19) 0)) 0)), V.sl (V.slN (cellAt (V.cells (cellAt (V.cs v19) 0)) 1)) (V.slC (cellAt (V.cells (cellAt (V.cs v19) 0)) 1)), V.sl (V.slN (cellAt (V.cells (cellAt (V.cs v19) 0)) 2)) (V.slC (cellAt (V.cells (cellAt (V.cs v19) 0)) 2)), V.bool (V.toB (cellAt (V.cells (cellAt (V.cs v19) 0)) 3)), V.sl (V.slN (cellAt (V.cells (cellAt (V.cs v19) 0)) 4)) (V.slC (cellAt (V.cells (cellAt (V.cs v19) 0)) 4)), V.int IntKind.u8 (V.toI (cellAt (V.cells (cellAt (V.cs v19) 0)) 5)), V.int IntKind.i64 (V.toI (cellAt (V.cells (cellAt (V.cs v19) 0)) 6)), V.int IntKind.i64 (V.toI (cellAt (V.cells (cellAt (V.cs v19) 0)) 7)), V.bool (V.toB (cellAt (V.cells (cellAt (V.cs v19) 0)) 8)), V.int IntKind.u8 (V.toI (cellAt (V.cells (cellAt (V.cs v19) 0)) 9)), V.sl (V.slN (cellAt (V.cells (cellAt (V.cs v19) 0)) 10)) (V.slC (cellAt (V.cells (cellAt (V.cs v19) 0)) 10)), V.sl (V.slN (cellAt (V.cells (cellAt (V.cs v19) 0)) 11)) (V.slC (cellAt (V.cells (cellAt (V.cs v19) 0)) 11)), V.sl (V.slN (cellAt (V.cells (cellAt (V.cs v19) 0)) 12)) (V.slC (cellAt (V.cells (cellAt (V.cs v19) 0)) 12)), V.sl (V.slN (cellAt (V.cells (cellAt (V.cs v19) 0)) 13)) (V.slC (cellAt (V.cells (cellAt (V.cs v19) 0)) 13))]]).bind fun v20 =>
  cond (okRes [(false, [CK.b])] v20)
  (cond (V.toB (cellAt (V.cells v20) 0))
  (cond ((V.toI (cellAt (V.cells (cellAt (V.cs v18) 1)) 0)) == (V.toI (cellAt (V.cells (cellAt (V.cs v19) 1)) 0)))
   (some (V.bool true))
   (some (V.bool false)))
  (some (V.bool false)))
  none)
  none)
  none))
 none := by kernel_rfl


noncomputable def S_ref36_Great_4 (N : Nat) (n0 : Nat) (c1 : List V) (x2 : Int) : Option V := runAt cc N n_ref36_Great 4 (envOf 25 [(1, V.sl n0 c1), (5, V.int IntKind.i64 x2)]) [] [] 0
theorem F_ref36_Great (N : Nat) (x0 : Int) (n1 : Nat) (c2 : List V) (n3 : Nat) (c4 : List V) (b5 : Bool) (n6 : Nat) (c7 : List V) (x8 : Int) (x9 : Int) (x10 : Int) (b11 : Bool) (x12 : Int) (n13 : Nat) (c14 : List V) : call cc (N + 1) n_ref36_Great [V.agg [V.int IntKind.u8 x0, V.sl n1 c2, V.sl n3 c4, V.bool b5, V.sl n6 c7, V.int IntKind.u8 x8, V.int IntKind.i64 x9, V.int IntKind.i64 x10, V.bool b11, V.int IntKind.u8 x12], V.sl n13 c14] =
 (call cc N n_ref08_Great [V.agg [V.int IntKind.u8 x0, V.sl n1 c2, V.sl n3 c4, V.bool b5, V.sl n6 c7, V.int IntKind.u8 x8, V.int IntKind.i64 x9, V.int IntKind.i64 x10, V.bool b11, V.int IntKind.u8 x12]]).bind fun v15 =>
 cond (okRes [(false, [CK.b])] v15)
 (cond (V.toB (cellAt (V.cells v15) 0))
 (some (V.bool true))
 (cond (decide (((n13 : Nat) : Int) > (6 : Int)))
  (some (V.bool true))
  (S_ref36_Great_4 N n13 c14 (0 : Int))))
 none := by kernel_rfl
theorem S_ref36_Great_4_eq (N : Nat) (n0 : Nat) (c1 : List V) (x2 : Int) : S_ref36_Great_4 (N + 1) n0 c1 x2 =
 cond (decide (x2 < ((n0 : Nat) : Int)))
 (cond (decide ((0 : Int) ≤ x2))
  (cond (decide (x2 < ((n0 : Nat) : Int)))
  (cond (okT [CK.sl 5] c1 ((Int.toNat x2) * 1))
  (cond (decide (((V.slN (cellAt c1 ((Int.toNat x2) * 1)) : Nat) : Int) > (70 : Int)))
  (some (V.bool true))
  (S_ref36_Great_4 N n0 c1 (IntKind.wrap IntKind.i64 (x2 + (1 : Int)))))
  none)
  none)
  none)
 (some (V.bool false)) := by kernel_rfl


noncomputable def S_build_Build_4 (N : Nat) (x0 : Int) (x1 : Int) (x2 : Int) (n3 : Nat) (c4 : List V) (n5 : Nat) (c6 : List V) (b7 : Bool) (n8 : Nat) (c9 : List V) (x10 : Int) (x11 : Int) (x12 : Int) (b13 : Bool) (x14 : Int) (n15 : Nat) (c16 : List V) (x17 : Int) (b18 : Bool) (x19 : Int) (x20 : Int) (x21 : Int) (b22 : Bool) (x23 : Int) : Option V := runAt cc N n_build_Build 4 (envOf 149 [(2, V.int IntKind.i64 x0), (3, V.int IntKind.i64 x1), (4, V.ptr 0 0), (5, V.ptr 1 0), (8, V.ptr 2 0)]) [⟨[V.int IntKind.u8 x2, V.sl n3 c4, V.sl n5 c6, V.bool b7, V.sl n8 c9, V.int IntKind.u8 x10, V.int IntKind.i64 x11, V.int IntKind.i64 x12, V.bool b13, V.int IntKind.u8 x14], 1, 0, true⟩, ⟨[V.sl n15 c16], 1, 0, true⟩, ⟨[V.int IntKind.u8 x17, V.nils, V.nils, V.bool b18, V.nils, V.int IntKind.u8 x19, V.int IntKind.i64 x20, V.int IntKind.i64 x21, V.bool b22, V.int IntKind.u8 x23, V.nils, V.nils, V.nils, V.nils], 1, 0, true⟩] [] 0
noncomputable def S_build_Build_6 (N : Nat) (x0 : Int) (x1 : Int) (x2 : Int) (n3 : Nat) (c4 : List V) (n5 : Nat) (c6 : List V) (b7 : Bool) (n8 : Nat) (c9 : List V) (x10 : Int) (x11 : Int) (x12 : Int) (b13 : Bool) (x14 : Int) (n15 : Nat) (c16 : List V) (x17 : Int) (b18 : Bool) (x19 : Int) (x20 : Int) (x21 : Int) (b22 : Bool) (x23 : Int) : Option V := runAt cc N n_build_Build 6 (envOf 149 [(2, V.int IntKind.i64 x0), (3, V.int IntKind.i64 x1), (4, V.ptr 0 0), (5, V.ptr 1 0), (8, V.ptr 2 0)]) [⟨[V.int IntKind.u8 x2, V.sl n3 c4, V.sl n5 c6, V.bool b7, V.sl n8 c9, V.int IntKind.u8 x10, V.int IntKind.i64 x11, V.int IntKind.i64 x12, V.bool b13, V.int IntKind.u8 x14], 1, 0, true⟩, ⟨[V.sl n15 c16], 1, 0, true⟩, ⟨[V.int IntKind.u8 x17, V.nils, V.nils, V.bool b18, V.nils, V.int IntKind.u8 x19, V.int IntKind.i64 x20, V.int IntKind.i64 x21, V.bool b22, V.int IntKind.u8 x23, V.nils, V.nils, V.nils, V.nils], 1, 0, true⟩] [] 0
noncomputable def S_build_Build_7 (N : Nat) (x0 : Int) (x1 : Int) (n2 : Nat) (c3 : List V) (x4 : Int) (x5 : Int) (x6 : Int) (n7 : Nat) (c8 : List V) (n9 : Nat) (c10 : List V) (b11 : Bool) (n12 : Nat) (c13 : List V) (x14 : Int) (x15 : Int) (x16 : Int) (b17 : Bool) (x18 : Int) (n19 : Nat) (c20 : List V) (x21 : Int) (b22 : Bool) (x23 : Int) (x24 : Int) (x25 : Int) (b26 : Bool) (x27 : Int) : Option V := runAt cc N n_build_Build 7 (envOf 149 [(2, V.int IntKind.i64 x0), (3, V.int IntKind.i64 x1), (4, V.ptr 0 0), (5, V.ptr 1 0), (8, V.ptr 2 0), (44, V.sl n2 c3), (45, V.int IntKind.i64 x4), (46, V.int IntKind.i64 x5)]) [⟨[V.int IntKind.u8 x6, V.sl n7 c8, V.sl n9 c10, V.bool b11, V.sl n12 c13, V.int IntKind.u8 x14, V.int IntKind.i64 x15, V.int IntKind.i64 x16, V.bool b17, V.int IntKind.u8 x18], 1, 0, true⟩, ⟨[V.sl n19 c20], 1, 0, true⟩, ⟨[V.int IntKind.u8 x21, V.nils, V.nils, V.bool b22, V.nils, V.int IntKind.u8 x23, V.int IntKind.i64 x24, V.int IntKind.i64 x25, V.bool b26, V.int IntKind.u8 x27, V.nils, V.nils, V.nils, V.nils], 1, 0, true⟩] [] 0
noncomputable def S_build_Build_8 (N : Nat) (x0 : Int) (x1 : Int) (n2 : Nat) (c3 : List V) (x4 : Int) (x5 : Int) (x6 : Int) (n7 : Nat) (c8 : List V) (n9 : Nat) (c10 : List V) (b11 : Bool) (n12 : Nat) (c13 : List V) (x14 : Int) (x15 : Int) (x16 : Int) (b17 : Bool) (x18 : Int) (n19 : Nat) (c20 : List V) (x21 : Int) (b22 : Bool) (x23 : Int) (x24 : Int) (x25 : Int) (b26 : Bool) (x27 : Int) : Option V := runAt cc N n_build_Build 8 (envOf 149 [(2, V.int IntKind.i64 x0), (3, V.int IntKind.i64 x1), (4, V.ptr 0 0), (5, V.ptr 1 0), (8, V.ptr 2 0), (44, V.sl n2 c3), (45, V.int IntKind.i64 x4), (46, V.int IntKind.i64 x5)]) [⟨[V.int IntKind.u8 x6, V.sl n7 c8, V.sl n9 c10, V.bool b11, V.sl n12 c13, V.int IntKind.u8 x14, V.int IntKind.i64 x15, V.int IntKind.i64 x16, V.bool b17, V.int IntKind.u8 x18], 1, 0, true⟩, ⟨[V.sl n19 c20], 1, 0, true⟩, ⟨[V.int IntKind.u8 x21, V.nils, V.nils, V.bool b22, V.nils, V.int IntKind.u8 x23, V.int IntKind.i64 x24, V.int IntKind.i64 x25, V.bool b26, V.int IntKind.u8 x27, V.nils, V.nils, V.nils, V.nils], 1, 0, true⟩] [] 0
noncomputable def S_build_Build_13 (N : Nat) (x0 : Int) (x1 : Int) (x2 : Int) (n3 : Nat) (c4 : List V) (n5 : Nat) (c6 : List V) (b7 : Bool) (n8 : Nat) (c9 : List V) (x10 : Int) (x11 : Int) (x12 : Int) (b13 : Bool) (x14 : Int) (n15 : Nat) (c16 : List V) (x17 : Int) (b18 : Bool) (x19 : Int) (x20 : Int) (x21 : Int) (b22 : Bool) (x23 : Int) : Option V := runAt cc N n_build_Build 13 (envOf 149 [(2, V.int IntKind.i64 x0), (3, V.int IntKind.i64 x1), (4, V.ptr 0 0), (5, V.ptr 1 0), (8, V.ptr 2 0)]) [⟨[V.int IntKind.u8 x2, V.sl n3 c4, V.sl n5 c6, V.bool b7, V.sl n8 c9, V.int IntKind.u8 x10, V.int IntKind.i64 x11, V.int IntKind.i64 x12, V.bool b13, V.int IntKind.u8 x14], 1, 0, true⟩, ⟨[V.sl n15 c16], 1, 0, true⟩, ⟨[V.int IntKind.u8 x17, V.nils, V.nils, V.bool b18, V.nils, V.int IntKind.u8 x19, V.int IntKind.i64 x20, V.int IntKind.i64 x21, V.bool b22, V.int IntKind.u8 x23, V.nils, V.nils, V.nils, V.nils], 1, 0, true⟩] [] 0
noncomputable def S_build_Build_12 (N : Nat) (x0 : Int) (x1 : Int) (n2 : Nat) (c3 : List V) (x4 : Int) (x5 : Int) (x6 : Int) (n7 : Nat) (c8 : List V) (n9 : Nat) (c10 : List V) (b11 : Bool) (n12 : Nat) (c13 : List V) (x14 : Int) (x15 : Int) (x16 : Int) (b17 : Bool) (x18 : Int) (n19 : Nat) (c20 : List V) (x21 : Int) (b22 : Bool) (x23 : Int) (x24 : Int) (x25 : Int) (b26 : Bool) (x27 : Int) : Option V := runAt cc N n_build_Build 12 (envOf 149 [(2, V.int IntKind.i64 x0), (3, V.int IntKind.i64 x1), (4, V.ptr 0 0), (5, V.ptr 1 0), (8, V.ptr 2 0), (44, V.sl n2 c3), (45, V.int IntKind.i64 x4), (46, V.int IntKind.i64 x5)]) [⟨[V.int IntKind.u8 x6, V.sl n7 c8, V.sl n9 c10, V.bool b11, V.sl n12 c13, V.int IntKind.u8 x14, V.int IntKind.i64 x15, V.int IntKind.i64 x16, V.bool b17, V.int IntKind.u8 x18], 1, 0, true⟩, ⟨[V.sl n19 c20], 1, 0, true⟩, ⟨[V.int IntKind.u8 x21, V.nils, V.nils, V.bool b22, V.nils, V.int IntKind.u8 x23, V.int IntKind.i64 x24, V.int IntKind.i64 x25, V.bool b26, V.int IntKind.u8 x27, V.nils, V.nils, V.nils, V.nils], 1, 0, true⟩] [] 0
noncomputable def S_build_Build_16 (N : Nat) (x0 : Int) (x1 : Int) (x2 : Int) (n3 : Nat) (c4 : List V) (n5 : Nat) (c6 : List V) (b7 : Bool) (n8 : Nat) (c9 : List V) (x10 : Int) (x11 : Int) (x12 : Int) (b13 : Bool) (x14 : Int) (n15 : Nat) (c16 : List V) (x17 : Int) (b18 : Bool) (x19 : Int) (x20 : Int) (x21 : Int) (b22 : Bool) (x23 : Int) (n24 : Nat) (c25 : List V) (x26 : Int) (n27 : Nat) (c28 : List V) (n29 : Nat) (c30 : List V) (b31 : Bool) (n32 : Nat) (c33 : List V) (x34 : Int) (x35 : Int) (x36 : Int) (b37 : Bool) (x38 : Int) : Option V := runAt cc N n_build_Build 16 (envOf 149 [(2, V.int IntKind.i64 x0), (3, V.int IntKind.i64 x1), (4, V.ptr 0 0), (5, V.ptr 1 0), (8, V.ptr 2 0), (15, V.ptr 3 0)]) [⟨[V.int IntKind.u8 x2, V.sl n3 c4, V.sl n5 c6, V.bool b7, V.sl n8 c9, V.int IntKind.u8 x10, V.int IntKind.i64 x11, V.int IntKind.i64 x12, V.bool b13, V.int IntKind.u8 x14], 1, 0, true⟩, ⟨[V.sl n15 c16], 1, 0, true⟩, ⟨[V.int IntKind.u8 x17, V.nils, V.nils, V.bool b18, V.nils, V.int IntKind.u8 x19, V.int IntKind.i64 x20, V.int IntKind.i64 x21, V.bool b22, V.int IntKind.u8 x23, V.nils, V.nils, V.nils, V.nils], 1, 0, true⟩, ⟨[V.sl n24 c25, V.int IntKind.u8 x26, V.sl n27 c28, V.sl n29 c30, V.bool b31, V.sl n32 c33, V.int IntKind.u8 x34, V.int IntKind.i64 x35, V.int IntKind.i64 x36, V.bool b37, V.int IntKind.u8 x38], 1, 0, true⟩] [] 0
noncomputable def S_build_Build_19 (N : Nat) (x0 : Int) (n1 : Nat) (c2 : List V) (n3 : Nat) (c4 : List V) (b5 : Bool) (n6 : Nat) (c7 : List V) (x8 : Int) (x9 : Int) (x10 : Int) (b11 : Bool) (x12 : Int) (n13 : Nat) (c14 : List V) (x15 : Int) (b16 : Bool) (x17 : Int) (x18 : Int) (x19 : Int) (b20 : Bool) (x21 : Int) (n22 : Nat) (c23 : List V) (n24 : Nat) (c25 : List V) : Option V := runAt cc N n_build_Build 19 (envOf 149 [(4, V.ptr 0 0), (5, V.ptr 1 0), (8, V.ptr 2 0), (17, V.ptr 3 0)]) [⟨[V.int IntKind.u8 x0, V.sl n1 c2, V.sl n3 c4, V.bool b5, V.sl n6 c7, V.int IntKind.u8 x8, V.int IntKind.i64 x9, V.int IntKind.i64 x10, V.bool b11, V.int IntKind.u8 x12], 1, 0, true⟩, ⟨[V.sl n13 c14], 1, 0, true⟩, ⟨[V.int IntKind.u8 x15, V.nils, V.nils, V.bool b16, V.nils, V.int IntKind.u8 x17, V.int IntKind.i64 x18, V.int IntKind.i64 x19, V.bool b20, V.int IntKind.u8 x21, V.nils, V.nils, V.nils, V.nils], 1, 0, true⟩, ⟨[V.sl n22 c23, V.sl n24 c25], 1, 0, true⟩] [] 0
noncomputable def S_build_Build_23 (N : Nat) (n0 : Nat) (c1 : List V) (x2 : Int) (x3 : Int) (x4 : Int) (b5 : Bool) (x6 : Int) (x7 : Int) (x8 : Int) (b9 : Bool) (x10 : Int) (n11 : Nat) (c12 : List V) (n13 : Nat) (c14 : List V) (x15 : Int) (n16 : Nat) (n17 : Nat) (b18 : Bool) (n19 : Nat) (x20 : Int) (x21 : Int) (x22 : Int) (b23 : Bool) (x24 : Int) (n25 : Nat) (c26 : List V) (n27 : Nat) (c28 : List V) (n29 : Nat) (n30 : Nat) (c31 : List V) (c32 : List V) (c33 : List V) (c34 : List V) (c35 : List V) (n36 : Nat) (c37 : List V) (x38 : Int) (n39 : Nat) (n40 : Nat) (b41 : Bool) (n42 : Nat) (x43 : Int) (x44 : Int) (x45 : Int) (b46 : Bool) (x47 : Int) : Option V := runAt cc N n_build_Build 23 (envOf 149 [(8, V.ptr 0 0), (17, V.ptr 1 0), (18, V.ptr 2 0), (19, V.ptr 3 0), (96, V.sl n0 c1), (97, V.int IntKind.i64 x2), (98, V.int IntKind.i64 x3)]) [⟨[V.int IntKind.u8 x4, V.nils, V.nils, V.bool b5, V.nils, V.int IntKind.u8 x6, V.int IntKind.i64 x7, V.int IntKind.i64 x8, V.bool b9, V.int IntKind.u8 x10, V.nils, V.nils, V.nils, V.nils], 1, 0, true⟩, ⟨[V.sl n11 c12, V.sl n13 c14], 1, 0, true⟩, ⟨[V.int IntKind.u8 x15, V.own 4 n16, V.own 5 n17, V.bool b18, V.own 6 n19, V.int IntKind.u8 x20, V.int IntKind.i64 x21, V.int IntKind.i64 x22, V.bool b23, V.int IntKind.u8 x24, V.sl n25 c26, V.sl n27 c28, V.own 7 n29, V.own 8 n30], 1, 0, true⟩, ⟨[V.fn n_build_Build_1 [] [V.ptr 9 0], V.fn n_filter_New [] [], V.fn n_part_New [] [], V.fn n_build_Build_2 [] [V.ptr 10 0], V.fn n_join_New [] [], V.fn n_build_Build_3 [] [], V.fn n_build_Build_4 [] []], 1, 1, true⟩, ⟨c31, 5, 1, false⟩, ⟨c32, 1, 1, false⟩, ⟨c33, 5, 1, false⟩, ⟨c34, 9, 0, false⟩, ⟨c35, 2, 0, false⟩, ⟨[V.sl n36 c37], 1, 1, true⟩, ⟨[V.int IntKind.u8 x38, V.own 4 n39, V.own 5 n40, V.bool b41, V.own 6 n42, V.int IntKind.u8 x43, V.int IntKind.i64 x44, V.int IntKind.i64 x45, V.bool b46, V.int IntKind.u8 x47], 1, 1, true⟩] [] 0
noncomputable def S_build_Build_24 (N : Nat) (n0 : Nat) (c1 : List V) (x2 : Int) (x3 : Int) (x4 : Int) (b5 : Bool) (x6 : Int) (x7 : Int) (x8 : Int) (b9 : Bool) (x10 : Int) (n11 : Nat) (c12 : List V) (n13 : Nat) (c14 : List V) (x15 : Int) (n16 : Nat) (n17 : Nat) (b18 : Bool) (n19 : Nat) (x20 : Int) (x21 : Int) (x22 : Int) (b23 : Bool) (x24 : Int) (n25 : Nat) (c26 : List V) (n27 : Nat) (c28 : List V) (n29 : Nat) (n30 : Nat) (c31 : List V) (c32 : List V) (c33 : List V) (c34 : List V) (c35 : List V) (n36 : Nat) (c37 : List V) (x38 : Int) (n39 : Nat) (n40 : Nat) (b41 : Bool) (n42 : Nat) (x43 : Int) (x44 : Int) (x45 : Int) (b46 : Bool) (x47 : Int) : Option V := runAt cc N n_build_Build 24 (envOf 149 [(8, V.ptr 0 0), (17, V.ptr 1 0), (18, V.ptr 2 0), (19, V.ptr 3 0), (96, V.sl n0 c1), (97, V.int IntKind.i64 x2), (98, V.int IntKind.i64 x3)]) [⟨[V.int IntKind.u8 x4, V.nils, V.nils, V.bool b5, V.nils, V.int IntKind.u8 x6, V.int IntKind.i64 x7, V.int IntKind.i64 x8, V.bool b9, V.int IntKind.u8 x10, V.nils, V.nils, V.nils, V.nils], 1, 0, true⟩, ⟨[V.sl n11 c12, V.sl n13 c14], 1, 0, true⟩, ⟨[V.int IntKind.u8 x15, V.own 4 n16, V.own 5 n17, V.bool b18, V.own 6 n19, V.int IntKind.u8 x20, V.int IntKind.i64 x21, V.int IntKind.i64 x22, V.bool b23, V.int IntKind.u8 x24, V.sl n25 c26, V.sl n27 c28, V.own 7 n29, V.own 8 n30], 1, 0, true⟩, ⟨[V.fn n_build_Build_1 [] [V.ptr 9 0], V.fn n_filter_New [] [], V.fn n_part_New [] [], V.fn n_build_Build_2 [] [V.ptr 10 0], V.fn n_join_New [] [], V.fn n_build_Build_3 [] [], V.fn n_build_Build_4 [] []], 1, 1, true⟩, ⟨c31, 5, 1, false⟩, ⟨c32, 1, 1, false⟩, ⟨c33, 5, 1, false⟩, ⟨c34, 9, 0, false⟩, ⟨c35, 2, 0, false⟩, ⟨[V.sl n36 c37], 1, 1, true⟩, ⟨[V.int IntKind.u8 x38, V.own 4 n39, V.own 5 n40, V.bool b41, V.own 6 n42, V.int IntKind.u8 x43, V.int IntKind.i64 x44, V.int IntKind.i64 x45, V.bool b46, V.int IntKind.u8 x47], 1, 1, true⟩] [] 0
noncomputable def S_build_Build_30 (N : Nat) (x0 : Int) (b1 : Bool) (x2 : Int) (x3 : Int) (x4 : Int) (b5 : Bool) (x6 : Int) (n7 : Nat) (c8 : List V) (n9 : Nat) (c10 : List V) (x11 : Int) (n12 : Nat) (n13 : Nat) (b14 : Bool) (n15 : Nat) (x16 : Int) (x17 : Int) (x18 : Int) (b19 : Bool) (x20 : Int) (n21 : Nat) (c22 : List V) (n23 : Nat) (c24 : List V) (n25 : Nat) (n26 : Nat) (c27 : List V) (c28 : List V) (c29 : List V) (c30 : List V) (c31 : List V) : Option V := runAt cc N n_build_Build 30 (envOf 149 [(8, V.ptr 0 0), (17, V.ptr 1 0), (18, V.ptr 2 0)]) [⟨[V.int IntKind.u8 x0, V.nils, V.nils, V.bool b1, V.nils, V.int IntKind.u8 x2, V.int IntKind.i64 x3, V.int IntKind.i64 x4, V.bool b5, V.int IntKind.u8 x6, V.nils, V.nils, V.nils, V.nils], 1, 0, true⟩, ⟨[V.sl n7 c8, V.sl n9 c10], 1, 0, true⟩, ⟨[V.int IntKind.u8 x11, V.own 3 n12, V.own 4 n13, V.bool b14, V.own 5 n15, V.int IntKind.u8 x16, V.int IntKind.i64 x17, V.int IntKind.i64 x18, V.bool b19, V.int IntKind.u8 x20, V.sl n21 c22, V.sl n23 c24, V.own 6 n25, V.own 7 n26], 1, 0, true⟩, ⟨c27, 5, 1, false⟩, ⟨c28, 1, 1, false⟩, ⟨c29, 5, 1, false⟩, ⟨c30, 9, 0, false⟩, ⟨c31, 2, 0, false⟩] [] 0
noncomputable def S_build_Build_28 (N : Nat) (n0 : Nat) (c1 : List V) (x2 : Int) (x3 : Int) (x4 : Int) (b5 : Bool) (x6 : Int) (x7 : Int) (x8 : Int) (b9 : Bool) (x10 : Int) (n11 : Nat) (c12 : List V) (n13 : Nat) (c14 : List V) (x15 : Int) (n16 : Nat) (n17 : Nat) (b18 : Bool) (n19 : Nat) (x20 : Int) (x21 : Int) (x22 : Int) (b23 : Bool) (x24 : Int) (n25 : Nat) (c26 : List V) (n27 : Nat) (c28 : List V) (n29 : Nat) (n30 : Nat) (x31 : Int) (x32 : Int) (x33 : Int) (n34 : Nat) (c35 : List V) (n36 : Nat) (c37 : List V) (n38 : Nat) (c39 : List V) (n40 : Nat) (c41 : List V) (n42 : Nat) (c43 : List V) (n44 : Nat) (c45 : List V) (c46 : List V) (c47 : List V) (c48 : List V) (c49 : List V) (c50 : List V) (n51 : Nat) (c52 : List V) (x53 : Int) (n54 : Nat) (n55 : Nat) (b56 : Bool) (n57 : Nat) (x58 : Int) (x59 : Int) (x60 : Int) (b61 : Bool) (x62 : Int) : Option V := runAt cc N n_build_Build 28 (envOf 149 [(8, V.ptr 0 0), (17, V.ptr 1 0), (18, V.ptr 2 0), (19, V.ptr 3 0), (22, V.ptr 4 0), (96, V.sl n0 c1), (97, V.int IntKind.i64 x2), (98, V.int IntKind.i64 x3)]) [⟨[V.int IntKind.u8 x4, V.nils, V.nils, V.bool b5, V.nils, V.int IntKind.u8 x6, V.int IntKind.i64 x7, V.int IntKind.i64 x8, V.bool b9, V.int IntKind.u8 x10, V.nils, V.nils, V.nils, V.nils], 1, 0, true⟩, ⟨[V.sl n11 c12, V.sl n13 c14], 1, 0, true⟩, ⟨[V.int IntKind.u8 x15, V.own 5 n16, V.own 6 n17, V.bool b18, V.own 7 n19, V.int IntKind.u8 x20, V.int IntKind.i64 x21, V.int IntKind.i64 x22, V.bool b23, V.int IntKind.u8 x24, V.sl n25 c26, V.sl n27 c28, V.own 8 n29, V.own 9 n30], 1, 0, true⟩, ⟨[V.fn n_build_Build_1 [] [V.ptr 10 0], V.fn n_filter_New [] [], V.fn n_part_New [] [], V.fn n_build_Build_2 [] [V.ptr 11 0], V.fn n_join_New [] [], V.fn n_build_Build_3 [] [], V.fn n_build_Build_4 [] []], 1, 1, true⟩, ⟨[V.int IntKind.u8 x31, V.int IntKind.i64 x32, V.int IntKind.i64 x33, V.sl n34 c35, V.sl n36 c37, V.sl n38 c39, V.sl n40 c41, V.sl n42 c43, V.sl n44 c45], 1, 0, true⟩, ⟨c46, 5, 1, false⟩, ⟨c47, 1, 1, false⟩, ⟨c48, 5, 1, false⟩, ⟨c49, 9, 0, false⟩, ⟨c50, 2, 0, false⟩, ⟨[V.sl n51 c52], 1, 1, true⟩, ⟨[V.int IntKind.u8 x53, V.own 5 n54, V.own 6 n55, V.bool b56, V.own 7 n57, V.int IntKind.u8 x58, V.int IntKind.i64 x59, V.int IntKind.i64 x60, V.bool b61, V.int IntKind.u8 x62], 1, 1, true⟩] [] 0
noncomputable def S_build_Build_31 (N : Nat) (n0 : Nat) (c1 : List V) (x2 : Int) (x3 : Int) (x4 : Int) (b5 : Bool) (x6 : Int) (x7 : Int) (x8 : Int) (b9 : Bool) (x10 : Int) (x11 : Int) (n12 : Nat) (n13 : Nat) (b14 : Bool) (n15 : Nat) (x16 : Int) (x17 : Int) (x18 : Int) (b19 : Bool) (x20 : Int) (n21 : Nat) (c22 : List V) (n23 : Nat) (c24 : List V) (n25 : Nat) (n26 : Nat) (c27 : List V) (c28 : List V) (c29 : List V) (c30 : List V) (c31 : List V) : Option V := runAt cc N n_build_Build 31 (envOf 149 [(8, V.ptr 0 0), (18, V.ptr 1 0), (125, V.sl n0 c1), (126, V.int IntKind.i64 x2), (127, V.int IntKind.i64 x3)]) [⟨[V.int IntKind.u8 x4, V.nils, V.nils, V.bool b5, V.nils, V.int IntKind.u8 x6, V.int IntKind.i64 x7, V.int IntKind.i64 x8, V.bool b9, V.int IntKind.u8 x10, V.nils, V.nils, V.nils, V.nils], 1, 0, true⟩, ⟨[V.int IntKind.u8 x11, V.own 2 n12, V.own 3 n13, V.bool b14, V.own 4 n15, V.int IntKind.u8 x16, V.int IntKind.i64 x17, V.int IntKind.i64 x18, V.bool b19, V.int IntKind.u8 x20, V.sl n21 c22, V.sl n23 c24, V.own 5 n25, V.own 6 n26], 1, 0, true⟩, ⟨c27, 5, 1, false⟩, ⟨c28, 1, 1, false⟩, ⟨c29, 5, 1, false⟩, ⟨c30, 9, 0, false⟩, ⟨c31, 2, 0, false⟩] [] 0
noncomputable def S_build_Build_29 (N : Nat) (n0 : Nat) (c1 : List V) (x2 : Int) (x3 : Int) (x4 : Int) (b5 : Bool) (x6 : Int) (x7 : Int) (x8 : Int) (b9 : Bool) (x10 : Int) (n11 : Nat) (c12 : List V) (n13 : Nat) (c14 : List V) (x15 : Int) (n16 : Nat) (n17 : Nat) (b18 : Bool) (n19 : Nat) (x20 : Int) (x21 : Int) (x22 : Int) (b23 : Bool) (x24 : Int) (n25 : Nat) (c26 : List V) (n27 : Nat) (c28 : List V) (n29 : Nat) (n30 : Nat) (c31 : List V) (c32 : List V) (c33 : List V) (c34 : List V) (c35 : List V) (n36 : Nat) (c37 : List V) (x38 : Int) (n39 : Nat) (n40 : Nat) (b41 : Bool) (n42 : Nat) (x43 : Int) (x44 : Int) (x45 : Int) (b46 : Bool) (x47 : Int) : Option V := runAt cc N n_build_Build 29 (envOf 149 [(8, V.ptr 0 0), (17, V.ptr 1 0), (18, V.ptr 2 0), (19, V.ptr 3 0), (96, V.sl n0 c1), (97, V.int IntKind.i64 x2), (98, V.int IntKind.i64 x3)]) [⟨[V.int IntKind.u8 x4, V.nils, V.nils, V.bool b5, V.nils, V.int IntKind.u8 x6, V.int IntKind.i64 x7, V.int IntKind.i64 x8, V.bool b9, V.int IntKind.u8 x10, V.nils, V.nils, V.nils, V.nils], 1, 0, true⟩, ⟨[V.sl n11 c12, V.sl n13 c14], 1, 0, true⟩, ⟨[V.int IntKind.u8 x15, V.own 4 n16, V.own 5 n17, V.bool b18, V.own 6 n19, V.int IntKind.u8 x20, V.int IntKind.i64 x21, V.int IntKind.i64 x22, V.bool b23, V.int IntKind.u8 x24, V.sl n25 c26, V.sl n27 c28, V.own 7 n29, V.own 8 n30], 1, 0, true⟩, ⟨[V.fn n_build_Build_1 [] [V.ptr 9 0], V.fn n_filter_New [] [], V.fn n_part_New [] [], V.fn n_build_Build_2 [] [V.ptr 10 0], V.fn n_join_New [] [], V.fn n_build_Build_3 [] [], V.fn n_build_Build_4 [] []], 1, 1, true⟩, ⟨c31, 5, 1, false⟩, ⟨c32, 1, 1, false⟩, ⟨c33, 5, 1, false⟩, ⟨c34, 9, 0, false⟩, ⟨c35, 2, 0, false⟩, ⟨[V.sl n36 c37], 1, 1, true⟩, ⟨[V.int IntKind.u8 x38, V.own 4 n39, V.own 5 n40, V.bool b41, V.own 6 n42, V.int IntKind.u8 x43, V.int IntKind.i64 x44, V.int IntKind.i64 x45, V.bool b46, V.int IntKind.u8 x47], 1, 1, true⟩] [] 0
noncomputable def S_build_Build_32 (N : Nat) (n0 : Nat) (c1 : List V) (x2 : Int) (x3 : Int) (x4 : Int) (b5 : Bool) (x6 : Int) (x7 : Int) (x8 : Int) (b9 : Bool) (x10 : Int) (x11 : Int) (n12 : Nat) (n13 : Nat) (b14 : Bool) (n15 : Nat) (x16 : Int) (x17 : Int) (x18 : Int) (b19 : Bool) (x20 : Int) (n21 : Nat) (c22 : List V) (n23 : Nat) (c24 : List V) (n25 : Nat) (n26 : Nat) (c27 : List V) (c28 : List V) (c29 : List V) (c30 : List V) (c31 : List V) : Option V := runAt cc N n_build_Build 32 (envOf 149 [(8, V.ptr 0 0), (18, V.ptr 1 0), (125, V.sl n0 c1), (126, V.int IntKind.i64 x2), (127, V.int IntKind.i64 x3)]) [⟨[V.int IntKind.u8 x4, V.nils, V.nils, V.bool b5, V.nils, V.int IntKind.u8 x6, V.int IntKind.i64 x7, V.int IntKind.i64 x8, V.bool b9, V.int IntKind.u8 x10, V.nils, V.nils, V.nils, V.nils], 1, 0, true⟩, ⟨[V.int IntKind.u8 x11, V.own 2 n12, V.own 3 n13, V.bool b14, V.own 4 n15, V.int IntKind.u8 x16, V.int IntKind.i64 x17, V.int IntKind.i64 x18, V.bool b19, V.int IntKind.u8 x20, V.sl n21 c22, V.sl n23 c24, V.own 5 n25, V.own 6 n26], 1, 0, true⟩, ⟨c27, 5, 1, false⟩, ⟨c28, 1, 1, false⟩, ⟨c29, 5, 1, false⟩, ⟨c30, 9, 0, false⟩, ⟨c31, 2, 0, false⟩] [] 0
noncomputable def S_build_Build_38 (N : Nat) (x0 : Int) (b1 : Bool) (x2 : Int) (x3 : Int) (x4 : Int) (b5 : Bool) (x6 : Int) (x7 : Int) (n8 : Nat) (n9 : Nat) (b10 : Bool) (n11 : Nat) (x12 : Int) (x13 : Int) (x14 : Int) (b15 : Bool) (x16 : Int) (n17 : Nat) (c18 : List V) (n19 : Nat) (c20 : List V) (n21 : Nat) (n22 : Nat) (c23 : List V) (c24 : List V) (c25 : List V) (c26 : List V) (c27 : List V) : Option V := runAt cc N n_build_Build 38 (envOf 149 [(8, V.ptr 0 0), (18, V.ptr 1 0)]) [⟨[V.int IntKind.u8 x0, V.nils, V.nils, V.bool b1, V.nils, V.int IntKind.u8 x2, V.int IntKind.i64 x3, V.int IntKind.i64 x4, V.bool b5, V.int IntKind.u8 x6, V.nils, V.nils, V.nils, V.nils], 1, 0, true⟩, ⟨[V.int IntKind.u8 x7, V.own 2 n8, V.own 3 n9, V.bool b10, V.own 4 n11, V.int IntKind.u8 x12, V.int IntKind.i64 x13, V.int IntKind.i64 x14, V.bool b15, V.int IntKind.u8 x16, V.sl n17 c18, V.sl n19 c20, V.own 5 n21, V.own 6 n22], 1, 0, true⟩, ⟨c23, 5, 1, false⟩, ⟨c24, 1, 1, false⟩, ⟨c25, 5, 1, false⟩, ⟨c26, 9, 0, false⟩, ⟨c27, 2, 0, false⟩] [] 0
noncomputable def S_build_Build_36 (N : Nat) (n0 : Nat) (c1 : List V) (x2 : Int) (x3 : Int) (x4 : Int) (b5 : Bool) (x6 : Int) (x7 : Int) (x8 : Int) (b9 : Bool) (x10 : Int) (x11 : Int) (n12 : Nat) (n13 : Nat) (b14 : Bool) (n15 : Nat) (x16 : Int) (x17 : Int) (x18 : Int) (b19 : Bool) (x20 : Int) (n21 : Nat) (c22 : List V) (n23 : Nat) (c24 : List V) (n25 : Nat) (n26 : Nat) (x27 : Int) (n28 : Nat) (c29 : List V) (c30 : List V) (c31 : List V) (c32 : List V) (c33 : List V) (c34 : List V) : Option V := runAt cc N n_build_Build 36 (envOf 149 [(8, V.ptr 0 0), (18, V.ptr 1 0), (26, V.ptr 2 0), (125, V.sl n0 c1), (126, V.int IntKind.i64 x2), (127, V.int IntKind.i64 x3)]) [⟨[V.int IntKind.u8 x4, V.nils, V.nils, V.bool b5, V.nils, V.int IntKind.u8 x6, V.int IntKind.i64 x7, V.int IntKind.i64 x8, V.bool b9, V.int IntKind.u8 x10, V.nils, V.nils, V.nils, V.nils], 1, 0, true⟩, ⟨[V.int IntKind.u8 x11, V.own 3 n12, V.own 4 n13, V.bool b14, V.own 5 n15, V.int IntKind.u8 x16, V.int IntKind.i64 x17, V.int IntKind.i64 x18, V.bool b19, V.int IntKind.u8 x20, V.sl n21 c22, V.sl n23 c24, V.own 6 n25, V.own 7 n26], 1, 0, true⟩, ⟨[V.int IntKind.i64 x27, V.sl n28 c29], 1, 0, true⟩, ⟨c30, 5, 1, false⟩, ⟨c31, 1, 1, false⟩, ⟨c32, 5, 1, false⟩, ⟨c33, 9, 0, false⟩, ⟨c34, 2, 0, false⟩] [] 0
noncomputable def S_build_Build_37 (N : Nat) (n0 : Nat) (c1 : List V) (x2 : Int) (x3 : Int) (x4 : Int) (b5 : Bool) (x6 : Int) (x7 : Int) (x8 : Int) (b9 : Bool) (x10 : Int) (x11 : Int) (n12 : Nat) (n13 : Nat) (b14 : Bool) (n15 : Nat) (x16 : Int) (x17 : Int) (x18 : Int) (b19 : Bool) (x20 : Int) (n21 : Nat) (c22 : List V) (n23 : Nat) (c24 : List V) (n25 : Nat) (n26 : Nat) (c27 : List V) (c28 : List V) (c29 : List V) (c30 : List V) (c31 : List V) : Option V := runAt cc N n_build_Build 37 (envOf 149 [(8, V.ptr 0 0), (18, V.ptr 1 0), (125, V.sl n0 c1), (126, V.int IntKind.i64 x2), (127, V.int IntKind.i64 x3)]) [⟨[V.int IntKind.u8 x4, V.nils, V.nils, V.bool b5, V.nils, V.int IntKind.u8 x6, V.int IntKind.i64 x7, V.int IntKind.i64 x8, V.bool b9, V.int IntKind.u8 x10, V.nils, V.nils, V.nils, V.nils], 1, 0, true⟩, ⟨[V.int IntKind.u8 x11, V.own 2 n12, V.own 3 n13, V.bool b14, V.own 4 n15, V.int IntKind.u8 x16, V.int IntKind.i64 x17, V.int IntKind.i64 x18, V.bool b19, V.int IntKind.u8 x20, V.sl n21 c22, V.sl n23 c24, V.own 5 n25, V.own 6 n26], 1, 0, true⟩, ⟨c27, 5, 1, false⟩, ⟨c28, 1, 1, false⟩, ⟨c29, 5, 1, false⟩, ⟨c30, 9, 0, false⟩, ⟨c31, 2, 0, false⟩] [] 0
theorem F_build_Build (N : Nat) (x0 : Int) (n1 : Nat) (c2 : List V) (n3 : Nat) (c4 : List V) (b5 : Bool) (n6 : Nat) (c7 : List V) (x8 : Int) (x9 : Int) (x10 : Int) (b11 : Bool) (x12 : Int) (n13 : Nat) (c14 : List V) (x15 : Int) (x16 : Int) : call cc (N + 1) n_build_Build [V.agg [V.int IntKind.u8 x0, V.sl n1 c2, V.sl n3 c4, V.bool b5, V.sl n6 c7, V.int IntKind.u8 x8, V.int IntKind.i64 x9, V.int IntKind.i64 x10, V.bool b11, V.int IntKind.u8 x12], V.sl n13 c14, V.int IntKind.i64 x15, V.int IntKind.i64 x16] =
 (call cc N n_checks_Check [V.agg [V.int IntKind.u8 x0, V.sl n1 c2, V.sl n3 c4, V.bool b5, V.sl n6 c7, V.int IntKind.u8 x8, V.int IntKind.i64 x9, V.int IntKind.i64 x10, V.bool b11, V.int IntKind.u8 x12]]).bind fun v17 =>
 cond (okRes [(false, [CK.i IntKind.i64]), (false, [CK.i IntKind.i64])] v17)
 (cond ((V.toI (cellAt (V.cells (cellAt (V.cs v17) 1)) 0)) != (0 : Int))
 (some (V.tup [V.agg [V.int IntKind.u8 (0 : Int), V.sl 0 [], V.sl 0 [], V.bool false, V.sl 0 [], V.int IntKind.u8 (0 : Int), V.int IntKind.i64 (0 : Int), V.int IntKind.i64 (0 : Int), V.bool false, V.int IntKind.u8 (0 : Int), V.sl 0 [], V.sl 0 [], V.sl 0 [], V.sl 0 []], V.int IntKind.i64 (V.toI (cellAt (V.cells (cellAt (V.cs v17) 1)) 0))]))
 (S_build_Build_4 N x15 x16 x0 n1 c2 n3 c4 b5 n6 c7 x8 x9 x10 b11 x12 n13 c14 (0 : Int) false (0 : Int) (0 : Int) (0 : Int) false (0 : Int)))
 none := by kernel_rfl
theorem S_build_Build_4_eq (N : Nat) (x0 : Int) (x1 : Int) (x2 : Int) (n3 : Nat) (c4 : List V) (n5 : Nat) (c6 : List V) (b7 : Bool) (n8 : Nat) (c9 : List V) (x10 : Int) (x11 : Int) (x12 : Int) (b13 : Bool) (x14 : Int) (n15 : Nat) (c16 : List V) (x17 : Int) (b18 : Bool) (x19 : Int) (x20 : Int) (x21 : Int) (b22 : Bool) (x23 : Int) : S_build_Build_4 (N + 1) x0 x1 x2 n3 c4 n5 c6 b7 n8 c9 x10 x11 x12 b13 x14 n15 c16 x17 b18 x19 x20 x21 b22 x23 =
 cond (((n15 : Nat) : Int) != ((n5 : Nat) : Int))
 (some (V.tup [V.agg [V.int IntKind.u8 (0 : Int), V.sl 0 [], V.sl 0 [], V.bool false, V.sl 0 [], V.int IntKind.u8 (0 : Int), V.int IntKind.i64 (0 : Int), V.int IntKind.i64 (0 : Int), V.bool false, V.int IntKind.u8 (0 : Int), V.sl 0 [], V.sl 0 [], V.sl 0 [], V.sl 0 []], V.int IntKind.i64 (2 : Int)]))
 (S_build_Build_6 N x0 x1 x2 n3 c4 n5 c6 b7 n8 c9 x10 x11 x12 b13 x14 n15 c16 x17 b18 x19 x20 x21 b22 x23) := by kernel_rfl
theorem S_build_Build_6_eq (N : Nat) (x0 : Int) (x1 : Int) (x2 : Int) (n3 : Nat) (c4 : List V) (n5 : Nat) (c6 : List V) (b7 : Bool) (n8 : Nat) (c9 : List V) (x10 : Int) (x11 : Int) (x12 : Int) (b13 : Bool) (x14 : Int) (n15 : Nat) (c16 : List V) (x17 : Int) (b18 : Bool) (x19 : Int) (x20 : Int) (x21 : Int) (b22 : Bool) (x23 : Int) : S_build_Build_6 (N + 1) x0 x1 x2 n3 c4 n5 c6 b7 n8 c9 x10 x11 x12 b13 x14 n15 c16 x17 b18 x19 x20 x21 b22 x23 =
 S_build_Build_7 N x0 x1 n15 c16 ((n15 : Nat) : Int) (0 : Int) x2 n3 c4 n5 c6 b7 n8 c9 x10 x11 x12 b13 x14 n15 c16 x17 b18 x19 x20 x21 b22 x23 := by kernel_rfl
theorem S_build_Build_7_eq (N : Nat) (x0 : Int) (x1 : Int) (n2 : Nat) (c3 : List V) (x4 : Int) (x5 : Int) (x6 : Int) (n7 : Nat) (c8 : List V) (n9 : Nat) (c10 : List V) (b11 : Bool) (n12 : Nat) (c13 : List V) (x14 : Int) (x15 : Int) (x16 : Int) (b17 : Bool) (x18 : Int) (n19 : Nat) (c20 : List V) (x21 : Int) (b22 : Bool) (x23 : Int) (x24 : Int) (x25 : Int) (b26 : Bool) (x27 : Int) : S_build_Build_7 (N + 1) x0 x1 n2 c3 x4 x5 x6 n7 c8 n9 c10 b11 n12 c13 x14 x15 x16 b17 x18 n19 c20 x21 b22 x23 x24 x25 b26 x27 =
 cond (decide (x5 < x4))
 (S_build_Build_8 N x0 x1 n2 c3 x4 x5 x6 n7 c8 n9 c10 b11 n12 c13 x14 x15 x16 b17 x18 n19 c20 x21 b22 x23 x24 x25 b26 x27)
 (S_build_Build_13 N x0 x1 x6 n7 c8 n9 c10 b11 n12 c13 x14 x15 x16 b17 x18 n19 c20 x21 b22 x23 x24 x25 b26 x27) := by kernel_rfl
theorem S_build_Build_8_eq (N : Nat) (x0 : Int) (x1 : Int) (n2 : Nat) (c3 : List V) (x4 : Int) (x5 : Int) (x6 : Int) (n7 : Nat) (c8 : List V) (n9 : Nat) (c10 : List V) (b11 : Bool) (n12 : Nat) (c13 : List V) (x14 : Int) (x15 : Int) (x16 : Int) (b17 : Bool) (x18 : Int) (n19 : Nat) (c20 : List V) (x21 : Int) (b22 : Bool) (x23 : Int) (x24 : Int) (x25 : Int) (b26 : Bool) (x27 : Int) : S_build_Build_8 (N + 1) x0 x1 n2 c3 x4 x5 x6 n7 c8 n9 c10 b11 n12 c13 x14 x15 x16 b17 x18 n19 c20 x21 b22 x23 x24 x25 b26 x27 =
 cond (decide ((0 : Int) ≤ x5))
 (cond (decide (x5 < ((n2 : Nat) : Int)))
 (cond (okT [CK.sl 5] c3 ((Int.toNat x5) * 1))
 ((call cc N n_late_Check [V.sl (V.slN (cellAt c3 ((Int.toNat x5) * 1))) (V.slC (cellAt c3 ((Int.toNat x5) * 1)))]).bind fun v28 =>
 cond (okRes [(false, [CK.i IntKind.i64])] v28)
 (cond ((V.toI (cellAt (V.cells v28) 0)) != (0 : Int))
 (some (V.tup [V.agg [V.int IntKind.u8 (0 : Int), V.sl 0 [], V.sl 0 [], V.bool false, V.sl 0 [], V.int IntKind.u8 (0 : Int), V.int IntKind.i64 (0 : Int), V.int IntKind.i64 (0 : Int), V.bool false, V.int IntKind.u8 (0 : Int), V.sl 0 [], V.sl 0 [], V.sl 0 [], V.sl 0 []], V.int IntKind.i64 (V.toI (cellAt (V.cells v28) 0))]))
 (S_build_Build_12 N x0 x1 n2 c3 x4 x5 x6 n7 c8 n9 c10 b11 n12 c13 x14 x15 x16 b17 x18 n19 c20 x21 b22 x23 x24 x25 b26 x27))
 none)
 none)
 none)
 none := by kernel_rfl
theorem S_build_Build_13_eq (N : Nat) (x0 : Int) (x1 : Int) (x2 : Int) (n3 : Nat) (c4 : List V) (n5 : Nat) (c6 : List V) (b7 : Bool) (n8 : Nat) (c9 : List V) (x10 : Int) (x11 : Int) (x12 : Int) (b13 : Bool) (x14 : Int) (n15 : Nat) (c16 : List V) (x17 : Int) (b18 : Bool) (x19 : Int) (x20 : Int) (x21 : Int) (b22 : Bool) (x23 : Int) : S_build_Build_13 (N + 1) x0 x1 x2 n3 c4 n5 c6 b7 n8 c9 x10 x11 x12 b13 x14 n15 c16 x17 b18 x19 x20 x21 b22 x23 =
 (call cc N n_plan_Of [V.agg [V.int IntKind.u8 x2, V.sl n3 c4, V.sl n5 c6, V.bool b7, V.sl n8 c9, V.int IntKind.u8 x10, V.int IntKind.i64 x11, V.int IntKind.i64 x12, V.bool b13, V.int IntKind.u8 x14]]).bind fun v24 =>
 cond (okRes [(true, [CK.sl 1, CK.i IntKind.u8, CK.sl 5, CK.sl 1, CK.b, CK.sl 5, CK.i IntKind.u8, CK.i IntKind.i64, CK.i IntKind.i64, CK.b, CK.i IntKind.u8]), (false, [CK.i IntKind.i64])] v24)
 (cond ((V.toI (cellAt (V.cells (cellAt (V.cs v24) 1)) 0)) != (0 : Int))
 (some (V.tup [V.agg [V.int IntKind.u8 (0 : Int), V.sl 0 [], V.sl 0 [], V.bool false, V.sl 0 [], V.int IntKind.u8 (0 : Int), V.int IntKind.i64 (0 : Int), V.int IntKind.i64 (0 : Int), V.bool false, V.int IntKind.u8 (0 : Int), V.sl 0 [], V.sl 0 [], V.sl 0 [], V.sl 0 []], V.int IntKind.i64 (V.toI (cellAt (V.cells (cellAt (V.cs v24) 1)) 0))]))
 (S_build_Build_16 N x0 x1 x2 n3 c4 n5 c6 b7 n8 c9 x10 x11 x12 b13 x14 n15 c16 x17 b18 x19 x20 x21 b22 x23 (V.slN (cellAt (V.cells (cellAt (V.cs v24) 0)) 0)) (V.slC (cellAt (V.cells (cellAt (V.cs v24) 0)) 0)) (V.toI (cellAt (V.cells (cellAt (V.cs v24) 0)) 1)) (V.slN (cellAt (V.cells (cellAt (V.cs v24) 0)) 2)) (V.slC (cellAt (V.cells (cellAt (V.cs v24) 0)) 2)) (V.slN (cellAt (V.cells (cellAt (V.cs v24) 0)) 3)) (V.slC (cellAt (V.cells (cellAt (V.cs v24) 0)) 3)) (V.toB (cellAt (V.cells (cellAt (V.cs v24) 0)) 4)) (V.slN (cellAt (V.cells (cellAt (V.cs v24) 0)) 5)) (V.slC (cellAt (V.cells (cellAt (V.cs v24) 0)) 5)) (V.toI (cellAt (V.cells (cellAt (V.cs v24) 0)) 6)) (V.toI (cellAt (V.cells (cellAt (V.cs v24) 0)) 7)) (V.toI (cellAt (V.cells (cellAt (V.cs v24) 0)) 8)) (V.toB (cellAt (V.cells (cellAt (V.cs v24) 0)) 9)) (V.toI (cellAt (V.cells (cellAt (V.cs v24) 0)) 10))))
 none := by kernel_rfl
theorem S_build_Build_12_eq (N : Nat) (x0 : Int) (x1 : Int) (n2 : Nat) (c3 : List V) (x4 : Int) (x5 : Int) (x6 : Int) (n7 : Nat) (c8 : List V) (n9 : Nat) (c10 : List V) (b11 : Bool) (n12 : Nat) (c13 : List V) (x14 : Int) (x15 : Int) (x16 : Int) (b17 : Bool) (x18 : Int) (n19 : Nat) (c20 : List V) (x21 : Int) (b22 : Bool) (x23 : Int) (x24 : Int) (x25 : Int) (b26 : Bool) (x27 : Int) : S_build_Build_12 (N + 1) x0 x1 n2 c3 x4 x5 x6 n7 c8 n9 c10 b11 n12 c13 x14 x15 x16 b17 x18 n19 c20 x21 b22 x23 x24 x25 b26 x27 =
 S_build_Build_7 N x0 x1 n2 c3 x4 (IntKind.wrap IntKind.i64 (x5 + (1 : Int))) x6 n7 c8 n9 c10 b11 n12 c13 x14 x15 x16 b17 x18 n19 c20 x21 b22 x23 x24 x25 b26 x27 := by kernel_rfl
theorem S_build_Build_16_eq (N : Nat) (x0 : Int) (x1 : Int) (x2 : Int) (n3 : Nat) (c4 : List V) (n5 : Nat) (c6 : List V) (b7 : Bool) (n8 : Nat) (c9 : List V) (x10 : Int) (x11 : Int) (x12 : Int) (b13 : Bool) (x14 : Int) (n15 : Nat) (c16 : List V) (x17 : Int) (b18 : Bool) (x19 : Int) (x20 : Int) (x21 : Int) (b22 : Bool) (x23 : Int) (n24 : Nat) (c25 : List V) (x26 : Int) (n27 : Nat) (c28 : List V) (n29 : Nat) (c30 : List V) (b31 : Bool) (n32 : Nat) (c33 : List V) (x34 : Int) (x35 : Int) (x36 : Int) (b37 : Bool) (x38 : Int) : S_build_Build_16 (N + 1) x0 x1 x2 n3 c4 n5 c6 b7 n8 c9 x10 x11 x12 b13 x14 n15 c16 x17 b18 x19 x20 x21 b22 x23 n24 c25 x26 n27 c28 n29 c30 b31 n32 c33 x34 x35 x36 b37 x38 =
 (call cc N n_graph_Of [V.agg [V.sl n24 c25, V.int IntKind.u8 x26, V.sl n27 c28, V.sl n29 c30, V.bool b31, V.sl n32 c33, V.int IntKind.u8 x34, V.int IntKind.i64 x35, V.int IntKind.i64 x36, V.bool b37, V.int IntKind.u8 x38], V.int IntKind.i64 x0, V.int IntKind.i64 x1]).bind fun v39 =>
 cond (okRes [(true, [CK.sl 2, CK.sl 5]), (false, [CK.i IntKind.i64])] v39)
 (cond ((V.toI (cellAt (V.cells (cellAt (V.cs v39) 1)) 0)) != (0 : Int))
 (some (V.tup [V.agg [V.int IntKind.u8 (0 : Int), V.sl 0 [], V.sl 0 [], V.bool false, V.sl 0 [], V.int IntKind.u8 (0 : Int), V.int IntKind.i64 (0 : Int), V.int IntKind.i64 (0 : Int), V.bool false, V.int IntKind.u8 (0 : Int), V.sl 0 [], V.sl 0 [], V.sl 0 [], V.sl 0 []], V.int IntKind.i64 (V.toI (cellAt (V.cells (cellAt (V.cs v39) 1)) 0))]))
 (S_build_Build_19 N x2 n3 c4 n5 c6 b7 n8 c9 x10 x11 x12 b13 x14 n15 c16 x17 b18 x19 x20 x21 b22 x23 (V.slN (cellAt (V.cells (cellAt (V.cs v39) 0)) 0)) (V.slC (cellAt (V.cells (cellAt (V.cs v39) 0)) 0)) (V.slN (cellAt (V.cells (cellAt (V.cs v39) 0)) 1)) (V.slC (cellAt (V.cells (cellAt (V.cs v39) 0)) 1))))
 none := by kernel_rfl
theorem S_build_Build_19_eq (N : Nat) (x0 : Int) (n1 : Nat) (c2 : List V) (n3 : Nat) (c4 : List V) (b5 : Bool) (n6 : Nat) (c7 : List V) (x8 : Int) (x9 : Int) (x10 : Int) (b11 : Bool) (x12 : Int) (n13 : Nat) (c14 : List V) (x15 : Int) (b16 : Bool) (x17 : Int) (x18 : Int) (x19 : Int) (b20 : Bool) (x21 : Int) (n22 : Nat) (c23 : List V) (n24 : Nat) (c25 : List V) : S_build_Build_19 (N + 1) x0 n1 c2 n3 c4 b5 n6 c7 x8 x9 x10 b11 x12 n13 c14 x15 b16 x17 x18 x19 b20 x21 n22 c23 n24 c25 =
 (call cc N n_slices_Clone_api_NodeN [V.sl n1 c2]).bind fun v26 =>
 cond (okRes [(false, [CK.sl 5])] v26)
 ((call cc N n_slices_Clone_api_NodeN [V.sl n6 c7]).bind fun v27 =>
 cond (okRes [(false, [CK.sl 5])] v27)
 ((call cc N n_slices_Clone_int_int [V.sl n3 c4]).bind fun v28 =>
 cond (okRes [(false, [CK.sl 1])] v28)
 (S_build_Build_23 N n22 c23 ((n22 : Nat) : Int) (0 : Int) x15 b16 x17 x18 x19 b20 x21 n22 c23 n24 c25 x0 (V.slN (cellAt (V.cells v26) 0)) (V.slN (cellAt (V.cells v28) 0)) b5 (V.slN (cellAt (V.cells v27) 0)) x8 x9 x10 b11 x12 n22 c23 n24 c25 0 0 (Blk.cells ⟨V.slC (V.sl (V.slN (cellAt (V.cells v26) 0)) (V.slC (cellAt (V.cells v26) 0))), 5, 0, false⟩) (Blk.cells ⟨V.slC (V.sl (V.slN (cellAt (V.cells v28) 0)) (V.slC (cellAt (V.cells v28) 0))), 1, 0, false⟩) (Blk.cells ⟨V.slC (V.sl (V.slN (cellAt (V.cells v27) 0)) (V.slC (cellAt (V.cells v27) 0))), 5, 0, false⟩) [] [] n13 c14 x0 (V.slN (cellAt (V.cells v26) 0)) (V.slN (cellAt (V.cells v28) 0)) b5 (V.slN (cellAt (V.cells v27) 0)) x8 x9 x10 b11 x12)
 none)
 none)
 none := by kernel_rfl
theorem S_build_Build_23_eq (N : Nat) (n0 : Nat) (c1 : List V) (x2 : Int) (x3 : Int) (x4 : Int) (b5 : Bool) (x6 : Int) (x7 : Int) (x8 : Int) (b9 : Bool) (x10 : Int) (n11 : Nat) (c12 : List V) (n13 : Nat) (c14 : List V) (x15 : Int) (n16 : Nat) (n17 : Nat) (b18 : Bool) (n19 : Nat) (x20 : Int) (x21 : Int) (x22 : Int) (b23 : Bool) (x24 : Int) (n25 : Nat) (c26 : List V) (n27 : Nat) (c28 : List V) (n29 : Nat) (n30 : Nat) (c31 : List V) (c32 : List V) (c33 : List V) (c34 : List V) (c35 : List V) (n36 : Nat) (c37 : List V) (x38 : Int) (n39 : Nat) (n40 : Nat) (b41 : Bool) (n42 : Nat) (x43 : Int) (x44 : Int) (x45 : Int) (b46 : Bool) (x47 : Int) : S_build_Build_23 (N + 1) n0 c1 x2 x3 x4 b5 x6 x7 x8 b9 x10 n11 c12 n13 c14 x15 n16 n17 b18 n19 x20 x21 x22 b23 x24 n25 c26 n27 c28 n29 n30 c31 c32 c33 c34 c35 n36 c37 x38 n39 n40 b41 n42 x43 x44 x45 b46 x47 =
 cond (decide (x3 < x2))
 (S_build_Build_24 N n0 c1 x2 x3 x4 b5 x6 x7 x8 b9 x10 n11 c12 n13 c14 x15 n16 n17 b18 n19 x20 x21 x22 b23 x24 n25 c26 n27 c28 n29 n30 c31 c32 c33 c34 c35 n36 c37 x38 n39 n40 b41 n42 x43 x44 x45 b46 x47)
 (S_build_Build_30 N x4 b5 x6 x7 x8 b9 x10 n11 c12 n13 c14 x15 n16 n17 b18 n19 x20 x21 x22 b23 x24 n25 c26 n27 c28 n29 n30 c31 c32 c33 c34 c35) := by kernel_rfl
theorem S_build_Build_24_eq (N : Nat) (n0 : Nat) (c1 : List V) (x2 : Int) (x3 : Int) (x4 : Int) (b5 : Bool) (x6 : Int) (x7 : Int) (x8 : Int) (b9 : Bool) (x10 : Int) (n11 : Nat) (c12 : List V) (n13 : Nat) (c14 : List V) (x15 : Int) (n16 : Nat) (n17 : Nat) (b18 : Bool) (n19 : Nat) (x20 : Int) (x21 : Int) (x22 : Int) (b23 : Bool) (x24 : Int) (n25 : Nat) (c26 : List V) (n27 : Nat) (c28 : List V) (n29 : Nat) (n30 : Nat) (c31 : List V) (c32 : List V) (c33 : List V) (c34 : List V) (c35 : List V) (n36 : Nat) (c37 : List V) (x38 : Int) (n39 : Nat) (n40 : Nat) (b41 : Bool) (n42 : Nat) (x43 : Int) (x44 : Int) (x45 : Int) (b46 : Bool) (x47 : Int) : S_build_Build_24 (N + 1) n0 c1 x2 x3 x4 b5 x6 x7 x8 b9 x10 n11 c12 n13 c14 x15 n16 n17 b18 n19 x20 x21 x22 b23 x24 n25 c26 n27 c28 n29 n30 c31 c32 c33 c34 c35 n36 c37 x38 n39 n40 b41 n42 x43 x44 x45 b46 x47 =
 cond (decide ((0 : Int) ≤ x3))
 (cond (decide (x3 < ((n0 : Nat) : Int)))
 (cond (okT [CK.i IntKind.u8, CK.i IntKind.i64] c1 ((Int.toNat x3) * 2))
 (cond (decide ((0 : Int) ≤ (IntKind.wrap IntKind.u8 ((V.toI (cellAt c1 ((Int.toNat x3) * 2))) - (1 : Int)))))
 (cond (decide ((IntKind.wrap IntKind.u8 ((V.toI (cellAt c1 ((Int.toNat x3) * 2))) - (1 : Int))) < ((7 : Nat) : Int)))
 (cond (Nat.beq (0 + ((Int.toNat (IntKind.wrap IntKind.u8 ((V.toI (cellAt c1 ((Int.toNat x3) * 2))) - (1 : Int)))) * 1)) 0)
 ((call cc N n_build_Build_1 [V.int IntKind.i64 (V.toI (cellAt c1 (((Int.toNat x3) * 2) + 1))), V.rop [V.sl n36 c37] 0]).bind fun v48 =>
  cond (okRes [(true, [CK.i IntKind.u8, CK.i IntKind.i64, CK.i IntKind.i64, CK.sl 11, CK.sl 1, CK.sl 11, CK.sl 5, CK.sl 5, CK.sl 3]), (false, [CK.i IntKind.i64])] v48)
  (cond ((V.toI (cellAt (V.cells (cellAt (V.cs v48) 1)) 0)) != (0 : Int))
  (some (V.tup [V.agg [V.int IntKind.u8 (0 : Int), V.sl 0 [], V.sl 0 [], V.bool false, V.sl 0 [], V.int IntKind.u8 (0 : Int), V.int IntKind.i64 (0 : Int), V.int IntKind.i64 (0 : Int), V.bool false, V.int IntKind.u8 (0 : Int), V.sl 0 [], V.sl 0 [], V.sl 0 [], V.sl 0 []], V.int IntKind.i64 (V.toI (cellAt (V.cells (cellAt (V.cs v48) 1)) 0))]))
  (S_build_Build_28 N n0 c1 x2 x3 x4 b5 x6 x7 x8 b9 x10 n11 c12 n13 c14 x15 n16 n17 b18 n19 x20 x21 x22 b23 x24 n25 c26 n27 c28 n29 n30 (V.toI (cellAt (V.cells (cellAt (V.cs v48) 0)) 0)) (V.toI (cellAt (V.cells (cellAt (V.cs v48) 0)) 1)) (V.toI (cellAt (V.cells (cellAt (V.cs v48) 0)) 2)) (V.slN (cellAt (V.cells (cellAt (V.cs v48) 0)) 3)) (V.slC (cellAt (V.cells (cellAt (V.cs v48) 0)) 3)) (V.slN (cellAt (V.cells (cellAt (V.cs v48) 0)) 4)) (V.slC (cellAt (V.cells (cellAt (V.cs v48) 0)) 4)) (V.slN (cellAt (V.cells (cellAt (V.cs v48) 0)) 5)) (V.slC (cellAt (V.cells (cellAt (V.cs v48) 0)) 5)) (V.slN (cellAt (V.cells (cellAt (V.cs v48) 0)) 6)) (V.slC (cellAt (V.cells (cellAt (V.cs v48) 0)) 6)) (V.slN (cellAt (V.cells (cellAt (V.cs v48) 0)) 7)) (V.slC (cellAt (V.cells (cellAt (V.cs v48) 0)) 7)) (V.slN (cellAt (V.cells (cellAt (V.cs v48) 0)) 8)) (V.slC (cellAt (V.cells (cellAt (V.cs v48) 0)) 8)) c31 c32 c33 c34 c35 n36 c37 x38 n39 n40 b41 n42 x43 x44 x45 b46 x47))
  none)
 (cond (Nat.beq ((0 + ((Int.toNat (IntKind.wrap IntKind.u8 ((V.toI (cellAt c1 ((Int.toNat x3) * 2))) - (1 : Int)))) * 1)) - 1) 0)
  ((call cc N n_filter_New [V.int IntKind.i64 (V.toI (cellAt c1 (((Int.toNat x3) * 2) + 1)))]).bind fun v49 =>
   cond (okRes [(true, [CK.i IntKind.u8, CK.i IntKind.i64, CK.i IntKind.i64, CK.sl 11, CK.sl 1, CK.sl 11, CK.sl 5, CK.sl 5, CK.sl 3]), (false, [CK.i IntKind.i64])] v49)
   (cond ((V.toI (cellAt (V.cells (cellAt (V.cs v49) 1)) 0)) != (0 : Int))
   (some (V.tup [V.agg [V.int IntKind.u8 (0 : Int), V.sl 0 [], V.sl 0 [], V.bool false, V.sl 0 [], V.int IntKind.u8 (0 : Int), V.int IntKind.i64 (0 : Int), V.int IntKind.i64 (0 : Int), V.bool false, V.int IntKind.u8 (0 : Int), V.sl 0 [], V.sl 0 [], V.sl 0 [], V.sl 0 []], V.int IntKind.i64 (V.toI (cellAt (V.cells (cellAt (V.cs v49) 1)) 0))]))
   (S_build_Build_28 N n0 c1 x2 x3 x4 b5 x6 x7 x8 b9 x10 n11 c12 n13 c14 x15 n16 n17 b18 n19 x20 x21 x22 b23 x24 n25 c26 n27 c28 n29 n30 (V.toI (cellAt (V.cells (cellAt (V.cs v49) 0)) 0)) (V.toI (cellAt (V.cells (cellAt (V.cs v49) 0)) 1)) (V.toI (cellAt (V.cells (cellAt (V.cs v49) 0)) 2)) (V.slN (cellAt (V.cells (cellAt (V.cs v49) 0)) 3)) (V.slC (cellAt (V.cells (cellAt (V.cs v49) 0)) 3)) (V.slN (cellAt (V.cells (cellAt (V.cs v49) 0)) 4)) (V.slC (cellAt (V.cells (cellAt (V.cs v49) 0)) 4)) (V.slN (cellAt (V.cells (cellAt (V.cs v49) 0)) 5)) (V.slC (cellAt (V.cells (cellAt (V.cs v49) 0)) 5)) (V.slN (cellAt (V.cells (cellAt (V.cs v49) 0)) 6)) (V.slC (cellAt (V.cells (cellAt (V.cs v49) 0)) 6)) (V.slN (cellAt (V.cells (cellAt (V.cs v49) 0)) 7)) (V.slC (cellAt (V.cells (cellAt (V.cs v49) 0)) 7)) (V.slN (cellAt (V.cells (cellAt (V.cs v49) 0)) 8)) (V.slC (cellAt (V.cells (cellAt (V.cs v49) 0)) 8)) c31 c32 c33 c34 c35 n36 c37 x38 n39 n40 b41 n42 x43 x44 x45 b46 x47))
   none)
  (cond (Nat.beq (((0 + ((Int.toNat (IntKind.wrap IntKind.u8 ((V.toI (cellAt c1 ((Int.toNat x3) * 2))) - (1 : Int)))) * 1)) - 1) - 1) 0)
   ((call cc N n_part_New [V.int IntKind.i64 (V.toI (cellAt c1 (((Int.toNat x3) * 2) + 1)))]).bind fun v50 =>
    cond (okRes [(true, [CK.i IntKind.u8, CK.i IntKind.i64, CK.i IntKind.i64, CK.sl 11, CK.sl 1, CK.sl 11, CK.sl 5, CK.sl 5, CK.sl 3]), (false, [CK.i IntKind.i64])] v50)
    (cond ((V.toI (cellAt (V.cells (cellAt (V.cs v50) 1)) 0)) != (0 : Int))
    (some (V.tup [V.agg [V.int IntKind.u8 (0 : Int), V.sl 0 [], V.sl 0 [], V.bool false, V.sl 0 [], V.int IntKind.u8 (0 : Int), V.int IntKind.i64 (0 : Int), V.int IntKind.i64 (0 : Int), V.bool false, V.int IntKind.u8 (0 : Int), V.sl 0 [], V.sl 0 [], V.sl 0 [], V.sl 0 []], V.int IntKind.i64 (V.toI (cellAt (V.cells (cellAt (V.cs v50) 1)) 0))]))
    (S_build_Build_28 N n0 c1 x2 x3 x4 b5 x6 x7 x8 b9 x10 n11 c12 n13 c14 x15 n16 n17 b18 n19 x20 x21 x22 b23 x24 n25 c26 n27 c28 n29 n30 (V.toI (cellAt (V.cells (cellAt (V.cs v50) 0)) 0)) (V.toI (cellAt (V.cells (cellAt (V.cs v50) 0)) 1)) (V.toI (cellAt (V.cells (cellAt (V.cs v50) 0)) 2)) (V.slN (cellAt (V.cells (cellAt (V.cs v50) 0)) 3)) (V.slC (cellAt (V.cells (cellAt (V.cs v50) 0)) 3)) (V.slN (cellAt (V.cells (cellAt (V.cs v50) 0)) 4)) (V.slC (cellAt (V.cells (cellAt (V.cs v50) 0)) 4)) (V.slN (cellAt (V.cells (cellAt (V.cs v50) 0)) 5)) (V.slC (cellAt (V.cells (cellAt (V.cs v50) 0)) 5)) (V.slN (cellAt (V.cells (cellAt (V.cs v50) 0)) 6)) (V.slC (cellAt (V.cells (cellAt (V.cs v50) 0)) 6)) (V.slN (cellAt (V.cells (cellAt (V.cs v50) 0)) 7)) (V.slC (cellAt (V.cells (cellAt (V.cs v50) 0)) 7)) (V.slN (cellAt (V.cells (cellAt (V.cs v50) 0)) 8)) (V.slC (cellAt (V.cells (cellAt (V.cs v50) 0)) 8)) c31 c32 c33 c34 c35 n36 c37 x38 n39 n40 b41 n42 x43 x44 x45 b46 x47))
    none)
   (cond (Nat.beq ((((0 + ((Int.toNat (IntKind.wrap IntKind.u8 ((V.toI (cellAt c1 ((Int.toNat x3) * 2))) - (1 : Int)))) * 1)) - 1) - 1) - 1) 0)
    ((call cc N n_build_Build_2 [V.int IntKind.i64 (V.toI (cellAt c1 (((Int.toNat x3) * 2) + 1))), V.rop [V.int IntKind.u8 x38, V.sl n39 c31, V.sl n40 c32, V.bool b41, V.sl n42 c33, V.int IntKind.u8 x43, V.int IntKind.i64 x44, V.int IntKind.i64 x45, V.bool b46, V.int IntKind.u8 x47] 0]).bind fun v51 =>
     cond (okRes [(true, [CK.i IntKind.u8, CK.i IntKind.i64, CK.i IntKind.i64, CK.sl 11, CK.sl 1, CK.sl 11, CK.sl 5, CK.sl 5, CK.sl 3]), (false, [CK.i IntKind.i64])] v51)
     (cond ((V.toI (cellAt (V.cells (cellAt (V.cs v51) 1)) 0)) != (0 : Int))
     (some (V.tup [V.agg [V.int IntKind.u8 (0 : Int), V.sl 0 [], V.sl 0 [], V.bool false, V.sl 0 [], V.int IntKind.u8 (0 : Int), V.int IntKind.i64 (0 : Int), V.int IntKind.i64 (0 : Int), V.bool false, V.int IntKind.u8 (0 : Int), V.sl 0 [], V.sl 0 [], V.sl 0 [], V.sl 0 []], V.int IntKind.i64 (V.toI (cellAt (V.cells (cellAt (V.cs v51) 1)) 0))]))
     (S_build_Build_28 N n0 c1 x2 x3 x4 b5 x6 x7 x8 b9 x10 n11 c12 n13 c14 x15 n16 n17 b18 n19 x20 x21 x22 b23 x24 n25 c26 n27 c28 n29 n30 (V.toI (cellAt (V.cells (cellAt (V.cs v51) 0)) 0)) (V.toI (cellAt (V.cells (cellAt (V.cs v51) 0)) 1)) (V.toI (cellAt (V.cells (cellAt (V.cs v51) 0)) 2)) (V.slN (cellAt (V.cells (cellAt (V.cs v51) 0)) 3)) (V.slC (cellAt (V.cells (cellAt (V.cs v51) 0)) 3)) (V.slN (cellAt (V.cells (cellAt (V.cs v51) 0)) 4)) (V.slC (cellAt (V.cells (cellAt (V.cs v51) 0)) 4)) (V.slN (cellAt (V.cells (cellAt (V.cs v51) 0)) 5)) (V.slC (cellAt (V.cells (cellAt (V.cs v51) 0)) 5)) (V.slN (cellAt (V.cells (cellAt (V.cs v51) 0)) 6)) (V.slC (cellAt (V.cells (cellAt (V.cs v51) 0)) 6)) (V.slN (cellAt (V.cells (cellAt (V.cs v51) 0)) 7)) (V.slC (cellAt (V.cells (cellAt (V.cs v51) 0)) 7)) (V.slN (cellAt (V.cells (cellAt (V.cs v51) 0)) 8)) (V.slC (cellAt (V.cells (cellAt (V.cs v51) 0)) 8)) c31 c32 c33 c34 c35 n36 c37 x38 n39 n40 b41 n42 x43 x44 x45 b46 x47))
     none)
    (cond (Nat.beq (((((0 + ((Int.toNat (IntKind.wrap IntKind.u8 ((V.toI (cellAt c1 ((Int.toNat x3) * 2))) - (1 : Int)))) * 1)) - 1) - 1) - 1) - 1) 0)
     ((call cc N n_join_New [V.int IntKind.i64 (V.toI (cellAt c1 (((Int.toNat x3) * 2) + 1)))]).bind fun v52 =>
      cond (okRes [(true, [CK.i IntKind.u8, CK.i IntKind.i64, CK.i IntKind.i64, CK.sl 11, CK.sl 1, CK.sl 11, CK.sl 5, CK.sl 5, CK.sl 3]), (false, [CK.i IntKind.i64])] v52)
      (cond ((V.toI (cellAt (V.cells (cellAt (V.cs v52) 1)) 0)) != (0 : Int))
      (some (V.tup [V.agg [V.int IntKind.u8 (0 : Int), V.sl 0 [], V.sl 0 [], V.bool false, V.sl 0 [], V.int IntKind.u8 (0 : Int), V.int IntKind.i64 (0 : Int), V.int IntKind.i64 (0 : Int), V.bool false, V.int IntKind.u8 (0 : Int), V.sl 0 [], V.sl 0 [], V.sl 0 [], V.sl 0 []], V.int IntKind.i64 (V.toI (cellAt (V.cells (cellAt (V.cs v52) 1)) 0))]))
      (S_build_Build_28 N n0 c1 x2 x3 x4 b5 x6 x7 x8 b9 x10 n11 c12 n13 c14 x15 n16 n17 b18 n19 x20 x21 x22 b23 x24 n25 c26 n27 c28 n29 n30 (V.toI (cellAt (V.cells (cellAt (V.cs v52) 0)) 0)) (V.toI (cellAt (V.cells (cellAt (V.cs v52) 0)) 1)) (V.toI (cellAt (V.cells (cellAt (V.cs v52) 0)) 2)) (V.slN (cellAt (V.cells (cellAt (V.cs v52) 0)) 3)) (V.slC (cellAt (V.cells (cellAt (V.cs v52) 0)) 3)) (V.slN (cellAt (V.cells (cellAt (V.cs v52) 0)) 4)) (V.slC (cellAt (V.cells (cellAt (V.cs v52) 0)) 4)) (V.slN (cellAt (V.cells (cellAt (V.cs v52) 0)) 5)) (V.slC (cellAt (V.cells (cellAt (V.cs v52) 0)) 5)) (V.slN (cellAt (V.cells (cellAt (V.cs v52) 0)) 6)) (V.slC (cellAt (V.cells (cellAt (V.cs v52) 0)) 6)) (V.slN (cellAt (V.cells (cellAt (V.cs v52) 0)) 7)) (V.slC (cellAt (V.cells (cellAt (V.cs v52) 0)) 7)) (V.slN (cellAt (V.cells (cellAt (V.cs v52) 0)) 8)) (V.slC (cellAt (V.cells (cellAt (V.cs v52) 0)) 8)) c31 c32 c33 c34 c35 n36 c37 x38 n39 n40 b41 n42 x43 x44 x45 b46 x47))
      none)
     (cond (Nat.beq ((((((0 + ((Int.toNat (IntKind.wrap IntKind.u8 ((V.toI (cellAt c1 ((Int.toNat x3) * 2))) - (1 : Int)))) * 1)) - 1) - 1) - 1) - 1) - 1) 0)
      ((call cc N n_build_Build_3 [V.int IntKind.i64 (V.toI (cellAt c1 (((Int.toNat x3) * 2) + 1)))]).bind fun v53 =>
       cond (okRes [(true, [CK.i IntKind.u8, CK.i IntKind.i64, CK.i IntKind.i64, CK.sl 11, CK.sl 1, CK.sl 11, CK.sl 5, CK.sl 5, CK.sl 3]), (false, [CK.i IntKind.i64])] v53)
       (cond ((V.toI (cellAt (V.cells (cellAt (V.cs v53) 1)) 0)) != (0 : Int))
       (some (V.tup [V.agg [V.int IntKind.u8 (0 : Int), V.sl 0 [], V.sl 0 [], V.bool false, V.sl 0 [], V.int IntKind.u8 (0 : Int), V.int IntKind.i64 (0 : Int), V.int IntKind.i64 (0 : Int), V.bool false, V.int IntKind.u8 (0 : Int), V.sl 0 [], V.sl 0 [], V.sl 0 [], V.sl 0 []], V.int IntKind.i64 (V.toI (cellAt (V.cells (cellAt (V.cs v53) 1)) 0))]))
       (S_build_Build_28 N n0 c1 x2 x3 x4 b5 x6 x7 x8 b9 x10 n11 c12 n13 c14 x15 n16 n17 b18 n19 x20 x21 x22 b23 x24 n25 c26 n27 c28 n29 n30 (V.toI (cellAt (V.cells (cellAt (V.cs v53) 0)) 0)) (V.toI (cellAt (V.cells (cellAt (V.cs v53) 0)) 1)) (V.toI (cellAt (V.cells (cellAt (V.cs v53) 0)) 2)) (V.slN (cellAt (V.cells (cellAt (V.cs v53) 0)) 3)) (V.slC (cellAt (V.cells (cellAt (V.cs v53) 0)) 3)) (V.slN (cellAt (V.cells (cellAt (V.cs v53) 0)) 4)) (V.slC (cellAt (V.cells (cellAt (V.cs v53) 0)) 4)) (V.slN (cellAt (V.cells (cellAt (V.cs v53) 0)) 5)) (V.slC (cellAt (V.cells (cellAt (V.cs v53) 0)) 5)) (V.slN (cellAt (V.cells (cellAt (V.cs v53) 0)) 6)) (V.slC (cellAt (V.cells (cellAt (V.cs v53) 0)) 6)) (V.slN (cellAt (V.cells (cellAt (V.cs v53) 0)) 7)) (V.slC (cellAt (V.cells (cellAt (V.cs v53) 0)) 7)) (V.slN (cellAt (V.cells (cellAt (V.cs v53) 0)) 8)) (V.slC (cellAt (V.cells (cellAt (V.cs v53) 0)) 8)) c31 c32 c33 c34 c35 n36 c37 x38 n39 n40 b41 n42 x43 x44 x45 b46 x47))
       none)
      (cond (Nat.beq (((((((0 + ((Int.toNat (IntKind.wrap IntKind.u8 ((V.toI (cellAt c1 ((Int.toNat x3) * 2))) - (1 : Int)))) * 1)) - 1) - 1) - 1) - 1) - 1) - 1) 0)
       ((call cc N n_build_Build_4 [V.int IntKind.i64 (V.toI (cellAt c1 (((Int.toNat x3) * 2) + 1)))]).bind fun v54 =>
       cond (okRes [(true, [CK.i IntKind.u8, CK.i IntKind.i64, CK.i IntKind.i64, CK.sl 11, CK.sl 1, CK.sl 11, CK.sl 5, CK.sl 5, CK.sl 3]), (false, [CK.i IntKind.i64])] v54)
       (cond ((V.toI (cellAt (V.cells (cellAt (V.cs v54) 1)) 0)) != (0 : Int))
       (some (V.tup [V.agg [V.int IntKind.u8 (0 : Int), V.sl 0 [], V.sl 0 [], V.bool false, V.sl 0 [], V.int IntKind.u8 (0 : Int), V.int IntKind.i64 (0 : Int), V.int IntKind.i64 (0 : Int), V.bool false, V.int IntKind.u8 (0 : Int), V.sl 0 [], V.sl 0 [], V.sl 0 [], V.sl 0 []], V.int IntKind.i64 (V.toI (cellAt (V.cells (cellAt (V.cs v54) 1)) 0))]))
       (S_build_Build_28 N n0 c1 x2 x3 x4 b5 x6 x7 x8 b9 x10 n11 c12 n13 c14 x15 n16 n17 b18 n19 x20 x21 x22 b23 x24 n25 c26 n27 c28 n29 n30 (V.toI (cellAt (V.cells (cellAt (V.cs v54) 0)) 0)) (V.toI (cellAt (V.cells (cellAt (V.cs v54) 0)) 1)) (V.toI (cellAt (V.cells (cellAt (V.cs v54) 0)) 2)) (V.slN (cellAt (V.cells (cellAt (V.cs v54) 0)) 3)) (V.slC (cellAt (V.cells (cellAt (V.cs v54) 0)) 3)) (V.slN (cellAt (V.cells (cellAt (V.cs v54) 0)) 4)) (V.slC (cellAt (V.cells (cellAt (V.cs v54) 0)) 4)) (V.slN (cellAt (V.cells (cellAt (V.cs v54) 0)) 5)) (V.slC (cellAt (V.cells (cellAt (V.cs v54) 0)) 5)) (V.slN (cellAt (V.cells (cellAt (V.cs v54) 0)) 6)) (V.slC (cellAt (V.cells (cellAt (V.cs v54) 0)) 6)) (V.slN (cellAt (V.cells (cellAt (V.cs v54) 0)) 7)) (V.slC (cellAt (V.cells (cellAt (V.cs v54) 0)) 7)) (V.slN (cellAt (V.cells (cellAt (V.cs v54) 0)) 8)) (V.slC (cellAt (V.cells (cellAt (V.cs v54) 0)) 8)) c31 c32 c33 c34 c35 n36 c37 x38 n39 n40 b41 n42 x43 x44 x45 b46 x47))
       none)
       none)))))))
 none)
 none)
 none)
 none)
 none := by kernel_rfl
theorem S_build_Build_30_eq (N : Nat) (x0 : Int) (b1 : Bool) (x2 : Int) (x3 : Int) (x4 : Int) (b5 : Bool) (x6 : Int) (n7 : Nat) (c8 : List V) (n9 : Nat) (c10 : List V) (x11 : Int) (n12 : Nat) (n13 : Nat) (b14 : Bool) (n15 : Nat) (x16 : Int) (x17 : Int) (x18 : Int) (b19 : Bool) (x20 : Int) (n21 : Nat) (c22 : List V) (n23 : Nat) (c24 : List V) (n25 : Nat) (n26 : Nat) (c27 : List V) (c28 : List V) (c29 : List V) (c30 : List V) (c31 : List V) : S_build_Build_30 (N + 1) x0 b1 x2 x3 x4 b5 x6 n7 c8 n9 c10 x11 n12 n13 b14 n15 x16 x17 x18 b19 x20 n21 c22 n23 c24 n25 n26 c27 c28 c29 c30 c31 =
 S_build_Build_31 N n9 c10 ((n9 : Nat) : Int) (0 : Int) x0 b1 x2 x3 x4 b5 x6 x11 n12 n13 b14 n15 x16 x17 x18 b19 x20 n21 c22 n23 c24 n25 n26 c27 c28 c29 c30 c31 := by kernel_rfl
theorem S_build_Build_28_eq (N : Nat) (n0 : Nat) (c1 : List V) (x2 : Int) (x3 : Int) (x4 : Int) (b5 : Bool) (x6 : Int) (x7 : Int) (x8 : Int) (b9 : Bool) (x10 : Int) (n11 : Nat) (c12 : List V) (n13 : Nat) (c14 : List V) (x15 : Int) (n16 : Nat) (n17 : Nat) (b18 : Bool) (n19 : Nat) (x20 : Int) (x21 : Int) (x22 : Int) (b23 : Bool) (x24 : Int) (n25 : Nat) (c26 : List V) (n27 : Nat) (c28 : List V) (n29 : Nat) (n30 : Nat) (x31 : Int) (x32 : Int) (x33 : Int) (n34 : Nat) (c35 : List V) (n36 : Nat) (c37 : List V) (n38 : Nat) (c39 : List V) (n40 : Nat) (c41 : List V) (n42 : Nat) (c43 : List V) (n44 : Nat) (c45 : List V) (c46 : List V) (c47 : List V) (c48 : List V) (c49 : List V) (c50 : List V) (n51 : Nat) (c52 : List V) (x53 : Int) (n54 : Nat) (n55 : Nat) (b56 : Bool) (n57 : Nat) (x58 : Int) (x59 : Int) (x60 : Int) (b61 : Bool) (x62 : Int) : S_build_Build_28 (N + 1) n0 c1 x2 x3 x4 b5 x6 x7 x8 b9 x10 n11 c12 n13 c14 x15 n16 n17 b18 n19 x20 x21 x22 b23 x24 n25 c26 n27 c28 n29 n30 x31 x32 x33 n34 c35 n36 c37 n38 c39 n40 c41 n42 c43 n44 c45 c46 c47 c48 c49 c50 n51 c52 x53 n54 n55 b56 n57 x58 x59 x60 b61 x62 =
 cond (decide ((n29 + 1) ≤ bound))
 (S_build_Build_29 N n0 c1 x2 x3 x4 b5 x6 x7 x8 b9 x10 n11 c12 n13 c14 x15 n16 n17 b18 n19 x20 x21 x22 b23 x24 n25 c26 n27 c28 (n29 + 1) n30 c46 c47 c48 (c49 ++ [V.int IntKind.u8 x31, V.int IntKind.i64 x32, V.int IntKind.i64 x33, V.sl n34 c35, V.sl n36 c37, V.sl n38 c39, V.sl n40 c41, V.sl n42 c43, V.sl n44 c45]) c50 n51 c52 x53 n54 n55 b56 n57 x58 x59 x60 b61 x62)
 none := by kernel_rfl
theorem S_build_Build_31_eq (N : Nat) (n0 : Nat) (c1 : List V) (x2 : Int) (x3 : Int) (x4 : Int) (b5 : Bool) (x6 : Int) (x7 : Int) (x8 : Int) (b9 : Bool) (x10 : Int) (x11 : Int) (n12 : Nat) (n13 : Nat) (b14 : Bool) (n15 : Nat) (x16 : Int) (x17 : Int) (x18 : Int) (b19 : Bool) (x20 : Int) (n21 : Nat) (c22 : List V) (n23 : Nat) (c24 : List V) (n25 : Nat) (n26 : Nat) (c27 : List V) (c28 : List V) (c29 : List V) (c30 : List V) (c31 : List V) : S_build_Build_31 (N + 1) n0 c1 x2 x3 x4 b5 x6 x7 x8 b9 x10 x11 n12 n13 b14 n15 x16 x17 x18 b19 x20 n21 c22 n23 c24 n25 n26 c27 c28 c29 c30 c31 =
 cond (decide (x3 < x2))
 (S_build_Build_32 N n0 c1 x2 x3 x4 b5 x6 x7 x8 b9 x10 x11 n12 n13 b14 n15 x16 x17 x18 b19 x20 n21 c22 n23 c24 n25 n26 c27 c28 c29 c30 c31)
 (S_build_Build_38 N x4 b5 x6 x7 x8 b9 x10 x11 n12 n13 b14 n15 x16 x17 x18 b19 x20 n21 c22 n23 c24 n25 n26 c27 c28 c29 c30 c31) := by kernel_rfl
theorem S_build_Build_29_eq (N : Nat) (n0 : Nat) (c1 : List V) (x2 : Int) (x3 : Int) (x4 : Int) (b5 : Bool) (x6 : Int) (x7 : Int) (x8 : Int) (b9 : Bool) (x10 : Int) (n11 : Nat) (c12 : List V) (n13 : Nat) (c14 : List V) (x15 : Int) (n16 : Nat) (n17 : Nat) (b18 : Bool) (n19 : Nat) (x20 : Int) (x21 : Int) (x22 : Int) (b23 : Bool) (x24 : Int) (n25 : Nat) (c26 : List V) (n27 : Nat) (c28 : List V) (n29 : Nat) (n30 : Nat) (c31 : List V) (c32 : List V) (c33 : List V) (c34 : List V) (c35 : List V) (n36 : Nat) (c37 : List V) (x38 : Int) (n39 : Nat) (n40 : Nat) (b41 : Bool) (n42 : Nat) (x43 : Int) (x44 : Int) (x45 : Int) (b46 : Bool) (x47 : Int) : S_build_Build_29 (N + 1) n0 c1 x2 x3 x4 b5 x6 x7 x8 b9 x10 n11 c12 n13 c14 x15 n16 n17 b18 n19 x20 x21 x22 b23 x24 n25 c26 n27 c28 n29 n30 c31 c32 c33 c34 c35 n36 c37 x38 n39 n40 b41 n42 x43 x44 x45 b46 x47 =
 S_build_Build_23 N n0 c1 x2 (IntKind.wrap IntKind.i64 (x3 + (1 : Int))) x4 b5 x6 x7 x8 b9 x10 n11 c12 n13 c14 x15 n16 n17 b18 n19 x20 x21 x22 b23 x24 n25 c26 n27 c28 n29 n30 c31 c32 c33 c34 c35 n36 c37 x38 n39 n40 b41 n42 x43 x44 x45 b46 x47 := by kernel_rfl
theorem S_build_Build_32_eq (N : Nat) (n0 : Nat) (c1 : List V) (x2 : Int) (x3 : Int) (x4 : Int) (b5 : Bool) (x6 : Int) (x7 : Int) (x8 : Int) (b9 : Bool) (x10 : Int) (x11 : Int) (n12 : Nat) (n13 : Nat) (b14 : Bool) (n15 : Nat) (x16 : Int) (x17 : Int) (x18 : Int) (b19 : Bool) (x20 : Int) (n21 : Nat) (c22 : List V) (n23 : Nat) (c24 : List V) (n25 : Nat) (n26 : Nat) (c27 : List V) (c28 : List V) (c29 : List V) (c30 : List V) (c31 : List V) : S_build_Build_32 (N + 1) n0 c1 x2 x3 x4 b5 x6 x7 x8 b9 x10 x11 n12 n13 b14 n15 x16 x17 x18 b19 x20 n21 c22 n23 c24 n25 n26 c27 c28 c29 c30 c31 =
 cond (decide ((0 : Int) ≤ x3))
 (cond (decide (x3 < ((n0 : Nat) : Int)))
 (cond (okT [CK.i IntKind.i64, CK.i IntKind.i64, CK.i IntKind.i64, CK.i IntKind.i64, CK.i IntKind.i64] c1 ((Int.toNat x3) * 5))
 ((call cc N n_channel_New [V.int IntKind.i64 (V.toI (cellAt c1 ((((((Int.toNat x3) * 5) + 1) + 1) + 1) + 1)))]).bind fun v32 =>
 cond (okRes [(true, [CK.i IntKind.i64, CK.sl 10]), (false, [CK.i IntKind.i64])] v32)
 (cond ((V.toI (cellAt (V.cells (cellAt (V.cs v32) 1)) 0)) != (0 : Int))
 (some (V.tup [V.agg [V.int IntKind.u8 (0 : Int), V.sl 0 [], V.sl 0 [], V.bool false, V.sl 0 [], V.int IntKind.u8 (0 : Int), V.int IntKind.i64 (0 : Int), V.int IntKind.i64 (0 : Int), V.bool false, V.int IntKind.u8 (0 : Int), V.sl 0 [], V.sl 0 [], V.sl 0 [], V.sl 0 []], V.int IntKind.i64 (V.toI (cellAt (V.cells (cellAt (V.cs v32) 1)) 0))]))
 (S_build_Build_36 N n0 c1 x2 x3 x4 b5 x6 x7 x8 b9 x10 x11 n12 n13 b14 n15 x16 x17 x18 b19 x20 n21 c22 n23 c24 n25 n26 (V.toI (cellAt (V.cells (cellAt (V.cs v32) 0)) 0)) (V.slN (cellAt (V.cells (cellAt (V.cs v32) 0)) 1)) (V.slC (cellAt (V.cells (cellAt (V.cs v32) 0)) 1)) c27 c28 c29 c30 c31))
 none)
 none)
 none)
 none := by kernel_rfl
theorem S_build_Build_38_eq (N : Nat) (x0 : Int) (b1 : Bool) (x2 : Int) (x3 : Int) (x4 : Int) (b5 : Bool) (x6 : Int) (x7 : Int) (n8 : Nat) (n9 : Nat) (b10 : Bool) (n11 : Nat) (x12 : Int) (x13 : Int) (x14 : Int) (b15 : Bool) (x16 : Int) (n17 : Nat) (c18 : List V) (n19 : Nat) (c20 : List V) (n21 : Nat) (n22 : Nat) (c23 : List V) (c24 : List V) (c25 : List V) (c26 : List V) (c27 : List V) : S_build_Build_38 (N + 1) x0 b1 x2 x3 x4 b5 x6 x7 n8 n9 b10 n11 x12 x13 x14 b15 x16 n17 c18 n19 c20 n21 n22 c23 c24 c25 c26 c27 =
 some (V.tup [V.agg [V.int IntKind.u8 x7, V.sl n8 c23, V.sl n9 c24, V.bool b10, V.sl n11 c25, V.int IntKind.u8 x12, V.int IntKind.i64 x13, V.int IntKind.i64 x14, V.bool b15, V.int IntKind.u8 x16, V.sl n17 c18, V.sl n19 c20, V.sl n21 c26, V.sl n22 c27], V.int IntKind.i64 (0 : Int)]) := by kernel_rfl
theorem S_build_Build_36_eq (N : Nat) (n0 : Nat) (c1 : List V) (x2 : Int) (x3 : Int) (x4 : Int) (b5 : Bool) (x6 : Int) (x7 : Int) (x8 : Int) (b9 : Bool) (x10 : Int) (x11 : Int) (n12 : Nat) (n13 : Nat) (b14 : Bool) (n15 : Nat) (x16 : Int) (x17 : Int) (x18 : Int) (b19 : Bool) (x20 : Int) (n21 : Nat) (c22 : List V) (n23 : Nat) (c24 : List V) (n25 : Nat) (n26 : Nat) (x27 : Int) (n28 : Nat) (c29 : List V) (c30 : List V) (c31 : List V) (c32 : List V) (c33 : List V) (c34 : List V) : S_build_Build_36 (N + 1) n0 c1 x2 x3 x4 b5 x6 x7 x8 b9 x10 x11 n12 n13 b14 n15 x16 x17 x18 b19 x20 n21 c22 n23 c24 n25 n26 x27 n28 c29 c30 c31 c32 c33 c34 =
 cond (decide ((n26 + 1) ≤ bound))
 (S_build_Build_37 N n0 c1 x2 x3 x4 b5 x6 x7 x8 b9 x10 x11 n12 n13 b14 n15 x16 x17 x18 b19 x20 n21 c22 n23 c24 n25 (n26 + 1) c30 c31 c32 c33 (c34 ++ [V.int IntKind.i64 x27, V.sl n28 c29]))
 none := by kernel_rfl
theorem S_build_Build_37_eq (N : Nat) (n0 : Nat) (c1 : List V) (x2 : Int) (x3 : Int) (x4 : Int) (b5 : Bool) (x6 : Int) (x7 : Int) (x8 : Int) (b9 : Bool) (x10 : Int) (x11 : Int) (n12 : Nat) (n13 : Nat) (b14 : Bool) (n15 : Nat) (x16 : Int) (x17 : Int) (x18 : Int) (b19 : Bool) (x20 : Int) (n21 : Nat) (c22 : List V) (n23 : Nat) (c24 : List V) (n25 : Nat) (n26 : Nat) (c27 : List V) (c28 : List V) (c29 : List V) (c30 : List V) (c31 : List V) : S_build_Build_37 (N + 1) n0 c1 x2 x3 x4 b5 x6 x7 x8 b9 x10 x11 n12 n13 b14 n15 x16 x17 x18 b19 x20 n21 c22 n23 c24 n25 n26 c27 c28 c29 c30 c31 =
 S_build_Build_31 N n0 c1 x2 (IntKind.wrap IntKind.i64 (x3 + (1 : Int))) x4 b5 x6 x7 x8 b9 x10 x11 n12 n13 b14 n15 x16 x17 x18 b19 x20 n21 c22 n23 c24 n25 n26 c27 c28 c29 c30 c31 := by kernel_rfl


theorem F_ref36_Build (N : Nat) (x0 : Int) (n1 : Nat) (c2 : List V) (n3 : Nat) (c4 : List V) (b5 : Bool) (n6 : Nat) (c7 : List V) (x8 : Int) (x9 : Int) (x10 : Int) (b11 : Bool) (x12 : Int) (n13 : Nat) (c14 : List V) (x15 : Int) (x16 : Int) : call cc (N + 1) n_ref36_Build [V.agg [V.int IntKind.u8 x0, V.sl n1 c2, V.sl n3 c4, V.bool b5, V.sl n6 c7, V.int IntKind.u8 x8, V.int IntKind.i64 x9, V.int IntKind.i64 x10, V.bool b11, V.int IntKind.u8 x12], V.sl n13 c14, V.int IntKind.i64 x15, V.int IntKind.i64 x16] =
 (call cc N n_ref36_Asked [V.agg [V.int IntKind.u8 x0, V.sl n1 c2, V.sl n3 c4, V.bool b5, V.sl n6 c7, V.int IntKind.u8 x8, V.int IntKind.i64 x9, V.int IntKind.i64 x10, V.bool b11, V.int IntKind.u8 x12], V.sl n13 c14, V.int IntKind.i64 x15, V.int IntKind.i64 x16]).bind fun v17 =>
 cond (okRes [(false, [CK.i IntKind.i64])] v17)
 (cond ((V.toI (cellAt (V.cells v17) 0)) != (0 : Int))
 (some (V.tup [V.agg [V.int IntKind.u8 (0 : Int), V.sl 0 [], V.sl 0 [], V.bool false, V.sl 0 [], V.int IntKind.u8 (0 : Int), V.int IntKind.i64 (0 : Int), V.int IntKind.i64 (0 : Int), V.bool false, V.int IntKind.u8 (0 : Int), V.sl 0 [], V.sl 0 [], V.sl 0 [], V.sl 0 []], V.int IntKind.i64 (V.toI (cellAt (V.cells v17) 0))]))
 ((call cc N n_ref36_Made [V.agg [V.int IntKind.u8 x0, V.sl n1 c2, V.sl n3 c4, V.bool b5, V.sl n6 c7, V.int IntKind.u8 x8, V.int IntKind.i64 x9, V.int IntKind.i64 x10, V.bool b11, V.int IntKind.u8 x12], V.sl n13 c14, V.int IntKind.i64 x15, V.int IntKind.i64 x16]).bind fun v18 =>
  cond (okRes [(true, [CK.i IntKind.u8, CK.sl 5, CK.sl 1, CK.b, CK.sl 5, CK.i IntKind.u8, CK.i IntKind.i64, CK.i IntKind.i64, CK.b, CK.i IntKind.u8, CK.sl 2, CK.sl 5, CK.sl 9, CK.sl 2])] v18)
  (some (V.tup [V.agg [V.int IntKind.u8 (V.toI (cellAt (V.cells v18) 0)), V.sl (V.slN (cellAt (V.cells v18) 1)) (V.slC (cellAt (V.cells v18) 1)), V.sl (V.slN (cellAt (V.cells v18) 2)) (V.slC (cellAt (V.cells v18) 2)), V.bool (V.toB (cellAt (V.cells v18) 3)), V.sl (V.slN (cellAt (V.cells v18) 4)) (V.slC (cellAt (V.cells v18) 4)), V.int IntKind.u8 (V.toI (cellAt (V.cells v18) 5)), V.int IntKind.i64 (V.toI (cellAt (V.cells v18) 6)), V.int IntKind.i64 (V.toI (cellAt (V.cells v18) 7)), V.bool (V.toB (cellAt (V.cells v18) 8)), V.int IntKind.u8 (V.toI (cellAt (V.cells v18) 9)), V.sl (V.slN (cellAt (V.cells v18) 10)) (V.slC (cellAt (V.cells v18) 10)), V.sl (V.slN (cellAt (V.cells v18) 11)) (V.slC (cellAt (V.cells v18) 11)), V.sl (V.slN (cellAt (V.cells v18) 12)) (V.slC (cellAt (V.cells v18) 12)), V.sl (V.slN (cellAt (V.cells v18) 13)) (V.slC (cellAt (V.cells v18) 13))], V.int IntKind.i64 (0 : Int)]))
  none))
 none := by kernel_rfl


theorem F_ref36_Same (N : Nat) (x0 : Int) (n1 : Nat) (c2 : List V) (n3 : Nat) (c4 : List V) (b5 : Bool) (n6 : Nat) (c7 : List V) (x8 : Int) (x9 : Int) (x10 : Int) (b11 : Bool) (x12 : Int) (n13 : Nat) (c14 : List V) (n15 : Nat) (c16 : List V) (n17 : Nat) (c18 : List V) (n19 : Nat) (c20 : List V) (x21 : Int) (n22 : Nat) (c23 : List V) (n24 : Nat) (c25 : List V) (b26 : Bool) (n27 : Nat) (c28 : List V) (x29 : Int) (x30 : Int) (x31 : Int) (b32 : Bool) (x33 : Int) (n34 : Nat) (c35 : List V) (n36 : Nat) (c37 : List V) (n38 : Nat) (c39 : List V) (n40 : Nat) (c41 : List V) : call cc (N + 1) n_ref36_Same [V.agg [V.int IntKind.u8 x0, V.sl n1 c2, V.sl n3 c4, V.bool b5, V.sl n6 c7, V.int IntKind.u8 x8, V.int IntKind.i64 x9, V.int IntKind.i64 x10, V.bool b11, V.int IntKind.u8 x12, V.sl n13 c14, V.sl n15 c16, V.sl n17 c18, V.sl n19 c20], V.agg [V.int IntKind.u8 x21, V.sl n22 c23, V.sl n24 c25, V.bool b26, V.sl n27 c28, V.int IntKind.u8 x29, V.int IntKind.i64 x30, V.int IntKind.i64 x31, V.bool b32, V.int IntKind.u8 x33, V.sl n34 c35, V.sl n36 c37, V.sl n38 c39, V.sl n40 c41]] =
 (call cc N n_ref08_Alike [V.agg [V.int IntKind.u8 x0, V.sl n1 c2, V.sl n3 c4, V.bool b5, V.sl n6 c7, V.int IntKind.u8 x8, V.int IntKind.i64 x9, V.int IntKind.i64 x10, V.bool b11, V.int IntKind.u8 x12], V.agg [V.int IntKind.u8 x21, V.sl n22 c23, V.sl n24 c25, V.bool b26, V.sl n27 c28, V.int IntKind.u8 x29, V.int IntKind.i64 x30, V.int IntKind.i64 x31, V.bool b32, V.int IntKind.u8 x33]]).bind fun v42 =>
 cond (okRes [(false, [CK.b])] v42)
 (cond (V.toB (cellAt (V.cells v42) 0))
 ((call cc N n_ref24_Same [V.agg [V.sl n13 c14, V.sl n15 c16], V.agg [V.sl n34 c35, V.sl n36 c37]]).bind fun v43 =>
  cond (okRes [(false, [CK.b])] v43)
  (cond (V.toB (cellAt (V.cells v43) 0))
  ((call cc N n_ref35_Same [V.agg [V.int IntKind.u8 x0, V.sl n1 c2, V.sl n3 c4, V.bool b5, V.sl n6 c7, V.int IntKind.u8 x8, V.int IntKind.i64 x9, V.int IntKind.i64 x10, V.bool b11, V.int IntKind.u8 x12, V.sl n13 c14, V.sl n15 c16, V.sl n17 c18, V.sl n19 c20], V.agg [V.int IntKind.u8 x21, V.sl n22 c23, V.sl n24 c25, V.bool b26, V.sl n27 c28, V.int IntKind.u8 x29, V.int IntKind.i64 x30, V.int IntKind.i64 x31, V.bool b32, V.int IntKind.u8 x33, V.sl n34 c35, V.sl n36 c37, V.sl n38 c39, V.sl n40 c41]]).bind fun v44 =>
   cond (okRes [(false, [CK.b])] v44)
   (cond (V.toB (cellAt (V.cells v44) 0))
   (some (V.bool true))
   (some (V.bool false)))
   none)
  (some (V.bool false)))
  none)
 (some (V.bool false)))
 none := by kernel_rfl


theorem F_ref08_Great (N : Nat) (x0 : Int) (n1 : Nat) (c2 : List V) (n3 : Nat) (c4 : List V) (b5 : Bool) (n6 : Nat) (c7 : List V) (x8 : Int) (x9 : Int) (x10 : Int) (b11 : Bool) (x12 : Int) : call cc (N + 1) n_ref08_Great [V.agg [V.int IntKind.u8 x0, V.sl n1 c2, V.sl n3 c4, V.bool b5, V.sl n6 c7, V.int IntKind.u8 x8, V.int IntKind.i64 x9, V.int IntKind.i64 x10, V.bool b11, V.int IntKind.u8 x12]] =
 (call cc N n_ref04_Great [V.sl n1 c2]).bind fun v13 =>
 cond (okRes [(false, [CK.b])] v13)
 (cond (V.toB (cellAt (V.cells v13) 0))
 (some (V.bool true))
 ((call cc N n_ref04_Great [V.sl n6 c7]).bind fun v14 =>
  cond (okRes [(false, [CK.b])] v14)
  (cond (V.toB (cellAt (V.cells v14) 0))
  (some (V.bool true))
  (cond (decide (((n3 : Nat) : Int) > (10 : Int)))
   (some (V.bool true))
   (some (V.bool false))))
  none))
 none := by kernel_rfl


theorem F_checks_Check (N : Nat) (x0 : Int) (n1 : Nat) (c2 : List V) (n3 : Nat) (c4 : List V) (b5 : Bool) (n6 : Nat) (c7 : List V) (x8 : Int) (x9 : Int) (x10 : Int) (b11 : Bool) (x12 : Int) : call cc (N + 1) n_checks_Check [V.agg [V.int IntKind.u8 x0, V.sl n1 c2, V.sl n3 c4, V.bool b5, V.sl n6 c7, V.int IntKind.u8 x8, V.int IntKind.i64 x9, V.int IntKind.i64 x10, V.bool b11, V.int IntKind.u8 x12]] =
 (call cc N n_clauses_Check [V.agg [V.int IntKind.u8 x0, V.sl n1 c2, V.sl n3 c4, V.bool b5, V.sl n6 c7, V.int IntKind.u8 x8, V.int IntKind.i64 x9, V.int IntKind.i64 x10, V.bool b11, V.int IntKind.u8 x12]]).bind fun v13 =>
 cond (okRes [(false, [CK.i IntKind.i64])] v13)
 (cond ((V.toI (cellAt (V.cells v13) 0)) != (0 : Int))
 (some (V.tup [V.int IntKind.i64 (0 : Int), V.int IntKind.i64 (V.toI (cellAt (V.cells v13) 0))]))
 ((call cc N n_checks_first [V.sl 2 [V.sl n1 c2, V.fn n_kinds_Number [] [], V.sl n6 c7, V.fn n_kinds_Truth [] []]]).bind fun v14 =>
  cond (okRes [(false, [CK.i IntKind.i64]), (false, [CK.i IntKind.i64])] v14)
  (some (V.tup [V.int IntKind.i64 (V.toI (cellAt (V.cells (cellAt (V.cs v14) 0)) 0)), V.int IntKind.i64 (V.toI (cellAt (V.cells (cellAt (V.cs v14) 1)) 0))]))
  none))
 none := by kernel_rfl


noncomputable def S_late_Check_4 (N : Nat) (n0 : Nat) (c1 : List V) (x2 : Int) (x3 : Int) : Option V := runAt cc N n_late_Check 4 (envOf 55 [(10, V.sl n0 c1), (11, V.int IntKind.i64 x2), (12, V.int IntKind.i64 x3)]) [] [] 0
theorem F_late_Check (N : Nat) (n0 : Nat) (c1 : List V) : call cc (N + 1) n_late_Check [V.sl n0 c1] =
 cond (decide (((n0 : Nat) : Int) > (60 : Int)))
 (some (V.int IntKind.i64 (4 : Int)))
 (S_late_Check_4 N n0 c1 ((n0 : Nat) : Int) (0 : Int)) := by kernel_rfl
theorem S_late_Check_4_eq (N : Nat) (n0 : Nat) (c1 : List V) (x2 : Int) (x3 : Int) : S_late_Check_4 (N + 1) n0 c1 x2 x3 =
 cond (decide (x3 < x2))
 (cond (decide ((0 : Int) ≤ x3))
  (cond (decide (x3 < ((n0 : Nat) : Int)))
  (cond (okT [CK.b, CK.i IntKind.i64, CK.i IntKind.i64, CK.i IntKind.i64, CK.i IntKind.i64] c1 ((Int.toNat x3) * 5))
  (cond (((V.toI (cellAt c1 ((((Int.toNat x3) * 5) + 1) + 1))) == (0 : Int)) && (((V.toI (cellAt c1 (((((Int.toNat x3) * 5) + 1) + 1) + 1))) == (0 : Int)) && (((V.toI (cellAt c1 ((((((Int.toNat x3) * 5) + 1) + 1) + 1) + 1))) == (0 : Int)) && true)))
  ((call cc N n_late_time [V.int IntKind.i64 (V.toI (cellAt c1 (((Int.toNat x3) * 5) + 1)))]).bind fun v4 =>
   cond (okRes [(false, [CK.b])] v4)
   (cond (V.toB (cellAt (V.cells v4) 0))
   (cond ((V.toI (cellAt c1 (((Int.toNat x3) * 5) + 1))) == (0 : Int))
    ((call cc N n_late_time [V.int IntKind.i64 (V.toI (cellAt c1 (((((Int.toNat x3) * 5) + 1) + 1) + 1)))]).bind fun v5 =>
     cond (okRes [(false, [CK.b])] v5)
     (cond (V.toB (cellAt (V.cells v5) 0))
     (cond (V.toB (cellAt c1 ((Int.toNat x3) * 5)))
      (cond (V.toB (cellAt c1 ((Int.toNat x3) * 5)))
       (S_late_Check_4 N n0 c1 x2 (IntKind.wrap IntKind.i64 (x3 + (1 : Int))))
       (S_late_Check_4 N n0 c1 x2 (IntKind.wrap IntKind.i64 (x3 + (1 : Int)))))
      (cond (V.toB (cellAt c1 ((Int.toNat x3) * 5)))
       (S_late_Check_4 N n0 c1 x2 (IntKind.wrap IntKind.i64 (x3 + (1 : Int))))
       (S_late_Check_4 N n0 c1 x2 (IntKind.wrap IntKind.i64 (x3 + (1 : Int))))))
     (cond (V.toB (cellAt c1 ((Int.toNat x3) * 5)))
      (cond (V.toB (cellAt c1 ((Int.toNat x3) * 5)))
       (S_late_Check_4 N n0 c1 x2 (IntKind.wrap IntKind.i64 (x3 + (1 : Int))))
       (some (V.int IntKind.i64 (8 : Int))))
      (cond (V.toB (cellAt c1 ((Int.toNat x3) * 5)))
       (S_late_Check_4 N n0 c1 x2 (IntKind.wrap IntKind.i64 (x3 + (1 : Int))))
       (some (V.int IntKind.i64 (8 : Int))))))
     none)
    (cond (V.toB (cellAt c1 ((Int.toNat x3) * 5)))
     (cond (V.toB (cellAt c1 ((Int.toNat x3) * 5)))
      (S_late_Check_4 N n0 c1 x2 (IntKind.wrap IntKind.i64 (x3 + (1 : Int))))
      (some (V.int IntKind.i64 (8 : Int))))
     (cond (V.toB (cellAt c1 ((Int.toNat x3) * 5)))
      (S_late_Check_4 N n0 c1 x2 (IntKind.wrap IntKind.i64 (x3 + (1 : Int))))
      (some (V.int IntKind.i64 (8 : Int))))))
   (cond ((V.toI (cellAt c1 (((Int.toNat x3) * 5) + 1))) == (9223372036854775807 : Int))
    (cond ((V.toI (cellAt c1 (((Int.toNat x3) * 5) + 1))) == (0 : Int))
     ((call cc N n_late_time [V.int IntKind.i64 (V.toI (cellAt c1 (((((Int.toNat x3) * 5) + 1) + 1) + 1)))]).bind fun v6 =>
      cond (okRes [(false, [CK.b])] v6)
      (cond (V.toB (cellAt (V.cells v6) 0))
      (cond (V.toB (cellAt c1 ((Int.toNat x3) * 5)))
       (cond (V.toB (cellAt c1 ((Int.toNat x3) * 5)))
        (S_late_Check_4 N n0 c1 x2 (IntKind.wrap IntKind.i64 (x3 + (1 : Int))))
        (S_late_Check_4 N n0 c1 x2 (IntKind.wrap IntKind.i64 (x3 + (1 : Int)))))
       (cond (V.toB (cellAt c1 ((Int.toNat x3) * 5)))
        (S_late_Check_4 N n0 c1 x2 (IntKind.wrap IntKind.i64 (x3 + (1 : Int))))
        (S_late_Check_4 N n0 c1 x2 (IntKind.wrap IntKind.i64 (x3 + (1 : Int))))))
      (cond (V.toB (cellAt c1 ((Int.toNat x3) * 5)))
       (cond (V.toB (cellAt c1 ((Int.toNat x3) * 5)))
        (S_late_Check_4 N n0 c1 x2 (IntKind.wrap IntKind.i64 (x3 + (1 : Int))))
        (some (V.int IntKind.i64 (8 : Int))))
       (cond (V.toB (cellAt c1 ((Int.toNat x3) * 5)))
        (S_late_Check_4 N n0 c1 x2 (IntKind.wrap IntKind.i64 (x3 + (1 : Int))))
        (some (V.int IntKind.i64 (8 : Int))))))
      none)
     (cond (V.toB (cellAt c1 ((Int.toNat x3) * 5)))
      (cond (V.toB (cellAt c1 ((Int.toNat x3) * 5)))
       (S_late_Check_4 N n0 c1 x2 (IntKind.wrap IntKind.i64 (x3 + (1 : Int))))
       (some (V.int IntKind.i64 (8 : Int))))
      (cond (V.toB (cellAt c1 ((Int.toNat x3) * 5)))
       (S_late_Check_4 N n0 c1 x2 (IntKind.wrap IntKind.i64 (x3 + (1 : Int))))
       (some (V.int IntKind.i64 (8 : Int))))))
    (cond ((V.toI (cellAt c1 (((Int.toNat x3) * 5) + 1))) == (0 : Int))
     ((call cc N n_late_time [V.int IntKind.i64 (V.toI (cellAt c1 (((((Int.toNat x3) * 5) + 1) + 1) + 1)))]).bind fun v7 =>
      cond (okRes [(false, [CK.b])] v7)
      (cond (V.toB (cellAt (V.cells v7) 0))
      (cond (V.toB (cellAt c1 ((Int.toNat x3) * 5)))
       (some (V.int IntKind.i64 (8 : Int)))
       (cond (V.toB (cellAt c1 ((Int.toNat x3) * 5)))
        (S_late_Check_4 N n0 c1 x2 (IntKind.wrap IntKind.i64 (x3 + (1 : Int))))
        (S_late_Check_4 N n0 c1 x2 (IntKind.wrap IntKind.i64 (x3 + (1 : Int))))))
      (cond (V.toB (cellAt c1 ((Int.toNat x3) * 5)))
       (some (V.int IntKind.i64 (8 : Int)))
       (cond (V.toB (cellAt c1 ((Int.toNat x3) * 5)))
        (S_late_Check_4 N n0 c1 x2 (IntKind.wrap IntKind.i64 (x3 + (1 : Int))))
        (some (V.int IntKind.i64 (8 : Int))))))
      none)
     (cond (V.toB (cellAt c1 ((Int.toNat x3) * 5)))
      (some (V.int IntKind.i64 (8 : Int)))
      (cond (V.toB (cellAt c1 ((Int.toNat x3) * 5)))
       (S_late_Check_4 N n0 c1 x2 (IntKind.wrap IntKind.i64 (x3 + (1 : Int))))
       (some (V.int IntKind.i64 (8 : Int))))))))
   none)
  (cond ((V.toI (cellAt c1 (((Int.toNat x3) * 5) + 1))) == (0 : Int))
   ((call cc N n_late_time [V.int IntKind.i64 (V.toI (cellAt c1 (((((Int.toNat x3) * 5) + 1) + 1) + 1)))]).bind fun v8 =>
    cond (okRes [(false, [CK.b])] v8)
    (cond (V.toB (cellAt (V.cells v8) 0))
    (cond (V.toB (cellAt c1 ((Int.toNat x3) * 5)))
     (some (V.int IntKind.i64 (8 : Int)))
     (cond (V.toB (cellAt c1 ((Int.toNat x3) * 5)))
      (S_late_Check_4 N n0 c1 x2 (IntKind.wrap IntKind.i64 (x3 + (1 : Int))))
      (S_late_Check_4 N n0 c1 x2 (IntKind.wrap IntKind.i64 (x3 + (1 : Int))))))
    (cond (V.toB (cellAt c1 ((Int.toNat x3) * 5)))
     (some (V.int IntKind.i64 (8 : Int)))
     (cond (V.toB (cellAt c1 ((Int.toNat x3) * 5)))
      (S_late_Check_4 N n0 c1 x2 (IntKind.wrap IntKind.i64 (x3 + (1 : Int))))
      (some (V.int IntKind.i64 (8 : Int))))))
    none)
   (cond (V.toB (cellAt c1 ((Int.toNat x3) * 5)))
    (some (V.int IntKind.i64 (8 : Int)))
    (cond (V.toB (cellAt c1 ((Int.toNat x3) * 5)))
     (S_late_Check_4 N n0 c1 x2 (IntKind.wrap IntKind.i64 (x3 + (1 : Int))))
     (some (V.int IntKind.i64 (8 : Int)))))))
  none)
  none)
  none)
 (some (V.int IntKind.i64 (0 : Int))) := by kernel_rfl


theorem F_plan_Of (N : Nat) (x0 : Int) (n1 : Nat) (c2 : List V) (n3 : Nat) (c4 : List V) (b5 : Bool) (n6 : Nat) (c7 : List V) (x8 : Int) (x9 : Int) (x10 : Int) (b11 : Bool) (x12 : Int) : call cc (N + 1) n_plan_Of [V.agg [V.int IntKind.u8 x0, V.sl n1 c2, V.sl n3 c4, V.bool b5, V.sl n6 c7, V.int IntKind.u8 x8, V.int IntKind.i64 x9, V.int IntKind.i64 x10, V.bool b11, V.int IntKind.u8 x12]] =
 (call cc N n_checks_Check [V.agg [V.int IntKind.u8 x0, V.sl n1 c2, V.sl n3 c4, V.bool b5, V.sl n6 c7, V.int IntKind.u8 x8, V.int IntKind.i64 x9, V.int IntKind.i64 x10, V.bool b11, V.int IntKind.u8 x12]]).bind fun v13 =>
 cond (okRes [(false, [CK.i IntKind.i64]), (false, [CK.i IntKind.i64])] v13)
 (cond ((V.toI (cellAt (V.cells (cellAt (V.cs v13) 1)) 0)) != (0 : Int))
 (some (V.tup [V.agg [V.sl 0 [], V.int IntKind.u8 (0 : Int), V.sl 0 [], V.sl 0 [], V.bool false, V.sl 0 [], V.int IntKind.u8 (0 : Int), V.int IntKind.i64 (0 : Int), V.int IntKind.i64 (0 : Int), V.bool false, V.int IntKind.u8 (0 : Int)], V.int IntKind.i64 (V.toI (cellAt (V.cells (cellAt (V.cs v13) 1)) 0))]))
 ((call cc N n_slices_Clone_api_NodeN [V.sl n1 c2]).bind fun v14 =>
  cond (okRes [(false, [CK.sl 5])] v14)
  ((call cc N n_slices_Clone_int_int [V.sl n3 c4]).bind fun v15 =>
  cond (okRes [(false, [CK.sl 1])] v15)
  ((call cc N n_slices_Clone_api_NodeN [V.sl n6 c7]).bind fun v16 =>
  cond (okRes [(false, [CK.sl 5])] v16)
  ((call cc N n_plan_steps [V.agg [V.int IntKind.u8 x0, V.sl (V.slN (cellAt (V.cells v14) 0)) (Blk.cells ⟨V.slC (V.sl (V.slN (cellAt (V.cells v14) 0)) (V.slC (cellAt (V.cells v14) 0))), 5, 0, false⟩), V.sl (V.slN (cellAt (V.cells v15) 0)) (Blk.cells ⟨V.slC (V.sl (V.slN (cellAt (V.cells v15) 0)) (V.slC (cellAt (V.cells v15) 0))), 1, 0, false⟩), V.bool b5, V.sl (V.slN (cellAt (V.cells v16) 0)) (Blk.cells ⟨V.slC (V.sl (V.slN (cellAt (V.cells v16) 0)) (V.slC (cellAt (V.cells v16) 0))), 5, 0, false⟩), V.int IntKind.u8 x8, V.int IntKind.i64 x9, V.int IntKind.i64 x10, V.bool b11, V.int IntKind.u8 x12]]).bind fun v17 =>
  cond (okRes [(false, [CK.sl 1])] v17)
  (some (V.tup [V.agg [V.sl (V.slN (cellAt (V.cells v17) 0)) (V.slC (cellAt (V.cells v17) 0)), V.int IntKind.u8 x0, V.sl (V.slN (cellAt (V.cells v14) 0)) (Blk.cells ⟨Blk.cells ⟨V.slC (V.sl (V.slN (cellAt (V.cells v14) 0)) (V.slC (cellAt (V.cells v14) 0))), 5, 0, false⟩, 5, 1, false⟩), V.sl (V.slN (cellAt (V.cells v15) 0)) (Blk.cells ⟨Blk.cells ⟨V.slC (V.sl (V.slN (cellAt (V.cells v15) 0)) (V.slC (cellAt (V.cells v15) 0))), 1, 0, false⟩, 1, 1, false⟩), V.bool b5, V.sl (V.slN (cellAt (V.cells v16) 0)) (Blk.cells ⟨Blk.cells ⟨V.slC (V.sl (V.slN (cellAt (V.cells v16) 0)) (V.slC (cellAt (V.cells v16) 0))), 5, 0, false⟩, 5, 1, false⟩), V.int IntKind.u8 x8, V.int IntKind.i64 x9, V.int IntKind.i64 x10, V.bool b11, V.int IntKind.u8 x12], V.int IntKind.i64 (0 : Int)]))
  none)
  none)
  none)
  none))
 none := by kernel_rfl


noncomputable def S_graph_Of_4 (N : Nat) (x0 : Int) (n1 : Nat) (c2 : List V) (x3 : Int) (n4 : Nat) (c5 : List V) (n6 : Nat) (c7 : List V) (b8 : Bool) (n9 : Nat) (c10 : List V) (x11 : Int) (x12 : Int) (x13 : Int) (b14 : Bool) (x15 : Int) (x16 : Int) : Option V := runAt cc N n_graph_Of 4 (envOf 160 [(1, V.int IntKind.i64 x0), (3, V.ptr 0 0), (5, V.ptr 1 0), (6, V.ptr 2 0)]) [⟨[V.sl n1 c2, V.int IntKind.u8 x3, V.sl n4 c5, V.sl n6 c7, V.bool b8, V.sl n9 c10, V.int IntKind.u8 x11, V.int IntKind.i64 x12, V.int IntKind.i64 x13, V.bool b14, V.int IntKind.u8 x15], 1, 0, true⟩, ⟨[V.int IntKind.i64 x16], 1, 0, true⟩, ⟨[V.nils, V.nils], 1, 0, true⟩] [] 0
noncomputable def S_graph_Of_6 (N : Nat) (x0 : Int) (n1 : Nat) (c2 : List V) (x3 : Int) (n4 : Nat) (c5 : List V) (n6 : Nat) (c7 : List V) (b8 : Bool) (n9 : Nat) (c10 : List V) (x11 : Int) (x12 : Int) (x13 : Int) (b14 : Bool) (x15 : Int) (x16 : Int) : Option V := runAt cc N n_graph_Of 6 (envOf 160 [(1, V.int IntKind.i64 x0), (3, V.ptr 0 0), (5, V.ptr 1 0), (6, V.ptr 2 0)]) [⟨[V.sl n1 c2, V.int IntKind.u8 x3, V.sl n4 c5, V.sl n6 c7, V.bool b8, V.sl n9 c10, V.int IntKind.u8 x11, V.int IntKind.i64 x12, V.int IntKind.i64 x13, V.bool b14, V.int IntKind.u8 x15], 1, 0, true⟩, ⟨[V.int IntKind.i64 x16], 1, 0, true⟩, ⟨[V.nils, V.nils], 1, 0, true⟩] [] 0
noncomputable def S_graph_Of_1_3 (N : Nat) (x0 : Int) (x1 : Int) (x2 : Int) (x3 : Int) (n4 : Nat) (c5 : List V) (x6 : Int) (n7 : Nat) (c8 : List V) (n9 : Nat) (c10 : List V) (b11 : Bool) (n12 : Nat) (c13 : List V) (x14 : Int) (x15 : Int) (x16 : Int) (b17 : Bool) (x18 : Int) (x19 : Int) (n20 : Nat) (c21 : List V) (x22 : Int) (x23 : Int) (n24 : Nat) (c25 : List V) (x26 : Int) (x27 : Int) : Option V := runAt cc N n_graph_Of_1 3 (envOf 25 [(0, V.int IntKind.u8 x0), (2, V.ptr 3 0), (6, V.int IntKind.i64 x1), (11, V.int IntKind.i64 x2), (12, V.int IntKind.i64 x3)]) [⟨[V.sl n4 c5, V.int IntKind.u8 x6, V.sl n7 c8, V.sl n9 c10, V.bool b11, V.sl n12 c13, V.int IntKind.u8 x14, V.int IntKind.i64 x15, V.int IntKind.i64 x16, V.bool b17, V.int IntKind.u8 x18], 1, 0, true⟩, ⟨[V.int IntKind.i64 x19], 1, 0, true⟩, ⟨[V.nils, V.nils], 1, 0, true⟩, ⟨[V.own 4 n20, V.nils], 1, 0, true⟩, ⟨c21, 2, 0, false⟩] [⟨n_graph_Of, (envOf 160 [(1, V.int IntKind.i64 x22), (3, V.ptr 0 0), (5, V.ptr 1 0), (6, V.ptr 2 0), (9, V.int IntKind.i64 x23), (10, V.ptr 3 0), (11, V.fn n_graph_Of_1 [] [V.ptr 3 0]), (12, V.fn n_graph_Of_2 [] [V.ptr 3 0, V.ptr 1 0]), (44, V.ptr 0 1), (45, V.ptr 0 3), (46, V.sl n24 c25), (47, V.int IntKind.i64 x26), (48, V.fn n_graph_Of_1 [] [V.ptr 3 0]), (49, V.fn n_graph_Of_2 [] [V.ptr 3 0, V.ptr 1 0]), (50, V.fn n_graph_Of_1 [] [V.ptr 3 0]), (51, V.int IntKind.i64 x27)]), Option.some 52, (opsAt cc n_graph_Of 10 3), 0⟩] 4
noncomputable def S_graph_Of_1_3_1 (N : Nat) (x0 : Int) (x1 : Int) (x2 : Int) (x3 : Int) (n4 : Nat) (c5 : List V) (x6 : Int) (n7 : Nat) (c8 : List V) (n9 : Nat) (c10 : List V) (b11 : Bool) (n12 : Nat) (c13 : List V) (x14 : Int) (x15 : Int) (x16 : Int) (b17 : Bool) (x18 : Int) (x19 : Int) (n20 : Nat) (c21 : List V) (x22 : Int) (x23 : Int) (n24 : Nat) (c25 : List V) (x26 : Int) (x27 : Int) (x28 : Int) (x29 : Int) : Option V := runAt cc N n_graph_Of_1 3 (envOf 25 [(0, V.int IntKind.u8 x0), (2, V.ptr 3 0), (6, V.int IntKind.i64 x1), (11, V.int IntKind.i64 x2), (12, V.int IntKind.i64 x3)]) [⟨[V.sl n4 c5, V.int IntKind.u8 x6, V.sl n7 c8, V.sl n9 c10, V.bool b11, V.sl n12 c13, V.int IntKind.u8 x14, V.int IntKind.i64 x15, V.int IntKind.i64 x16, V.bool b17, V.int IntKind.u8 x18], 1, 0, true⟩, ⟨[V.int IntKind.i64 x19], 1, 0, true⟩, ⟨[V.nils, V.nils], 1, 0, true⟩, ⟨[V.own 4 n20, V.nils], 1, 0, true⟩, ⟨c21, 2, 0, false⟩] [⟨n_graph_Of, (envOf 160 [(1, V.int IntKind.i64 x22), (3, V.ptr 0 0), (5, V.ptr 1 0), (6, V.ptr 2 0), (9, V.int IntKind.i64 x23), (10, V.ptr 3 0), (11, V.fn n_graph_Of_1 [] [V.ptr 3 0]), (12, V.fn n_graph_Of_2 [] [V.ptr 3 0, V.ptr 1 0]), (44, V.ptr 0 1), (45, V.ptr 0 3), (46, V.sl n24 c25), (47, V.int IntKind.i64 x26), (48, V.fn n_graph_Of_1 [] [V.ptr 3 0]), (49, V.fn n_graph_Of_2 [] [V.ptr 3 0, V.ptr 1 0]), (50, V.fn n_graph_Of_1 [] [V.ptr 3 0]), (51, V.int IntKind.i64 x27), (52, V.int IntKind.i64 x28), (53, V.fn n_graph_Of_1 [] [V.ptr 3 0]), (54, V.int IntKind.i64 x29)]), Option.some 55, (opsAt cc n_graph_Of 11 3), 0⟩] 5
noncomputable def S_graph_Of_1_3_2 (N : Nat) (x0 : Int) (x1 : Int) (x2 : Int) (x3 : Int) (n4 : Nat) (c5 : List V) (x6 : Int) (n7 : Nat) (c8 : List V) (n9 : Nat) (c10 : List V) (b11 : Bool) (n12 : Nat) (c13 : List V) (x14 : Int) (x15 : Int) (x16 : Int) (b17 : Bool) (x18 : Int) (x19 : Int) (n20 : Nat) (c21 : List V) (c22 : List V) (x23 : Int) (x24 : Int) (n25 : Nat) (c26 : List V) (x27 : Int) (x28 : Int) (x29 : Int) (x30 : Int) : Option V := runAt cc N n_graph_Of_1 3 (envOf 25 [(0, V.int IntKind.u8 x0), (2, V.ptr 3 0), (6, V.int IntKind.i64 x1), (11, V.int IntKind.i64 x2), (12, V.int IntKind.i64 x3)]) [⟨[V.sl n4 c5, V.int IntKind.u8 x6, V.sl n7 c8, V.sl n9 c10, V.bool b11, V.sl n12 c13, V.int IntKind.u8 x14, V.int IntKind.i64 x15, V.int IntKind.i64 x16, V.bool b17, V.int IntKind.u8 x18], 1, 0, true⟩, ⟨[V.int IntKind.i64 x19], 1, 0, true⟩, ⟨[V.nils, V.nils], 1, 0, true⟩, ⟨[V.own 5 n20, V.nils], 1, 0, true⟩, ⟨c21, 2, 3, false⟩, ⟨c22, 2, 0, false⟩] [⟨n_graph_Of, (envOf 160 [(1, V.int IntKind.i64 x23), (3, V.ptr 0 0), (5, V.ptr 1 0), (6, V.ptr 2 0), (9, V.int IntKind.i64 x24), (10, V.ptr 3 0), (11, V.fn n_graph_Of_1 [] [V.ptr 3 0]), (12, V.fn n_graph_Of_2 [] [V.ptr 3 0, V.ptr 1 0]), (44, V.ptr 0 1), (45, V.ptr 0 3), (46, V.sl n25 c26), (47, V.int IntKind.i64 x27), (48, V.fn n_graph_Of_1 [] [V.ptr 3 0]), (49, V.fn n_graph_Of_2 [] [V.ptr 3 0, V.ptr 1 0]), (50, V.fn n_graph_Of_1 [] [V.ptr 3 0]), (51, V.int IntKind.i64 x28), (52, V.int IntKind.i64 x29), (53, V.fn n_graph_Of_1 [] [V.ptr 3 0]), (54, V.int IntKind.i64 x30)]), Option.some 55, (opsAt cc n_graph_Of 11 3), 0⟩] 5
noncomputable def S_graph_Of_1_3_3 (N : Nat) (x0 : Int) (x1 : Int) (x2 : Int) (x3 : Int) (n4 : Nat) (c5 : List V) (x6 : Int) (n7 : Nat) (c8 : List V) (n9 : Nat) (c10 : List V) (b11 : Bool) (n12 : Nat) (c13 : List V) (x14 : Int) (x15 : Int) (x16 : Int) (b17 : Bool) (x18 : Int) (x19 : Int) (n20 : Nat) (c21 : List V) (x22 : Int) (x23 : Int) (x24 : Int) (x25 : Int) (n26 : Nat) (c27 : List V) (x28 : Int) (x29 : Int) (x30 : Int) (x31 : Int) (x32 : Int) (x33 : Int) (b34 : Bool) (x35 : Int) : Option V := runAt cc N n_graph_Of_1 3 (envOf 25 [(0, V.int IntKind.u8 x0), (2, V.ptr 3 0), (6, V.int IntKind.i64 x1), (11, V.int IntKind.i64 x2), (12, V.int IntKind.i64 x3)]) [⟨[V.sl n4 c5, V.int IntKind.u8 x6, V.sl n7 c8, V.sl n9 c10, V.bool b11, V.sl n12 c13, V.int IntKind.u8 x14, V.int IntKind.i64 x15, V.int IntKind.i64 x16, V.bool b17, V.int IntKind.u8 x18], 1, 0, true⟩, ⟨[V.int IntKind.i64 x19], 1, 0, true⟩, ⟨[V.nils, V.nils], 1, 0, true⟩, ⟨[V.own 4 n20, V.nils], 1, 0, true⟩, ⟨c21, 2, 0, false⟩] [⟨n_graph_Of, (envOf 160 [(1, V.int IntKind.i64 x22), (3, V.ptr 0 0), (5, V.ptr 1 0), (6, V.ptr 2 0), (9, V.int IntKind.i64 x23), (10, V.ptr 3 0), (11, V.fn n_graph_Of_1 [] [V.ptr 3 0]), (12, V.fn n_graph_Of_2 [] [V.ptr 3 0, V.ptr 1 0]), (13, V.int IntKind.i64 x24), (14, V.int IntKind.i64 x25), (44, V.ptr 0 1), (45, V.ptr 0 3), (46, V.sl n26 c27), (47, V.int IntKind.i64 x28), (48, V.fn n_graph_Of_1 [] [V.ptr 3 0]), (49, V.fn n_graph_Of_2 [] [V.ptr 3 0, V.ptr 1 0]), (50, V.fn n_graph_Of_1 [] [V.ptr 3 0]), (51, V.int IntKind.i64 x29), (52, V.int IntKind.i64 x30), (53, V.fn n_graph_Of_1 [] [V.ptr 3 0]), (54, V.int IntKind.i64 x31), (55, V.int IntKind.i64 x32), (56, V.int IntKind.i64 x33), (57, V.ptr 0 1), (58, V.ptr 0 9), (59, V.bool b34), (60, V.fn n_graph_Of_1 [] [V.ptr 3 0]), (61, V.int IntKind.i64 x35)]), Option.some 62, (opsAt cc n_graph_Of 14 3), 0⟩] 5
noncomputable def S_graph_Of_16 (N : Nat) (x0 : Int) (x1 : Int) (x2 : Int) (x3 : Int) (n4 : Nat) (c5 : List V) (x6 : Int) (n7 : Nat) (c8 : List V) (n9 : Nat) (c10 : List V) (b11 : Bool) (n12 : Nat) (c13 : List V) (x14 : Int) (x15 : Int) (x16 : Int) (b17 : Bool) (x18 : Int) (n19 : Nat) (n20 : Nat) (x21 : Int) (c22 : List V) (c23 : List V) : Option V := runAt cc N n_graph_Of 16 (envOf 160 [(1, V.int IntKind.i64 x0), (3, V.ptr 0 0), (6, V.ptr 1 0), (9, V.int IntKind.i64 x1), (10, V.ptr 2 0), (11, V.fn n_graph_Of_1 [] [V.ptr 2 0]), (12, V.fn n_graph_Of_2 [] [V.ptr 2 0, V.ptr 3 0]), (13, V.int IntKind.i64 x2), (14, V.int IntKind.i64 x3)]) [⟨[V.sl n4 c5, V.int IntKind.u8 x6, V.sl n7 c8, V.sl n9 c10, V.bool b11, V.sl n12 c13, V.int IntKind.u8 x14, V.int IntKind.i64 x15, V.int IntKind.i64 x16, V.bool b17, V.int IntKind.u8 x18], 1, 0, true⟩, ⟨[V.nils, V.nils], 1, 0, true⟩, ⟨[V.own 4 n19, V.own 5 n20], 1, 0, true⟩, ⟨[V.int IntKind.i64 x21], 1, 0, true⟩, ⟨c22, 2, 0, false⟩, ⟨c23, 5, 0, false⟩] [] 0
noncomputable def S_graph_Of_1_3_4 (N : Nat) (x0 : Int) (x1 : Int) (x2 : Int) (x3 : Int) (n4 : Nat) (c5 : List V) (x6 : Int) (n7 : Nat) (c8 : List V) (n9 : Nat) (c10 : List V) (b11 : Bool) (n12 : Nat) (c13 : List V) (x14 : Int) (x15 : Int) (x16 : Int) (b17 : Bool) (x18 : Int) (x19 : Int) (n20 : Nat) (c21 : List V) (c22 : List V) (x23 : Int) (x24 : Int) (x25 : Int) (x26 : Int) (n27 : Nat) (c28 : List V) (x29 : Int) (x30 : Int) (x31 : Int) (x32 : Int) (x33 : Int) (x34 : Int) (b35 : Bool) (x36 : Int) : Option V := runAt cc N n_graph_Of_1 3 (envOf 25 [(0, V.int IntKind.u8 x0), (2, V.ptr 3 0), (6, V.int IntKind.i64 x1), (11, V.int IntKind.i64 x2), (12, V.int IntKind.i64 x3)]) [⟨[V.sl n4 c5, V.int IntKind.u8 x6, V.sl n7 c8, V.sl n9 c10, V.bool b11, V.sl n12 c13, V.int IntKind.u8 x14, V.int IntKind.i64 x15, V.int IntKind.i64 x16, V.bool b17, V.int IntKind.u8 x18], 1, 0, true⟩, ⟨[V.int IntKind.i64 x19], 1, 0, true⟩, ⟨[V.nils, V.nils], 1, 0, true⟩, ⟨[V.own 5 n20, V.nils], 1, 0, true⟩, ⟨c21, 2, 3, false⟩, ⟨c22, 2, 0, false⟩] [⟨n_graph_Of, (envOf 160 [(1, V.int IntKind.i64 x23), (3, V.ptr 0 0), (5, V.ptr 1 0), (6, V.ptr 2 0), (9, V.int IntKind.i64 x24), (10, V.ptr 3 0), (11, V.fn n_graph_Of_1 [] [V.ptr 3 0]), (12, V.fn n_graph_Of_2 [] [V.ptr 3 0, V.ptr 1 0]), (13, V.int IntKind.i64 x25), (14, V.int IntKind.i64 x26), (44, V.ptr 0 1), (45, V.ptr 0 3), (46, V.sl n27 c28), (47, V.int IntKind.i64 x29), (48, V.fn n_graph_Of_1 [] [V.ptr 3 0]), (49, V.fn n_graph_Of_2 [] [V.ptr 3 0, V.ptr 1 0]), (50, V.fn n_graph_Of_1 [] [V.ptr 3 0]), (51, V.int IntKind.i64 x30), (52, V.int IntKind.i64 x31), (53, V.fn n_graph_Of_1 [] [V.ptr 3 0]), (54, V.int IntKind.i64 x32), (55, V.int IntKind.i64 x33), (56, V.int IntKind.i64 x34), (57, V.ptr 0 1), (58, V.ptr 0 9), (59, V.bool b35), (60, V.fn n_graph_Of_1 [] [V.ptr 3 0]), (61, V.int IntKind.i64 x36)]), Option.some 62, (opsAt cc n_graph_Of 14 3), 0⟩] 6
noncomputable def S_graph_Of_1_3_5 (N : Nat) (x0 : Int) (x1 : Int) (x2 : Int) (x3 : Int) (n4 : Nat) (c5 : List V) (x6 : Int) (n7 : Nat) (c8 : List V) (n9 : Nat) (c10 : List V) (b11 : Bool) (n12 : Nat) (c13 : List V) (x14 : Int) (x15 : Int) (x16 : Int) (b17 : Bool) (x18 : Int) (x19 : Int) (n20 : Nat) (c21 : List V) (c22 : List V) (x23 : Int) (x24 : Int) (x25 : Int) (x26 : Int) (n27 : Nat) (c28 : List V) (x29 : Int) (x30 : Int) (x31 : Int) (x32 : Int) (x33 : Int) (x34 : Int) (b35 : Bool) (x36 : Int) : Option V := runAt cc N n_graph_Of_1 3 (envOf 25 [(0, V.int IntKind.u8 x0), (2, V.ptr 3 0), (6, V.int IntKind.i64 x1), (11, V.int IntKind.i64 x2), (12, V.int IntKind.i64 x3)]) [⟨[V.sl n4 c5, V.int IntKind.u8 x6, V.sl n7 c8, V.sl n9 c10, V.bool b11, V.sl n12 c13, V.int IntKind.u8 x14, V.int IntKind.i64 x15, V.int IntKind.i64 x16, V.bool b17, V.int IntKind.u8 x18], 1, 0, true⟩, ⟨[V.int IntKind.i64 x19], 1, 0, true⟩, ⟨[V.nils, V.nils], 1, 0, true⟩, ⟨[V.own 5 n20, V.nils], 1, 0, true⟩, ⟨c21, 2, 3, false⟩, ⟨c22, 2, 0, false⟩] [⟨n_graph_Of, (envOf 160 [(1, V.int IntKind.i64 x23), (3, V.ptr 0 0), (5, V.ptr 1 0), (6, V.ptr 2 0), (9, V.int IntKind.i64 x24), (10, V.ptr 3 0), (11, V.fn n_graph_Of_1 [] [V.ptr 3 0]), (12, V.fn n_graph_Of_2 [] [V.ptr 3 0, V.ptr 1 0]), (13, V.int IntKind.i64 x25), (14, V.int IntKind.i64 x26), (44, V.ptr 0 1), (45, V.ptr 0 3), (46, V.sl n27 c28), (47, V.int IntKind.i64 x29), (48, V.fn n_graph_Of_1 [] [V.ptr 3 0]), (49, V.fn n_graph_Of_2 [] [V.ptr 3 0, V.ptr 1 0]), (50, V.fn n_graph_Of_1 [] [V.ptr 3 0]), (51, V.int IntKind.i64 x30), (52, V.int IntKind.i64 x31), (53, V.fn n_graph_Of_1 [] [V.ptr 3 0]), (54, V.int IntKind.i64 x32), (55, V.int IntKind.i64 x33), (56, V.int IntKind.i64 x34), (57, V.ptr 0 1), (58, V.ptr 0 9), (59, V.bool b35), (60, V.fn n_graph_Of_1 [] [V.ptr 3 0]), (61, V.int IntKind.i64 x36)]), Option.some 62, (opsAt cc n_graph_Of 14 3), 0⟩] 5
noncomputable def S_graph_Of_19 (N : Nat) (x0 : Int) (x1 : Int) (x2 : Int) (x3 : Int) (x4 : Int) (n5 : Nat) (c6 : List V) (x7 : Int) (n8 : Nat) (c9 : List V) (n10 : Nat) (c11 : List V) (b12 : Bool) (n13 : Nat) (c14 : List V) (x15 : Int) (x16 : Int) (x17 : Int) (b18 : Bool) (x19 : Int) (n20 : Nat) (n21 : Nat) (x22 : Int) (c23 : List V) (c24 : List V) : Option V := runAt cc N n_graph_Of 19 (envOf 160 [(1, V.int IntKind.i64 x0), (3, V.ptr 0 0), (6, V.ptr 1 0), (9, V.int IntKind.i64 x1), (10, V.ptr 2 0), (11, V.fn n_graph_Of_1 [] [V.ptr 2 0]), (12, V.fn n_graph_Of_2 [] [V.ptr 2 0, V.ptr 3 0]), (13, V.int IntKind.i64 x2), (14, V.int IntKind.i64 x3), (15, V.int IntKind.u8 x4)]) [⟨[V.sl n5 c6, V.int IntKind.u8 x7, V.sl n8 c9, V.sl n10 c11, V.bool b12, V.sl n13 c14, V.int IntKind.u8 x15, V.int IntKind.i64 x16, V.int IntKind.i64 x17, V.bool b18, V.int IntKind.u8 x19], 1, 0, true⟩, ⟨[V.nils, V.nils], 1, 0, true⟩, ⟨[V.own 4 n20, V.own 5 n21], 1, 0, true⟩, ⟨[V.int IntKind.i64 x22], 1, 0, true⟩, ⟨c23, 2, 0, false⟩, ⟨c24, 5, 0, false⟩] [] 0
noncomputable def S_graph_Of_1_3_6 (N : Nat) (x0 : Int) (x1 : Int) (x2 : Int) (x3 : Int) (n4 : Nat) (c5 : List V) (x6 : Int) (n7 : Nat) (c8 : List V) (n9 : Nat) (c10 : List V) (b11 : Bool) (n12 : Nat) (c13 : List V) (x14 : Int) (x15 : Int) (x16 : Int) (b17 : Bool) (x18 : Int) (x19 : Int) (n20 : Nat) (c21 : List V) (c22 : List V) (c23 : List V) (x24 : Int) (x25 : Int) (x26 : Int) (x27 : Int) (n28 : Nat) (c29 : List V) (x30 : Int) (x31 : Int) (x32 : Int) (x33 : Int) (x34 : Int) (x35 : Int) (b36 : Bool) (x37 : Int) : Option V := runAt cc N n_graph_Of_1 3 (envOf 25 [(0, V.int IntKind.u8 x0), (2, V.ptr 3 0), (6, V.int IntKind.i64 x1), (11, V.int IntKind.i64 x2), (12, V.int IntKind.i64 x3)]) [⟨[V.sl n4 c5, V.int IntKind.u8 x6, V.sl n7 c8, V.sl n9 c10, V.bool b11, V.sl n12 c13, V.int IntKind.u8 x14, V.int IntKind.i64 x15, V.int IntKind.i64 x16, V.bool b17, V.int IntKind.u8 x18], 1, 0, true⟩, ⟨[V.int IntKind.i64 x19], 1, 0, true⟩, ⟨[V.nils, V.nils], 1, 0, true⟩, ⟨[V.own 6 n20, V.nils], 1, 0, true⟩, ⟨c21, 2, 3, false⟩, ⟨c22, 2, 3, false⟩, ⟨c23, 2, 0, false⟩] [⟨n_graph_Of, (envOf 160 [(1, V.int IntKind.i64 x24), (3, V.ptr 0 0), (5, V.ptr 1 0), (6, V.ptr 2 0), (9, V.int IntKind.i64 x25), (10, V.ptr 3 0), (11, V.fn n_graph_Of_1 [] [V.ptr 3 0]), (12, V.fn n_graph_Of_2 [] [V.ptr 3 0, V.ptr 1 0]), (13, V.int IntKind.i64 x26), (14, V.int IntKind.i64 x27), (44, V.ptr 0 1), (45, V.ptr 0 3), (46, V.sl n28 c29), (47, V.int IntKind.i64 x30), (48, V.fn n_graph_Of_1 [] [V.ptr 3 0]), (49, V.fn n_graph_Of_2 [] [V.ptr 3 0, V.ptr 1 0]), (50, V.fn n_graph_Of_1 [] [V.ptr 3 0]), (51, V.int IntKind.i64 x31), (52, V.int IntKind.i64 x32), (53, V.fn n_graph_Of_1 [] [V.ptr 3 0]), (54, V.int IntKind.i64 x33), (55, V.int IntKind.i64 x34), (56, V.int IntKind.i64 x35), (57, V.ptr 0 1), (58, V.ptr 0 9), (59, V.bool b36), (60, V.fn n_graph_Of_1 [] [V.ptr 3 0]), (61, V.int IntKind.i64 x37)]), Option.some 62, (opsAt cc n_graph_Of 14 3), 0⟩] 6
noncomputable def S_graph_Of_1_3_7 (N : Nat) (x0 : Int) (x1 : Int) (x2 : Int) (x3 : Int) (n4 : Nat) (c5 : List V) (x6 : Int) (n7 : Nat) (c8 : List V) (n9 : Nat) (c10 : List V) (b11 : Bool) (n12 : Nat) (c13 : List V) (x14 : Int) (x15 : Int) (x16 : Int) (b17 : Bool) (x18 : Int) (n19 : Nat) (n20 : Nat) (x21 : Int) (c22 : List V) (c23 : List V) (x24 : Int) (x25 : Int) (x26 : Int) (x27 : Int) (x28 : Int) (x29 : Int) (x30 : Int) : Option V := runAt cc N n_graph_Of_1 3 (envOf 25 [(0, V.int IntKind.u8 x0), (2, V.ptr 2 0), (6, V.int IntKind.i64 x1), (11, V.int IntKind.i64 x2), (12, V.int IntKind.i64 x3)]) [⟨[V.sl n4 c5, V.int IntKind.u8 x6, V.sl n7 c8, V.sl n9 c10, V.bool b11, V.sl n12 c13, V.int IntKind.u8 x14, V.int IntKind.i64 x15, V.int IntKind.i64 x16, V.bool b17, V.int IntKind.u8 x18], 1, 0, true⟩, ⟨[V.nils, V.nils], 1, 0, true⟩, ⟨[V.own 4 n19, V.own 5 n20], 1, 0, true⟩, ⟨[V.int IntKind.i64 x21], 1, 0, true⟩, ⟨c22, 2, 0, false⟩, ⟨c23, 5, 0, false⟩] [⟨n_graph_Of, (envOf 160 [(1, V.int IntKind.i64 x24), (3, V.ptr 0 0), (6, V.ptr 1 0), (9, V.int IntKind.i64 x25), (10, V.ptr 2 0), (11, V.fn n_graph_Of_1 [] [V.ptr 2 0]), (12, V.fn n_graph_Of_2 [] [V.ptr 2 0, V.ptr 3 0]), (13, V.int IntKind.i64 x26), (14, V.int IntKind.i64 x27), (15, V.int IntKind.u8 x28), (66, V.fn n_graph_Of_1 [] [V.ptr 2 0]), (67, V.int IntKind.u8 x29), (68, V.int IntKind.i64 x30)]), Option.some 69, (opsAt cc n_graph_Of 19 4), 0⟩] 6
noncomputable def S_graph_Of_1_3_8 (N : Nat) (x0 : Int) (x1 : Int) (x2 : Int) (x3 : Int) (n4 : Nat) (c5 : List V) (x6 : Int) (n7 : Nat) (c8 : List V) (n9 : Nat) (c10 : List V) (b11 : Bool) (n12 : Nat) (c13 : List V) (x14 : Int) (x15 : Int) (x16 : Int) (b17 : Bool) (x18 : Int) (n19 : Nat) (n20 : Nat) (x21 : Int) (c22 : List V) (c23 : List V) (c24 : List V) (x25 : Int) (x26 : Int) (x27 : Int) (x28 : Int) (x29 : Int) (x30 : Int) (x31 : Int) : Option V := runAt cc N n_graph_Of_1 3 (envOf 25 [(0, V.int IntKind.u8 x0), (2, V.ptr 2 0), (6, V.int IntKind.i64 x1), (11, V.int IntKind.i64 x2), (12, V.int IntKind.i64 x3)]) [⟨[V.sl n4 c5, V.int IntKind.u8 x6, V.sl n7 c8, V.sl n9 c10, V.bool b11, V.sl n12 c13, V.int IntKind.u8 x14, V.int IntKind.i64 x15, V.int IntKind.i64 x16, V.bool b17, V.int IntKind.u8 x18], 1, 0, true⟩, ⟨[V.nils, V.nils], 1, 0, true⟩, ⟨[V.own 6 n19, V.own 5 n20], 1, 0, true⟩, ⟨[V.int IntKind.i64 x21], 1, 0, true⟩, ⟨c22, 2, 3, false⟩, ⟨c23, 5, 0, false⟩, ⟨c24, 2, 0, false⟩] [⟨n_graph_Of, (envOf 160 [(1, V.int IntKind.i64 x25), (3, V.ptr 0 0), (6, V.ptr 1 0), (9, V.int IntKind.i64 x26), (10, V.ptr 2 0), (11, V.fn n_graph_Of_1 [] [V.ptr 2 0]), (12, V.fn n_graph_Of_2 [] [V.ptr 2 0, V.ptr 3 0]), (13, V.int IntKind.i64 x27), (14, V.int IntKind.i64 x28), (15, V.int IntKind.u8 x29), (66, V.fn n_graph_Of_1 [] [V.ptr 2 0]), (67, V.int IntKind.u8 x30), (68, V.int IntKind.i64 x31)]), Option.some 69, (opsAt cc n_graph_Of 19 4), 0⟩] 6
noncomputable def S_graph_Of_1_3_9 (N : Nat) (x0 : Int) (x1 : Int) (x2 : Int) (x3 : Int) (n4 : Nat) (c5 : List V) (x6 : Int) (n7 : Nat) (c8 : List V) (n9 : Nat) (c10 : List V) (b11 : Bool) (n12 : Nat) (c13 : List V) (x14 : Int) (x15 : Int) (x16 : Int) (b17 : Bool) (x18 : Int) (n19 : Nat) (n20 : Nat) (x21 : Int) (c22 : List V) (c23 : List V) (x24 : Int) (x25 : Int) (x26 : Int) (x27 : Int) (x28 : Int) (x29 : Int) (x30 : Int) (x31 : Int) (x32 : Int) : Option V := runAt cc N n_graph_Of_1 3 (envOf 25 [(0, V.int IntKind.u8 x0), (2, V.ptr 2 0), (6, V.int IntKind.i64 x1), (11, V.int IntKind.i64 x2), (12, V.int IntKind.i64 x3)]) [⟨[V.sl n4 c5, V.int IntKind.u8 x6, V.sl n7 c8, V.sl n9 c10, V.bool b11, V.sl n12 c13, V.int IntKind.u8 x14, V.int IntKind.i64 x15, V.int IntKind.i64 x16, V.bool b17, V.int IntKind.u8 x18], 1, 0, true⟩, ⟨[V.nils, V.nils], 1, 0, true⟩, ⟨[V.own 4 n19, V.own 5 n20], 1, 0, true⟩, ⟨[V.int IntKind.i64 x21], 1, 0, true⟩, ⟨c22, 2, 0, false⟩, ⟨c23, 5, 0, false⟩] [⟨n_graph_Of, (envOf 160 [(1, V.int IntKind.i64 x24), (3, V.ptr 0 0), (6, V.ptr 1 0), (9, V.int IntKind.i64 x25), (10, V.ptr 2 0), (11, V.fn n_graph_Of_1 [] [V.ptr 2 0]), (12, V.fn n_graph_Of_2 [] [V.ptr 2 0, V.ptr 3 0]), (13, V.int IntKind.i64 x26), (14, V.int IntKind.i64 x27), (15, V.int IntKind.u8 x28), (16, V.int IntKind.i64 x29), (66, V.fn n_graph_Of_1 [] [V.ptr 2 0]), (67, V.int IntKind.u8 x30), (68, V.int IntKind.i64 x31), (69, V.int IntKind.i64 x32), (70, V.fn n_graph_Of_1 [] [V.ptr 2 0])]), Option.some 71, (opsAt cc n_graph_Of 20 2), 0⟩] 6
noncomputable def S_graph_Of_1_3_10 (N : Nat) (x0 : Int) (x1 : Int) (x2 : Int) (x3 : Int) (n4 : Nat) (c5 : List V) (x6 : Int) (n7 : Nat) (c8 : List V) (n9 : Nat) (c10 : List V) (b11 : Bool) (n12 : Nat) (c13 : List V) (x14 : Int) (x15 : Int) (x16 : Int) (b17 : Bool) (x18 : Int) (n19 : Nat) (n20 : Nat) (x21 : Int) (c22 : List V) (c23 : List V) (c24 : List V) (x25 : Int) (x26 : Int) (x27 : Int) (x28 : Int) (x29 : Int) (x30 : Int) (x31 : Int) (x32 : Int) (x33 : Int) : Option V := runAt cc N n_graph_Of_1 3 (envOf 25 [(0, V.int IntKind.u8 x0), (2, V.ptr 2 0), (6, V.int IntKind.i64 x1), (11, V.int IntKind.i64 x2), (12, V.int IntKind.i64 x3)]) [⟨[V.sl n4 c5, V.int IntKind.u8 x6, V.sl n7 c8, V.sl n9 c10, V.bool b11, V.sl n12 c13, V.int IntKind.u8 x14, V.int IntKind.i64 x15, V.int IntKind.i64 x16, V.bool b17, V.int IntKind.u8 x18], 1, 0, true⟩, ⟨[V.nils, V.nils], 1, 0, true⟩, ⟨[V.own 6 n19, V.own 5 n20], 1, 0, true⟩, ⟨[V.int IntKind.i64 x21], 1, 0, true⟩, ⟨c22, 2, 3, false⟩, ⟨c23, 5, 0, false⟩, ⟨c24, 2, 0, false⟩] [⟨n_graph_Of, (envOf 160 [(1, V.int IntKind.i64 x25), (3, V.ptr 0 0), (6, V.ptr 1 0), (9, V.int IntKind.i64 x26), (10, V.ptr 2 0), (11, V.fn n_graph_Of_1 [] [V.ptr 2 0]), (12, V.fn n_graph_Of_2 [] [V.ptr 2 0, V.ptr 3 0]), (13, V.int IntKind.i64 x27), (14, V.int IntKind.i64 x28), (15, V.int IntKind.u8 x29), (16, V.int IntKind.i64 x30), (66, V.fn n_graph_Of_1 [] [V.ptr 2 0]), (67, V.int IntKind.u8 x31), (68, V.int IntKind.i64 x32), (69, V.int IntKind.i64 x33), (70, V.fn n_graph_Of_1 [] [V.ptr 2 0])]), Option.some 71, (opsAt cc n_graph_Of 20 2), 0⟩] 7
noncomputable def S_graph_Of_1_3_11 (N : Nat) (x0 : Int) (x1 : Int) (x2 : Int) (x3 : Int) (n4 : Nat) (c5 : List V) (x6 : Int) (n7 : Nat) (c8 : List V) (n9 : Nat) (c10 : List V) (b11 : Bool) (n12 : Nat) (c13 : List V) (x14 : Int) (x15 : Int) (x16 : Int) (b17 : Bool) (x18 : Int) (n19 : Nat) (n20 : Nat) (x21 : Int) (c22 : List V) (c23 : List V) (c24 : List V) (x25 : Int) (x26 : Int) (x27 : Int) (x28 : Int) (x29 : Int) (x30 : Int) (x31 : Int) (x32 : Int) (x33 : Int) : Option V := runAt cc N n_graph_Of_1 3 (envOf 25 [(0, V.int IntKind.u8 x0), (2, V.ptr 2 0), (6, V.int IntKind.i64 x1), (11, V.int IntKind.i64 x2), (12, V.int IntKind.i64 x3)]) [⟨[V.sl n4 c5, V.int IntKind.u8 x6, V.sl n7 c8, V.sl n9 c10, V.bool b11, V.sl n12 c13, V.int IntKind.u8 x14, V.int IntKind.i64 x15, V.int IntKind.i64 x16, V.bool b17, V.int IntKind.u8 x18], 1, 0, true⟩, ⟨[V.nils, V.nils], 1, 0, true⟩, ⟨[V.own 6 n19, V.own 5 n20], 1, 0, true⟩, ⟨[V.int IntKind.i64 x21], 1, 0, true⟩, ⟨c22, 2, 3, false⟩, ⟨c23, 5, 0, false⟩, ⟨c24, 2, 0, false⟩] [⟨n_graph_Of, (envOf 160 [(1, V.int IntKind.i64 x25), (3, V.ptr 0 0), (6, V.ptr 1 0), (9, V.int IntKind.i64 x26), (10, V.ptr 2 0), (11, V.fn n_graph_Of_1 [] [V.ptr 2 0]), (12, V.fn n_graph_Of_2 [] [V.ptr 2 0, V.ptr 3 0]), (13, V.int IntKind.i64 x27), (14, V.int IntKind.i64 x28), (15, V.int IntKind.u8 x29), (16, V.int IntKind.i64 x30), (66, V.fn n_graph_Of_1 [] [V.ptr 2 0]), (67, V.int IntKind.u8 x31), (68, V.int IntKind.i64 x32), (69, V.int IntKind.i64 x33), (70, V.fn n_graph_Of_1 [] [V.ptr 2 0])]), Option.some 71, (opsAt cc n_graph_Of 20 2), 0⟩] 6
noncomputable def S_graph_Of_22 (N : Nat) (x0 : Int) (x1 : Int) (x2 : Int) (x3 : Int) (x4 : Int) (x5 : Int) (x6 : Int) (x7 : Int) (n8 : Nat) (c9 : List V) (x10 : Int) (n11 : Nat) (c12 : List V) (n13 : Nat) (c14 : List V) (b15 : Bool) (n16 : Nat) (c17 : List V) (x18 : Int) (x19 : Int) (x20 : Int) (b21 : Bool) (x22 : Int) (n23 : Nat) (n24 : Nat) (x25 : Int) (c26 : List V) (c27 : List V) : Option V := runAt cc N n_graph_Of 22 (envOf 160 [(1, V.int IntKind.i64 x0), (3, V.ptr 0 0), (6, V.ptr 1 0), (9, V.int IntKind.i64 x1), (10, V.ptr 2 0), (11, V.fn n_graph_Of_1 [] [V.ptr 2 0]), (12, V.fn n_graph_Of_2 [] [V.ptr 2 0, V.ptr 3 0]), (13, V.int IntKind.i64 x2), (14, V.int IntKind.i64 x3), (16, V.int IntKind.i64 x4), (17, V.int IntKind.i64 x5), (72, V.int IntKind.i64 x6), (73, V.int IntKind.i64 x7)]) [⟨[V.sl n8 c9, V.int IntKind.u8 x10, V.sl n11 c12, V.sl n13 c14, V.bool b15, V.sl n16 c17, V.int IntKind.u8 x18, V.int IntKind.i64 x19, V.int IntKind.i64 x20, V.bool b21, V.int IntKind.u8 x22], 1, 0, true⟩, ⟨[V.nils, V.nils], 1, 0, true⟩, ⟨[V.own 4 n23, V.own 5 n24], 1, 0, true⟩, ⟨[V.int IntKind.i64 x25], 1, 0, true⟩, ⟨c26, 2, 0, false⟩, ⟨c27, 5, 0, false⟩] [] 0
noncomputable def S_graph_Of_1_3_12 (N : Nat) (x0 : Int) (x1 : Int) (x2 : Int) (x3 : Int) (n4 : Nat) (c5 : List V) (x6 : Int) (n7 : Nat) (c8 : List V) (n9 : Nat) (c10 : List V) (b11 : Bool) (n12 : Nat) (c13 : List V) (x14 : Int) (x15 : Int) (x16 : Int) (b17 : Bool) (x18 : Int) (n19 : Nat) (n20 : Nat) (x21 : Int) (c22 : List V) (c23 : List V) (c24 : List V) (c25 : List V) (x26 : Int) (x27 : Int) (x28 : Int) (x29 : Int) (x30 : Int) (x31 : Int) (x32 : Int) (x33 : Int) (x34 : Int) : Option V := runAt cc N n_graph_Of_1 3 (envOf 25 [(0, V.int IntKind.u8 x0), (2, V.ptr 2 0), (6, V.int IntKind.i64 x1), (11, V.int IntKind.i64 x2), (12, V.int IntKind.i64 x3)]) [⟨[V.sl n4 c5, V.int IntKind.u8 x6, V.sl n7 c8, V.sl n9 c10, V.bool b11, V.sl n12 c13, V.int IntKind.u8 x14, V.int IntKind.i64 x15, V.int IntKind.i64 x16, V.bool b17, V.int IntKind.u8 x18], 1, 0, true⟩, ⟨[V.nils, V.nils], 1, 0, true⟩, ⟨[V.own 7 n19, V.own 5 n20], 1, 0, true⟩, ⟨[V.int IntKind.i64 x21], 1, 0, true⟩, ⟨c22, 2, 3, false⟩, ⟨c23, 5, 0, false⟩, ⟨c24, 2, 3, false⟩, ⟨c25, 2, 0, false⟩] [⟨n_graph_Of, (envOf 160 [(1, V.int IntKind.i64 x26), (3, V.ptr 0 0), (6, V.ptr 1 0), (9, V.int IntKind.i64 x27), (10, V.ptr 2 0), (11, V.fn n_graph_Of_1 [] [V.ptr 2 0]), (12, V.fn n_graph_Of_2 [] [V.ptr 2 0, V.ptr 3 0]), (13, V.int IntKind.i64 x28), (14, V.int IntKind.i64 x29), (15, V.int IntKind.u8 x30), (16, V.int IntKind.i64 x31), (66, V.fn n_graph_Of_1 [] [V.ptr 2 0]), (67, V.int IntKind.u8 x32), (68, V.int IntKind.i64 x33), (69, V.int IntKind.i64 x34), (70, V.fn n_graph_Of_1 [] [V.ptr 2 0])]), Option.some 71, (opsAt cc n_graph_Of 20 2), 0⟩] 7
noncomputable def S_graph_Of_23 (N : Nat) (x0 : Int) (x1 : Int) (x2 : Int) (x3 : Int) (x4 : Int) (x5 : Int) (x6 : Int) (x7 : Int) (n8 : Nat) (c9 : List V) (x10 : Int) (n11 : Nat) (c12 : List V) (n13 : Nat) (c14 : List V) (b15 : Bool) (n16 : Nat) (c17 : List V) (x18 : Int) (x19 : Int) (x20 : Int) (b21 : Bool) (x22 : Int) (n23 : Nat) (n24 : Nat) (x25 : Int) (c26 : List V) (c27 : List V) : Option V := runAt cc N n_graph_Of 23 (envOf 160 [(1, V.int IntKind.i64 x0), (3, V.ptr 0 0), (6, V.ptr 1 0), (9, V.int IntKind.i64 x1), (10, V.ptr 2 0), (11, V.fn n_graph_Of_1 [] [V.ptr 2 0]), (12, V.fn n_graph_Of_2 [] [V.ptr 2 0, V.ptr 3 0]), (13, V.int IntKind.i64 x2), (14, V.int IntKind.i64 x3), (16, V.int IntKind.i64 x4), (17, V.int IntKind.i64 x5), (72, V.int IntKind.i64 x6), (73, V.int IntKind.i64 x7)]) [⟨[V.sl n8 c9, V.int IntKind.u8 x10, V.sl n11 c12, V.sl n13 c14, V.bool b15, V.sl n16 c17, V.int IntKind.u8 x18, V.int IntKind.i64 x19, V.int IntKind.i64 x20, V.bool b21, V.int IntKind.u8 x22], 1, 0, true⟩, ⟨[V.nils, V.nils], 1, 0, true⟩, ⟨[V.own 4 n23, V.own 5 n24], 1, 0, true⟩, ⟨[V.int IntKind.i64 x25], 1, 0, true⟩, ⟨c26, 2, 0, false⟩, ⟨c27, 5, 0, false⟩] [] 0
noncomputable def S_graph_Of_26 (N : Nat) (x0 : Int) (x1 : Int) (x2 : Int) (x3 : Int) (x4 : Int) (x5 : Int) (n6 : Nat) (c7 : List V) (x8 : Int) (n9 : Nat) (c10 : List V) (n11 : Nat) (c12 : List V) (b13 : Bool) (n14 : Nat) (c15 : List V) (x16 : Int) (x17 : Int) (x18 : Int) (b19 : Bool) (x20 : Int) (n21 : Nat) (n22 : Nat) (x23 : Int) (c24 : List V) (c25 : List V) : Option V := runAt cc N n_graph_Of 26 (envOf 160 [(1, V.int IntKind.i64 x0), (3, V.ptr 0 0), (6, V.ptr 1 0), (9, V.int IntKind.i64 x1), (10, V.ptr 2 0), (11, V.fn n_graph_Of_1 [] [V.ptr 2 0]), (12, V.fn n_graph_Of_2 [] [V.ptr 2 0, V.ptr 3 0]), (13, V.int IntKind.i64 x2), (14, V.int IntKind.i64 x3), (16, V.int IntKind.i64 x4), (17, V.int IntKind.i64 x5)]) [⟨[V.sl n6 c7, V.int IntKind.u8 x8, V.sl n9 c10, V.sl n11 c12, V.bool b13, V.sl n14 c15, V.int IntKind.u8 x16, V.int IntKind.i64 x17, V.int IntKind.i64 x18, V.bool b19, V.int IntKind.u8 x20], 1, 0, true⟩, ⟨[V.nils, V.nils], 1, 0, true⟩, ⟨[V.own 4 n21, V.own 5 n22], 1, 0, true⟩, ⟨[V.int IntKind.i64 x23], 1, 0, true⟩, ⟨c24, 2, 0, false⟩, ⟨c25, 5, 0, false⟩] [] 0
noncomputable def S_graph_Of_27 (N : Nat) (x0 : Int) (x1 : Int) (x2 : Int) (x3 : Int) (x4 : Int) (x5 : Int) (x6 : Int) (x7 : Int) (n8 : Nat) (c9 : List V) (x10 : Int) (n11 : Nat) (c12 : List V) (n13 : Nat) (c14 : List V) (b15 : Bool) (n16 : Nat) (c17 : List V) (x18 : Int) (x19 : Int) (x20 : Int) (b21 : Bool) (x22 : Int) (n23 : Nat) (n24 : Nat) (x25 : Int) (c26 : List V) (c27 : List V) : Option V := runAt cc N n_graph_Of 27 (envOf 160 [(1, V.int IntKind.i64 x0), (3, V.ptr 0 0), (6, V.ptr 1 0), (9, V.int IntKind.i64 x1), (10, V.ptr 2 0), (11, V.fn n_graph_Of_1 [] [V.ptr 2 0]), (12, V.fn n_graph_Of_2 [] [V.ptr 2 0, V.ptr 3 0]), (13, V.int IntKind.i64 x2), (14, V.int IntKind.i64 x3), (16, V.int IntKind.i64 x4), (17, V.int IntKind.i64 x5), (83, V.int IntKind.i64 x6), (84, V.int IntKind.i64 x7)]) [⟨[V.sl n8 c9, V.int IntKind.u8 x10, V.sl n11 c12, V.sl n13 c14, V.bool b15, V.sl n16 c17, V.int IntKind.u8 x18, V.int IntKind.i64 x19, V.int IntKind.i64 x20, V.bool b21, V.int IntKind.u8 x22], 1, 0, true⟩, ⟨[V.nils, V.nils], 1, 0, true⟩, ⟨[V.own 4 n23, V.own 5 n24], 1, 0, true⟩, ⟨[V.int IntKind.i64 x25], 1, 0, true⟩, ⟨c26, 2, 0, false⟩, ⟨c27, 5, 0, false⟩] [] 0
noncomputable def S_graph_Of_28 (N : Nat) (x0 : Int) (x1 : Int) (x2 : Int) (x3 : Int) (x4 : Int) (x5 : Int) (x6 : Int) (x7 : Int) (n8 : Nat) (c9 : List V) (x10 : Int) (n11 : Nat) (c12 : List V) (n13 : Nat) (c14 : List V) (b15 : Bool) (n16 : Nat) (c17 : List V) (x18 : Int) (x19 : Int) (x20 : Int) (b21 : Bool) (x22 : Int) (n23 : Nat) (n24 : Nat) (x25 : Int) (c26 : List V) (c27 : List V) : Option V := runAt cc N n_graph_Of 28 (envOf 160 [(1, V.int IntKind.i64 x0), (3, V.ptr 0 0), (6, V.ptr 1 0), (9, V.int IntKind.i64 x1), (10, V.ptr 2 0), (11, V.fn n_graph_Of_1 [] [V.ptr 2 0]), (12, V.fn n_graph_Of_2 [] [V.ptr 2 0, V.ptr 3 0]), (13, V.int IntKind.i64 x2), (14, V.int IntKind.i64 x3), (16, V.int IntKind.i64 x4), (17, V.int IntKind.i64 x5), (83, V.int IntKind.i64 x6), (84, V.int IntKind.i64 x7)]) [⟨[V.sl n8 c9, V.int IntKind.u8 x10, V.sl n11 c12, V.sl n13 c14, V.bool b15, V.sl n16 c17, V.int IntKind.u8 x18, V.int IntKind.i64 x19, V.int IntKind.i64 x20, V.bool b21, V.int IntKind.u8 x22], 1, 0, true⟩, ⟨[V.nils, V.nils], 1, 0, true⟩, ⟨[V.own 4 n23, V.own 5 n24], 1, 0, true⟩, ⟨[V.int IntKind.i64 x25], 1, 0, true⟩, ⟨c26, 2, 0, false⟩, ⟨c27, 5, 0, false⟩] [] 0
noncomputable def S_graph_Of_35 (N : Nat) (x0 : Int) (x1 : Int) (x2 : Int) (x3 : Int) (x4 : Int) (n5 : Nat) (c6 : List V) (x7 : Int) (n8 : Nat) (c9 : List V) (n10 : Nat) (c11 : List V) (b12 : Bool) (n13 : Nat) (c14 : List V) (x15 : Int) (x16 : Int) (x17 : Int) (b18 : Bool) (x19 : Int) (n20 : Nat) (n21 : Nat) (x22 : Int) (c23 : List V) (c24 : List V) : Option V := runAt cc N n_graph_Of 35 (envOf 160 [(1, V.int IntKind.i64 x0), (3, V.ptr 0 0), (6, V.ptr 1 0), (9, V.int IntKind.i64 x1), (10, V.ptr 2 0), (11, V.fn n_graph_Of_1 [] [V.ptr 2 0]), (12, V.fn n_graph_Of_2 [] [V.ptr 2 0, V.ptr 3 0]), (14, V.int IntKind.i64 x2), (16, V.int IntKind.i64 x3), (17, V.int IntKind.i64 x4)]) [⟨[V.sl n5 c6, V.int IntKind.u8 x7, V.sl n8 c9, V.sl n10 c11, V.bool b12, V.sl n13 c14, V.int IntKind.u8 x15, V.int IntKind.i64 x16, V.int IntKind.i64 x17, V.bool b18, V.int IntKind.u8 x19], 1, 0, true⟩, ⟨[V.nils, V.nils], 1, 0, true⟩, ⟨[V.own 4 n20, V.own 5 n21], 1, 0, true⟩, ⟨[V.int IntKind.i64 x22], 1, 0, true⟩, ⟨c23, 2, 0, false⟩, ⟨c24, 5, 0, false⟩] [] 0
noncomputable def S_graph_Of_32 (N : Nat) (x0 : Int) (x1 : Int) (x2 : Int) (x3 : Int) (x4 : Int) (x5 : Int) (x6 : Int) (x7 : Int) (x8 : Int) (n9 : Nat) (c10 : List V) (x11 : Int) (n12 : Nat) (c13 : List V) (n14 : Nat) (c15 : List V) (b16 : Bool) (n17 : Nat) (c18 : List V) (x19 : Int) (x20 : Int) (x21 : Int) (b22 : Bool) (x23 : Int) (n24 : Nat) (n25 : Nat) (x26 : Int) (c27 : List V) (c28 : List V) : Option V := runAt cc N n_graph_Of 32 (envOf 160 [(1, V.int IntKind.i64 x0), (3, V.ptr 0 0), (6, V.ptr 1 0), (9, V.int IntKind.i64 x1), (10, V.ptr 2 0), (11, V.fn n_graph_Of_1 [] [V.ptr 2 0]), (12, V.fn n_graph_Of_2 [] [V.ptr 2 0, V.ptr 3 0]), (13, V.int IntKind.i64 x2), (14, V.int IntKind.i64 x3), (16, V.int IntKind.i64 x4), (17, V.int IntKind.i64 x5), (19, V.int IntKind.i64 x6), (83, V.int IntKind.i64 x7), (84, V.int IntKind.i64 x8)]) [⟨[V.sl n9 c10, V.int IntKind.u8 x11, V.sl n12 c13, V.sl n14 c15, V.bool b16, V.sl n17 c18, V.int IntKind.u8 x19, V.int IntKind.i64 x20, V.int IntKind.i64 x21, V.bool b22, V.int IntKind.u8 x23], 1, 0, true⟩, ⟨[V.nils, V.nils], 1, 0, true⟩, ⟨[V.own 4 n24, V.own 5 n25], 1, 0, true⟩, ⟨[V.int IntKind.i64 x26], 1, 0, true⟩, ⟨c27, 2, 0, false⟩, ⟨c28, 5, 0, false⟩] [] 0
noncomputable def S_graph_Of_36 (N : Nat) (x0 : Int) (x1 : Int) (x2 : Int) (x3 : Int) (x4 : Int) (x5 : Int) (n6 : Nat) (c7 : List V) (x8 : Int) (n9 : Nat) (c10 : List V) (n11 : Nat) (c12 : List V) (b13 : Bool) (n14 : Nat) (c15 : List V) (x16 : Int) (x17 : Int) (x18 : Int) (b19 : Bool) (x20 : Int) (n21 : Nat) (n22 : Nat) (x23 : Int) (c24 : List V) (c25 : List V) : Option V := runAt cc N n_graph_Of 36 (envOf 160 [(1, V.int IntKind.i64 x0), (3, V.ptr 0 0), (6, V.ptr 1 0), (10, V.ptr 2 0), (11, V.fn n_graph_Of_1 [] [V.ptr 2 0]), (12, V.fn n_graph_Of_2 [] [V.ptr 2 0, V.ptr 3 0]), (14, V.int IntKind.i64 x1), (16, V.int IntKind.i64 x2), (17, V.int IntKind.i64 x3), (118, V.int IntKind.i64 x4), (119, V.int IntKind.i64 x5)]) [⟨[V.sl n6 c7, V.int IntKind.u8 x8, V.sl n9 c10, V.sl n11 c12, V.bool b13, V.sl n14 c15, V.int IntKind.u8 x16, V.int IntKind.i64 x17, V.int IntKind.i64 x18, V.bool b19, V.int IntKind.u8 x20], 1, 0, true⟩, ⟨[V.nils, V.nils], 1, 0, true⟩, ⟨[V.own 4 n21, V.own 5 n22], 1, 0, true⟩, ⟨[V.int IntKind.i64 x23], 1, 0, true⟩, ⟨c24, 2, 0, false⟩, ⟨c25, 5, 0, false⟩] [] 0
noncomputable def S_graph_Of_34 (N : Nat) (x0 : Int) (x1 : Int) (x2 : Int) (x3 : Int) (x4 : Int) (x5 : Int) (x6 : Int) (x7 : Int) (n8 : Nat) (c9 : List V) (x10 : Int) (n11 : Nat) (c12 : List V) (n13 : Nat) (c14 : List V) (b15 : Bool) (n16 : Nat) (c17 : List V) (x18 : Int) (x19 : Int) (x20 : Int) (b21 : Bool) (x22 : Int) (n23 : Nat) (n24 : Nat) (x25 : Int) (c26 : List V) (c27 : List V) : Option V := runAt cc N n_graph_Of 34 (envOf 160 [(1, V.int IntKind.i64 x0), (3, V.ptr 0 0), (6, V.ptr 1 0), (9, V.int IntKind.i64 x1), (10, V.ptr 2 0), (11, V.fn n_graph_Of_1 [] [V.ptr 2 0]), (12, V.fn n_graph_Of_2 [] [V.ptr 2 0, V.ptr 3 0]), (13, V.int IntKind.i64 x2), (14, V.int IntKind.i64 x3), (16, V.int IntKind.i64 x4), (17, V.int IntKind.i64 x5), (83, V.int IntKind.i64 x6), (84, V.int IntKind.i64 x7)]) [⟨[V.sl n8 c9, V.int IntKind.u8 x10, V.sl n11 c12, V.sl n13 c14, V.bool b15, V.sl n16 c17, V.int IntKind.u8 x18, V.int IntKind.i64 x19, V.int IntKind.i64 x20, V.bool b21, V.int IntKind.u8 x22], 1, 0, true⟩, ⟨[V.nils, V.nils], 1, 0, true⟩, ⟨[V.own 4 n23, V.own 5 n24], 1, 0, true⟩, ⟨[V.int IntKind.i64 x25], 1, 0, true⟩, ⟨c26, 2, 0, false⟩, ⟨c27, 5, 0, false⟩] [] 0
noncomputable def S_graph_Of_37 (N : Nat) (x0 : Int) (x1 : Int) (x2 : Int) (x3 : Int) (x4 : Int) (x5 : Int) (n6 : Nat) (c7 : List V) (x8 : Int) (n9 : Nat) (c10 : List V) (n11 : Nat) (c12 : List V) (b13 : Bool) (n14 : Nat) (c15 : List V) (x16 : Int) (x17 : Int) (x18 : Int) (b19 : Bool) (x20 : Int) (n21 : Nat) (n22 : Nat) (x23 : Int) (c24 : List V) (c25 : List V) : Option V := runAt cc N n_graph_Of 37 (envOf 160 [(1, V.int IntKind.i64 x0), (3, V.ptr 0 0), (6, V.ptr 1 0), (10, V.ptr 2 0), (11, V.fn n_graph_Of_1 [] [V.ptr 2 0]), (12, V.fn n_graph_Of_2 [] [V.ptr 2 0, V.ptr 3 0]), (14, V.int IntKind.i64 x1), (16, V.int IntKind.i64 x2), (17, V.int IntKind.i64 x3), (118, V.int IntKind.i64 x4), (119, V.int IntKind.i64 x5)]) [⟨[V.sl n6 c7, V.int IntKind.u8 x8, V.sl n9 c10, V.sl n11 c12, V.bool b13, V.sl n14 c15, V.int IntKind.u8 x16, V.int IntKind.i64 x17, V.int IntKind.i64 x18, V.bool b19, V.int IntKind.u8 x20], 1, 0, true⟩, ⟨[V.nils, V.nils], 1, 0, true⟩, ⟨[V.own 4 n21, V.own 5 n22], 1, 0, true⟩, ⟨[V.int IntKind.i64 x23], 1, 0, true⟩, ⟨c24, 2, 0, false⟩, ⟨c25, 5, 0, false⟩] [] 0
noncomputable def S_graph_Of_45 (N : Nat) (x0 : Int) (x1 : Int) (x2 : Int) (n3 : Nat) (c4 : List V) (x5 : Int) (n6 : Nat) (c7 : List V) (n8 : Nat) (c9 : List V) (b10 : Bool) (n11 : Nat) (c12 : List V) (x13 : Int) (x14 : Int) (x15 : Int) (b16 : Bool) (x17 : Int) (n18 : Nat) (n19 : Nat) (x20 : Int) (c21 : List V) (c22 : List V) : Option V := runAt cc N n_graph_Of 45 (envOf 160 [(1, V.int IntKind.i64 x0), (3, V.ptr 0 0), (6, V.ptr 1 0), (10, V.ptr 2 0), (11, V.fn n_graph_Of_1 [] [V.ptr 2 0]), (12, V.fn n_graph_Of_2 [] [V.ptr 2 0, V.ptr 3 0]), (16, V.int IntKind.i64 x1), (17, V.int IntKind.i64 x2)]) [⟨[V.sl n3 c4, V.int IntKind.u8 x5, V.sl n6 c7, V.sl n8 c9, V.bool b10, V.sl n11 c12, V.int IntKind.u8 x13, V.int IntKind.i64 x14, V.int IntKind.i64 x15, V.bool b16, V.int IntKind.u8 x17], 1, 0, true⟩, ⟨[V.nils, V.nils], 1, 0, true⟩, ⟨[V.own 4 n18, V.own 5 n19], 1, 0, true⟩, ⟨[V.int IntKind.i64 x20], 1, 0, true⟩, ⟨c21, 2, 0, false⟩, ⟨c22, 5, 0, false⟩] [] 0
noncomputable def S_graph_Of_39 (N : Nat) (x0 : Int) (x1 : Int) (x2 : Int) (x3 : Int) (x4 : Int) (x5 : Int) (x6 : Int) (x7 : Int) (x8 : Int) (n9 : Nat) (c10 : List V) (x11 : Int) (n12 : Nat) (c13 : List V) (n14 : Nat) (c15 : List V) (b16 : Bool) (n17 : Nat) (c18 : List V) (x19 : Int) (x20 : Int) (x21 : Int) (b22 : Bool) (x23 : Int) (n24 : Nat) (n25 : Nat) (x26 : Int) (c27 : List V) (c28 : List V) : Option V := runAt cc N n_graph_Of 39 (envOf 160 [(1, V.int IntKind.i64 x0), (3, V.ptr 0 0), (6, V.ptr 1 0), (10, V.ptr 2 0), (11, V.fn n_graph_Of_1 [] [V.ptr 2 0]), (12, V.fn n_graph_Of_2 [] [V.ptr 2 0, V.ptr 3 0]), (14, V.int IntKind.i64 x1), (16, V.int IntKind.i64 x2), (17, V.int IntKind.i64 x3), (20, V.int IntKind.i64 x4), (118, V.int IntKind.i64 x5), (119, V.int IntKind.i64 x6), (122, V.int IntKind.i64 x7), (123, V.int IntKind.i64 x8)]) [⟨[V.sl n9 c10, V.int IntKind.u8 x11, V.sl n12 c13, V.sl n14 c15, V.bool b16, V.sl n17 c18, V.int IntKind.u8 x19, V.int IntKind.i64 x20, V.int IntKind.i64 x21, V.bool b22, V.int IntKind.u8 x23], 1, 0, true⟩, ⟨[V.nils, V.nils], 1, 0, true⟩, ⟨[V.own 4 n24, V.own 5 n25], 1, 0, true⟩, ⟨[V.int IntKind.i64 x26], 1, 0, true⟩, ⟨c27, 2, 0, false⟩, ⟨c28, 5, 0, false⟩] [] 0
noncomputable def S_graph_Of_46 (N : Nat) (x0 : Int) (x1 : Int) (x2 : Int) (x3 : Int) (n4 : Nat) (c5 : List V) (x6 : Int) (n7 : Nat) (c8 : List V) (n9 : Nat) (c10 : List V) (b11 : Bool) (n12 : Nat) (c13 : List V) (x14 : Int) (x15 : Int) (x16 : Int) (b17 : Bool) (x18 : Int) (n19 : Nat) (n20 : Nat) (x21 : Int) (c22 : List V) (c23 : List V) : Option V := runAt cc N n_graph_Of 46 (envOf 160 [(3, V.ptr 0 0), (6, V.ptr 1 0), (10, V.ptr 2 0), (11, V.fn n_graph_Of_1 [] [V.ptr 2 0]), (12, V.fn n_graph_Of_2 [] [V.ptr 2 0, V.ptr 3 0]), (16, V.int IntKind.i64 x0), (17, V.int IntKind.i64 x1), (141, V.int IntKind.i64 x2), (142, V.int IntKind.i64 x3)]) [⟨[V.sl n4 c5, V.int IntKind.u8 x6, V.sl n7 c8, V.sl n9 c10, V.bool b11, V.sl n12 c13, V.int IntKind.u8 x14, V.int IntKind.i64 x15, V.int IntKind.i64 x16, V.bool b17, V.int IntKind.u8 x18], 1, 0, true⟩, ⟨[V.nils, V.nils], 1, 0, true⟩, ⟨[V.own 4 n19, V.own 5 n20], 1, 0, true⟩, ⟨[V.int IntKind.i64 x21], 1, 0, true⟩, ⟨c22, 2, 0, false⟩, ⟨c23, 5, 0, false⟩] [] 0
noncomputable def S_graph_Of_40 (N : Nat) (x0 : Int) (x1 : Int) (x2 : Int) (x3 : Int) (x4 : Int) (x5 : Int) (x6 : Int) (x7 : Int) (x8 : Int) (n9 : Nat) (c10 : List V) (x11 : Int) (n12 : Nat) (c13 : List V) (n14 : Nat) (c15 : List V) (b16 : Bool) (n17 : Nat) (c18 : List V) (x19 : Int) (x20 : Int) (x21 : Int) (b22 : Bool) (x23 : Int) (n24 : Nat) (n25 : Nat) (x26 : Int) (c27 : List V) (c28 : List V) : Option V := runAt cc N n_graph_Of 40 (envOf 160 [(1, V.int IntKind.i64 x0), (3, V.ptr 0 0), (6, V.ptr 1 0), (10, V.ptr 2 0), (11, V.fn n_graph_Of_1 [] [V.ptr 2 0]), (12, V.fn n_graph_Of_2 [] [V.ptr 2 0, V.ptr 3 0]), (14, V.int IntKind.i64 x1), (16, V.int IntKind.i64 x2), (17, V.int IntKind.i64 x3), (20, V.int IntKind.i64 x4), (118, V.int IntKind.i64 x5), (119, V.int IntKind.i64 x6), (122, V.int IntKind.i64 x7), (123, V.int IntKind.i64 x8)]) [⟨[V.sl n9 c10, V.int IntKind.u8 x11, V.sl n12 c13, V.sl n14 c15, V.bool b16, V.sl n17 c18, V.int IntKind.u8 x19, V.int IntKind.i64 x20, V.int IntKind.i64 x21, V.bool b22, V.int IntKind.u8 x23], 1, 0, true⟩, ⟨[V.nils, V.nils], 1, 0, true⟩, ⟨[V.own 4 n24, V.own 5 n25], 1, 0, true⟩, ⟨[V.int IntKind.i64 x26], 1, 0, true⟩, ⟨c27, 2, 0, false⟩, ⟨c28, 5, 0, false⟩] [] 0
noncomputable def S_graph_Of_44 (N : Nat) (x0 : Int) (x1 : Int) (x2 : Int) (x3 : Int) (x4 : Int) (x5 : Int) (n6 : Nat) (c7 : List V) (x8 : Int) (n9 : Nat) (c10 : List V) (n11 : Nat) (c12 : List V) (b13 : Bool) (n14 : Nat) (c15 : List V) (x16 : Int) (x17 : Int) (x18 : Int) (b19 : Bool) (x20 : Int) (n21 : Nat) (n22 : Nat) (x23 : Int) (c24 : List V) (c25 : List V) : Option V := runAt cc N n_graph_Of 44 (envOf 160 [(1, V.int IntKind.i64 x0), (3, V.ptr 0 0), (6, V.ptr 1 0), (10, V.ptr 2 0), (11, V.fn n_graph_Of_1 [] [V.ptr 2 0]), (12, V.fn n_graph_Of_2 [] [V.ptr 2 0, V.ptr 3 0]), (14, V.int IntKind.i64 x1), (16, V.int IntKind.i64 x2), (17, V.int IntKind.i64 x3), (118, V.int IntKind.i64 x4), (119, V.int IntKind.i64 x5)]) [⟨[V.sl n6 c7, V.int IntKind.u8 x8, V.sl n9 c10, V.sl n11 c12, V.bool b13, V.sl n14 c15, V.int IntKind.u8 x16, V.int IntKind.i64 x17, V.int IntKind.i64 x18, V.bool b19, V.int IntKind.u8 x20], 1, 0, true⟩, ⟨[V.nils, V.nils], 1, 0, true⟩, ⟨[V.own 4 n21, V.own 5 n22], 1, 0, true⟩, ⟨[V.int IntKind.i64 x23], 1, 0, true⟩, ⟨c24, 2, 0, false⟩, ⟨c25, 5, 0, false⟩] [] 0
noncomputable def S_graph_Of_47 (N : Nat) (x0 : Int) (x1 : Int) (x2 : Int) (x3 : Int) (n4 : Nat) (c5 : List V) (x6 : Int) (n7 : Nat) (c8 : List V) (n9 : Nat) (c10 : List V) (b11 : Bool) (n12 : Nat) (c13 : List V) (x14 : Int) (x15 : Int) (x16 : Int) (b17 : Bool) (x18 : Int) (n19 : Nat) (n20 : Nat) (x21 : Int) (c22 : List V) (c23 : List V) : Option V := runAt cc N n_graph_Of 47 (envOf 160 [(3, V.ptr 0 0), (6, V.ptr 1 0), (10, V.ptr 2 0), (11, V.fn n_graph_Of_1 [] [V.ptr 2 0]), (12, V.fn n_graph_Of_2 [] [V.ptr 2 0, V.ptr 3 0]), (16, V.int IntKind.i64 x0), (17, V.int IntKind.i64 x1), (141, V.int IntKind.i64 x2), (142, V.int IntKind.i64 x3)]) [⟨[V.sl n4 c5, V.int IntKind.u8 x6, V.sl n7 c8, V.sl n9 c10, V.bool b11, V.sl n12 c13, V.int IntKind.u8 x14, V.int IntKind.i64 x15, V.int IntKind.i64 x16, V.bool b17, V.int IntKind.u8 x18], 1, 0, true⟩, ⟨[V.nils, V.nils], 1, 0, true⟩, ⟨[V.own 4 n19, V.own 5 n20], 1, 0, true⟩, ⟨[V.int IntKind.i64 x21], 1, 0, true⟩, ⟨c22, 2, 0, false⟩, ⟨c23, 5, 0, false⟩] [] 0
noncomputable def S_graph_Of_50 (N : Nat) (n0 : Nat) (c1 : List V) (x2 : Int) (n3 : Nat) (c4 : List V) (n5 : Nat) (c6 : List V) (b7 : Bool) (n8 : Nat) (c9 : List V) (x10 : Int) (x11 : Int) (x12 : Int) (b13 : Bool) (x14 : Int) (n15 : Nat) (n16 : Nat) (c17 : List V) (c18 : List V) : Option V := runAt cc N n_graph_Of 50 (envOf 160 [(3, V.ptr 0 0), (6, V.ptr 1 0), (10, V.ptr 2 0), (11, V.fn n_graph_Of_1 [] [V.ptr 2 0])]) [⟨[V.sl n0 c1, V.int IntKind.u8 x2, V.sl n3 c4, V.sl n5 c6, V.bool b7, V.sl n8 c9, V.int IntKind.u8 x10, V.int IntKind.i64 x11, V.int IntKind.i64 x12, V.bool b13, V.int IntKind.u8 x14], 1, 0, true⟩, ⟨[V.nils, V.nils], 1, 0, true⟩, ⟨[V.own 3 n15, V.own 4 n16], 1, 0, true⟩, ⟨c17, 2, 0, false⟩, ⟨c18, 5, 0, false⟩] [] 0
noncomputable def S_graph_Of_43 (N : Nat) (x0 : Int) (x1 : Int) (x2 : Int) (x3 : Int) (x4 : Int) (x5 : Int) (x6 : Int) (x7 : Int) (x8 : Int) (n9 : Nat) (c10 : List V) (x11 : Int) (n12 : Nat) (c13 : List V) (n14 : Nat) (c15 : List V) (b16 : Bool) (n17 : Nat) (c18 : List V) (x19 : Int) (x20 : Int) (x21 : Int) (b22 : Bool) (x23 : Int) (n24 : Nat) (n25 : Nat) (x26 : Int) (c27 : List V) (c28 : List V) : Option V := runAt cc N n_graph_Of 43 (envOf 160 [(1, V.int IntKind.i64 x0), (3, V.ptr 0 0), (6, V.ptr 1 0), (10, V.ptr 2 0), (11, V.fn n_graph_Of_1 [] [V.ptr 2 0]), (12, V.fn n_graph_Of_2 [] [V.ptr 2 0, V.ptr 3 0]), (14, V.int IntKind.i64 x1), (16, V.int IntKind.i64 x2), (17, V.int IntKind.i64 x3), (20, V.int IntKind.i64 x4), (118, V.int IntKind.i64 x5), (119, V.int IntKind.i64 x6), (122, V.int IntKind.i64 x7), (123, V.int IntKind.i64 x8)]) [⟨[V.sl n9 c10, V.int IntKind.u8 x11, V.sl n12 c13, V.sl n14 c15, V.bool b16, V.sl n17 c18, V.int IntKind.u8 x19, V.int IntKind.i64 x20, V.int IntKind.i64 x21, V.bool b22, V.int IntKind.u8 x23], 1, 0, true⟩, ⟨[V.nils, V.nils], 1, 0, true⟩, ⟨[V.own 4 n24, V.own 5 n25], 1, 0, true⟩, ⟨[V.int IntKind.i64 x26], 1, 0, true⟩, ⟨c27, 2, 0, false⟩, ⟨c28, 5, 0, false⟩] [] 0
noncomputable def S_graph_Of_1_3_13 (N : Nat) (x0 : Int) (x1 : Int) (x2 : Int) (x3 : Int) (n4 : Nat) (c5 : List V) (x6 : Int) (n7 : Nat) (c8 : List V) (n9 : Nat) (c10 : List V) (b11 : Bool) (n12 : Nat) (c13 : List V) (x14 : Int) (x15 : Int) (x16 : Int) (b17 : Bool) (x18 : Int) (n19 : Nat) (n20 : Nat) (c21 : List V) (c22 : List V) (x23 : Int) (b24 : Bool) : Option V := runAt cc N n_graph_Of_1 3 (envOf 25 [(0, V.int IntKind.u8 x0), (2, V.ptr 2 0), (6, V.int IntKind.i64 x1), (11, V.int IntKind.i64 x2), (12, V.int IntKind.i64 x3)]) [⟨[V.sl n4 c5, V.int IntKind.u8 x6, V.sl n7 c8, V.sl n9 c10, V.bool b11, V.sl n12 c13, V.int IntKind.u8 x14, V.int IntKind.i64 x15, V.int IntKind.i64 x16, V.bool b17, V.int IntKind.u8 x18], 1, 0, true⟩, ⟨[V.nils, V.nils], 1, 0, true⟩, ⟨[V.own 3 n19, V.own 4 n20], 1, 0, true⟩, ⟨c21, 2, 0, false⟩, ⟨c22, 5, 0, false⟩] [⟨n_graph_Of, (envOf 160 [(3, V.ptr 0 0), (6, V.ptr 1 0), (10, V.ptr 2 0), (11, V.fn n_graph_Of_1 [] [V.ptr 2 0]), (153, V.ptr 0 1), (154, V.ptr 0 10), (155, V.int IntKind.u8 x23), (156, V.bool b24), (157, V.fn n_graph_Of_1 [] [V.ptr 2 0])]), Option.some 158, (opsAt cc n_graph_Of 51 2), 0⟩] 5
noncomputable def S_graph_Of_52 (N : Nat) (n0 : Nat) (n1 : Nat) (c2 : List V) (c3 : List V) : Option V := runAt cc N n_graph_Of 52 (envOf 160 [(6, V.ptr 0 0), (10, V.ptr 1 0)]) [⟨[V.nils, V.nils], 1, 0, true⟩, ⟨[V.own 2 n0, V.own 3 n1], 1, 0, true⟩, ⟨c2, 2, 0, false⟩, ⟨c3, 5, 0, false⟩] [] 0
noncomputable def S_graph_Of_1_3_14 (N : Nat) (x0 : Int) (x1 : Int) (x2 : Int) (x3 : Int) (n4 : Nat) (c5 : List V) (x6 : Int) (n7 : Nat) (c8 : List V) (n9 : Nat) (c10 : List V) (b11 : Bool) (n12 : Nat) (c13 : List V) (x14 : Int) (x15 : Int) (x16 : Int) (b17 : Bool) (x18 : Int) (n19 : Nat) (n20 : Nat) (c21 : List V) (c22 : List V) (c23 : List V) (x24 : Int) (b25 : Bool) : Option V := runAt cc N n_graph_Of_1 3 (envOf 25 [(0, V.int IntKind.u8 x0), (2, V.ptr 2 0), (6, V.int IntKind.i64 x1), (11, V.int IntKind.i64 x2), (12, V.int IntKind.i64 x3)]) [⟨[V.sl n4 c5, V.int IntKind.u8 x6, V.sl n7 c8, V.sl n9 c10, V.bool b11, V.sl n12 c13, V.int IntKind.u8 x14, V.int IntKind.i64 x15, V.int IntKind.i64 x16, V.bool b17, V.int IntKind.u8 x18], 1, 0, true⟩, ⟨[V.nils, V.nils], 1, 0, true⟩, ⟨[V.own 5 n19, V.own 4 n20], 1, 0, true⟩, ⟨c21, 2, 3, false⟩, ⟨c22, 5, 0, false⟩, ⟨c23, 2, 0, false⟩] [⟨n_graph_Of, (envOf 160 [(3, V.ptr 0 0), (6, V.ptr 1 0), (10, V.ptr 2 0), (11, V.fn n_graph_Of_1 [] [V.ptr 2 0]), (153, V.ptr 0 1), (154, V.ptr 0 10), (155, V.int IntKind.u8 x24), (156, V.bool b25), (157, V.fn n_graph_Of_1 [] [V.ptr 2 0])]), Option.some 158, (opsAt cc n_graph_Of 51 2), 0⟩] 5
theorem F_graph_Of (N : Nat) (n0 : Nat) (c1 : List V) (x2 : Int) (n3 : Nat) (c4 : List V) (n5 : Nat) (c6 : List V) (b7 : Bool) (n8 : Nat) (c9 : List V) (x10 : Int) (x11 : Int) (x12 : Int) (b13 : Bool) (x14 : Int) (x15 : Int) (x16 : Int) : call cc (N + 1) n_graph_Of [V.agg [V.sl n0 c1, V.int IntKind.u8 x2, V.sl n3 c4, V.sl n5 c6, V.bool b7, V.sl n8 c9, V.int IntKind.u8 x10, V.int IntKind.i64 x11, V.int IntKind.i64 x12, V.bool b13, V.int IntKind.u8 x14], V.int IntKind.i64 x15, V.int IntKind.i64 x16] =
 (call cc N n_plan_Check [V.agg [V.sl n0 c1, V.int IntKind.u8 x2, V.sl n3 c4, V.sl n5 c6, V.bool b7, V.sl n8 c9, V.int IntKind.u8 x10, V.int IntKind.i64 x11, V.int IntKind.i64 x12, V.bool b13, V.int IntKind.u8 x14]]).bind fun v17 =>
 cond (okRes [(false, [CK.i IntKind.i64])] v17)
 (cond ((V.toI (cellAt (V.cells v17) 0)) != (0 : Int))
 (some (V.tup [V.agg [V.sl 0 [], V.sl 0 []], V.int IntKind.i64 (V.toI (cellAt (V.cells v17) 0))]))
 (S_graph_Of_4 N x15 n0 c1 x2 n3 c4 n5 c6 b7 n8 c9 x10 x11 x12 b13 x14 x16))
 none := by kernel_rfl
theorem S_graph_Of_4_eq (N : Nat) (x0 : Int) (n1 : Nat) (c2 : List V) (x3 : Int) (n4 : Nat) (c5 : List V) (n6 : Nat) (c7 : List V) (b8 : Bool) (n9 : Nat) (c10 : List V) (x11 : Int) (x12 : Int) (x13 : Int) (b14 : Bool) (x15 : Int) (x16 : Int) : S_graph_Of_4 (N + 1) x0 n1 c2 x3 n4 c5 n6 c7 b8 n9 c10 x11 x12 x13 b14 x15 x16 =
 cond (decide (x0 < (1 : Int)))
 (some (V.tup [V.agg [V.sl 0 [], V.sl 0 []], V.int IntKind.i64 (2 : Int)]))
 (cond (decide (x0 > (3 : Int)))
  (some (V.tup [V.agg [V.sl 0 [], V.sl 0 []], V.int IntKind.i64 (2 : Int)]))
  (cond (decide (x16 < (1 : Int)))
   (some (V.tup [V.agg [V.sl 0 [], V.sl 0 []], V.int IntKind.i64 (2 : Int)]))
   (cond (decide (x16 > (8 : Int)))
    (some (V.tup [V.agg [V.sl 0 [], V.sl 0 []], V.int IntKind.i64 (2 : Int)]))
    (S_graph_Of_6 N x0 n1 c2 x3 n4 c5 n6 c7 b8 n9 c10 x11 x12 x13 b14 x15 x16)))) := by kernel_rfl
theorem S_graph_Of_6_eq (N : Nat) (x0 : Int) (n1 : Nat) (c2 : List V) (x3 : Int) (n4 : Nat) (c5 : List V) (n6 : Nat) (c7 : List V) (b8 : Bool) (n9 : Nat) (c10 : List V) (x11 : Int) (x12 : Int) (x13 : Int) (b14 : Bool) (x15 : Int) (x16 : Int) : S_graph_Of_6 (N + 1) x0 n1 c2 x3 n4 c5 n6 c7 b8 n9 c10 x11 x12 x13 b14 x15 x16 =
 S_graph_Of_1_3 N (1 : Int) (0 : Int) ((n6 : Nat) : Int) (0 : Int) n1 c2 x3 n4 c5 n6 c7 b8 n9 c10 x11 x12 x13 b14 x15 x16 0 [] x0 ((n6 : Nat) : Int) n6 c7 ((n6 : Nat) : Int) ((n6 : Nat) : Int) := by kernel_rfl
theorem S_graph_Of_1_3_eq (N : Nat) (x0 : Int) (x1 : Int) (x2 : Int) (x3 : Int) (n4 : Nat) (c5 : List V) (x6 : Int) (n7 : Nat) (c8 : List V) (n9 : Nat) (c10 : List V) (b11 : Bool) (n12 : Nat) (c13 : List V) (x14 : Int) (x15 : Int) (x16 : Int) (b17 : Bool) (x18 : Int) (x19 : Int) (n20 : Nat) (c21 : List V) (x22 : Int) (x23 : Int) (n24 : Nat) (c25 : List V) (x26 : Int) (x27 : Int) : S_graph_Of_1_3 (N + 1) x0 x1 x2 x3 n4 c5 x6 n7 c8 n9 c10 b11 n12 c13 x14 x15 x16 b17 x18 x19 n20 c21 x22 x23 n24 c25 x26 x27 =
 cond (decide (x3 < x2))
 (cond (decide ((n20 + 1) ≤ bound))
  (S_graph_Of_1_3 N x0 x1 x2 (IntKind.wrap IntKind.i64 (x3 + (1 : Int))) n4 c5 x6 n7 c8 n9 c10 b11 n12 c13 x14 x15 x16 b17 x18 x19 (n20 + 1) (c21 ++ [V.int IntKind.u8 x0, V.int IntKind.i64 x3]) x22 x23 n24 c25 x26 x27)
  none)
 (S_graph_Of_1_3_1 N (2 : Int) ((n20 : Nat) : Int) x23 (0 : Int) n4 c5 x6 n7 c8 n9 c10 b11 n12 c13 x14 x15 x16 b17 x18 x19 n20 c21 x22 x23 n24 c25 x26 x27 x1 x23) := by kernel_rfl
theorem S_graph_Of_1_3_1_eq (N : Nat) (x0 : Int) (x1 : Int) (x2 : Int) (x3 : Int) (n4 : Nat) (c5 : List V) (x6 : Int) (n7 : Nat) (c8 : List V) (n9 : Nat) (c10 : List V) (b11 : Bool) (n12 : Nat) (c13 : List V) (x14 : Int) (x15 : Int) (x16 : Int) (b17 : Bool) (x18 : Int) (x19 : Int) (n20 : Nat) (c21 : List V) (x22 : Int) (x23 : Int) (n24 : Nat) (c25 : List V) (x26 : Int) (x27 : Int) (x28 : Int) (x29 : Int) : S_graph_Of_1_3_1 (N + 1) x0 x1 x2 x3 n4 c5 x6 n7 c8 n9 c10 b11 n12 c13 x14 x15 x16 b17 x18 x19 n20 c21 x22 x23 n24 c25 x26 x27 x28 x29 =
 cond (decide (x3 < x2))
 (cond (decide ((n20 + 1) ≤ bound))
  (S_graph_Of_1_3_2 N x0 x1 x2 (IntKind.wrap IntKind.i64 (x3 + (1 : Int))) n4 c5 x6 n7 c8 n9 c10 b11 n12 c13 x14 x15 x16 b17 x18 x19 (n20 + 1) c21 (c21 ++ [V.int IntKind.u8 x0, V.int IntKind.i64 x3]) x22 x23 n24 c25 x26 x27 x28 x29)
  none)
 (cond b17
  (S_graph_Of_1_3_3 N (3 : Int) ((n20 : Nat) : Int) x23 (0 : Int) n4 c5 x6 n7 c8 n9 c10 b11 n12 c13 x14 x15 x16 b17 x18 x19 n20 c21 x22 x23 x1 x1 n24 c25 x26 x27 x28 x29 x1 x1 true x23)
  (S_graph_Of_16 N (1 : Int) x23 x1 x1 n4 c5 x6 n7 c8 n9 c10 b11 n12 c13 x14 x15 x16 b17 x18 n20 0 x19 c21 [])) := by kernel_rfl
theorem S_graph_Of_1_3_2_eq (N : Nat) (x0 : Int) (x1 : Int) (x2 : Int) (x3 : Int) (n4 : Nat) (c5 : List V) (x6 : Int) (n7 : Nat) (c8 : List V) (n9 : Nat) (c10 : List V) (b11 : Bool) (n12 : Nat) (c13 : List V) (x14 : Int) (x15 : Int) (x16 : Int) (b17 : Bool) (x18 : Int) (x19 : Int) (n20 : Nat) (c21 : List V) (c22 : List V) (x23 : Int) (x24 : Int) (n25 : Nat) (c26 : List V) (x27 : Int) (x28 : Int) (x29 : Int) (x30 : Int) : S_graph_Of_1_3_2 (N + 1) x0 x1 x2 x3 n4 c5 x6 n7 c8 n9 c10 b11 n12 c13 x14 x15 x16 b17 x18 x19 n20 c21 c22 x23 x24 n25 c26 x27 x28 x29 x30 =
 cond (decide (x3 < x2))
 (cond (decide ((n20 + 1) ≤ bound))
  (S_graph_Of_1_3_2 N x0 x1 x2 (IntKind.wrap IntKind.i64 (x3 + (1 : Int))) n4 c5 x6 n7 c8 n9 c10 b11 n12 c13 x14 x15 x16 b17 x18 x19 (n20 + 1) c21 (c22 ++ [V.int IntKind.u8 x0, V.int IntKind.i64 x3]) x23 x24 n25 c26 x27 x28 x29 x30)
  none)
 (cond b17
  (S_graph_Of_1_3_4 N (3 : Int) ((n20 : Nat) : Int) x24 (0 : Int) n4 c5 x6 n7 c8 n9 c10 b11 n12 c13 x14 x15 x16 b17 x18 x19 n20 c21 c22 x23 x24 x1 x1 n25 c26 x27 x28 x29 x30 x1 x1 true x24)
  (S_graph_Of_16 N (1 : Int) x24 x1 x1 n4 c5 x6 n7 c8 n9 c10 b11 n12 c13 x14 x15 x16 b17 x18 n20 0 x19 c22 [])) := by kernel_rfl
theorem S_graph_Of_1_3_3_eq (N : Nat) (x0 : Int) (x1 : Int) (x2 : Int) (x3 : Int) (n4 : Nat) (c5 : List V) (x6 : Int) (n7 : Nat) (c8 : List V) (n9 : Nat) (c10 : List V) (b11 : Bool) (n12 : Nat) (c13 : List V) (x14 : Int) (x15 : Int) (x16 : Int) (b17 : Bool) (x18 : Int) (x19 : Int) (n20 : Nat) (c21 : List V) (x22 : Int) (x23 : Int) (x24 : Int) (x25 : Int) (n26 : Nat) (c27 : List V) (x28 : Int) (x29 : Int) (x30 : Int) (x31 : Int) (x32 : Int) (x33 : Int) (b34 : Bool) (x35 : Int) : S_graph_Of_1_3_3 (N + 1) x0 x1 x2 x3 n4 c5 x6 n7 c8 n9 c10 b11 n12 c13 x14 x15 x16 b17 x18 x19 n20 c21 x22 x23 x24 x25 n26 c27 x28 x29 x30 x31 x32 x33 b34 x35 =
 cond (decide (x3 < x2))
 (cond (decide ((n20 + 1) ≤ bound))
  (S_graph_Of_1_3_5 N x0 x1 x2 (IntKind.wrap IntKind.i64 (x3 + (1 : Int))) n4 c5 x6 n7 c8 n9 c10 b11 n12 c13 x14 x15 x16 b17 x18 x19 (n20 + 1) c21 (c21 ++ [V.int IntKind.u8 x0, V.int IntKind.i64 x3]) x22 x23 x24 x25 n26 c27 x28 x29 x30 x31 x32 x33 b34 x35)
  none)
 (S_graph_Of_16 N x22 x23 x24 x1 n4 c5 x6 n7 c8 n9 c10 b11 n12 c13 x14 x15 x16 b17 x18 n20 0 x19 c21 []) := by kernel_rfl
theorem S_graph_Of_16_eq (N : Nat) (x0 : Int) (x1 : Int) (x2 : Int) (x3 : Int) (n4 : Nat) (c5 : List V) (x6 : Int) (n7 : Nat) (c8 : List V) (n9 : Nat) (c10 : List V) (b11 : Bool) (n12 : Nat) (c13 : List V) (x14 : Int) (x15 : Int) (x16 : Int) (b17 : Bool) (x18 : Int) (n19 : Nat) (n20 : Nat) (x21 : Int) (c22 : List V) (c23 : List V) : S_graph_Of_16 (N + 1) x0 x1 x2 x3 n4 c5 x6 n7 c8 n9 c10 b11 n12 c13 x14 x15 x16 b17 x18 n19 n20 x21 c22 c23 =
 cond b11
 (S_graph_Of_19 N x0 x1 x2 x3 (5 : Int) n4 c5 x6 n7 c8 n9 c10 b11 n12 c13 x14 x15 x16 b17 x18 n19 n20 x21 c22 c23)
 (S_graph_Of_19 N x0 x1 x2 x3 (4 : Int) n4 c5 x6 n7 c8 n9 c10 b11 n12 c13 x14 x15 x16 b17 x18 n19 n20 x21 c22 c23) := by kernel_rfl
theorem S_graph_Of_1_3_4_eq (N : Nat) (x0 : Int) (x1 : Int) (x2 : Int) (x3 : Int) (n4 : Nat) (c5 : List V) (x6 : Int) (n7 : Nat) (c8 : List V) (n9 : Nat) (c10 : List V) (b11 : Bool) (n12 : Nat) (c13 : List V) (x14 : Int) (x15 : Int) (x16 : Int) (b17 : Bool) (x18 : Int) (x19 : Int) (n20 : Nat) (c21 : List V) (c22 : List V) (x23 : Int) (x24 : Int) (x25 : Int) (x26 : Int) (n27 : Nat) (c28 : List V) (x29 : Int) (x30 : Int) (x31 : Int) (x32 : Int) (x33 : Int) (x34 : Int) (b35 : Bool) (x36 : Int) : S_graph_Of_1_3_4 (N + 1) x0 x1 x2 x3 n4 c5 x6 n7 c8 n9 c10 b11 n12 c13 x14 x15 x16 b17 x18 x19 n20 c21 c22 x23 x24 x25 x26 n27 c28 x29 x30 x31 x32 x33 x34 b35 x36 =
 cond (decide (x3 < x2))
 (cond (decide ((n20 + 1) ≤ bound))
  (S_graph_Of_1_3_6 N x0 x1 x2 (IntKind.wrap IntKind.i64 (x3 + (1 : Int))) n4 c5 x6 n7 c8 n9 c10 b11 n12 c13 x14 x15 x16 b17 x18 x19 (n20 + 1) c21 c22 (c22 ++ [V.int IntKind.u8 x0, V.int IntKind.i64 x3]) x23 x24 x25 x26 n27 c28 x29 x30 x31 x32 x33 x34 b35 x36)
  none)
 (S_graph_Of_16 N x23 x24 x25 x1 n4 c5 x6 n7 c8 n9 c10 b11 n12 c13 x14 x15 x16 b17 x18 n20 0 x19 c22 []) := by kernel_rfl
theorem S_graph_Of_1_3_5_eq (N : Nat) (x0 : Int) (x1 : Int) (x2 : Int) (x3 : Int) (n4 : Nat) (c5 : List V) (x6 : Int) (n7 : Nat) (c8 : List V) (n9 : Nat) (c10 : List V) (b11 : Bool) (n12 : Nat) (c13 : List V) (x14 : Int) (x15 : Int) (x16 : Int) (b17 : Bool) (x18 : Int) (x19 : Int) (n20 : Nat) (c21 : List V) (c22 : List V) (x23 : Int) (x24 : Int) (x25 : Int) (x26 : Int) (n27 : Nat) (c28 : List V) (x29 : Int) (x30 : Int) (x31 : Int) (x32 : Int) (x33 : Int) (x34 : Int) (b35 : Bool) (x36 : Int) : S_graph_Of_1_3_5 (N + 1) x0 x1 x2 x3 n4 c5 x6 n7 c8 n9 c10 b11 n12 c13 x14 x15 x16 b17 x18 x19 n20 c21 c22 x23 x24 x25 x26 n27 c28 x29 x30 x31 x32 x33 x34 b35 x36 =
 cond (decide (x3 < x2))
 (cond (decide ((n20 + 1) ≤ bound))
  (S_graph_Of_1_3_5 N x0 x1 x2 (IntKind.wrap IntKind.i64 (x3 + (1 : Int))) n4 c5 x6 n7 c8 n9 c10 b11 n12 c13 x14 x15 x16 b17 x18 x19 (n20 + 1) c21 (c22 ++ [V.int IntKind.u8 x0, V.int IntKind.i64 x3]) x23 x24 x25 x26 n27 c28 x29 x30 x31 x32 x33 x34 b35 x36)
  none)
 (S_graph_Of_16 N x23 x24 x25 x1 n4 c5 x6 n7 c8 n9 c10 b11 n12 c13 x14 x15 x16 b17 x18 n20 0 x19 c22 []) := by kernel_rfl
theorem S_graph_Of_19_eq (N : Nat) (x0 : Int) (x1 : Int) (x2 : Int) (x3 : Int) (x4 : Int) (n5 : Nat) (c6 : List V) (x7 : Int) (n8 : Nat) (c9 : List V) (n10 : Nat) (c11 : List V) (b12 : Bool) (n13 : Nat) (c14 : List V) (x15 : Int) (x16 : Int) (x17 : Int) (b18 : Bool) (x19 : Int) (n20 : Nat) (n21 : Nat) (x22 : Int) (c23 : List V) (c24 : List V) : S_graph_Of_19 (N + 1) x0 x1 x2 x3 x4 n5 c6 x7 n8 c9 n10 c11 b12 n13 c14 x15 x16 x17 b18 x19 n20 n21 x22 c23 c24 =
 S_graph_Of_1_3_7 N x4 ((n20 : Nat) : Int) x0 (0 : Int) n5 c6 x7 n8 c9 n10 c11 b12 n13 c14 x15 x16 x17 b18 x19 n20 n21 x22 c23 c24 x0 x1 x2 x3 x4 x4 x0 := by kernel_rfl
theorem S_graph_Of_1_3_6_eq (N : Nat) (x0 : Int) (x1 : Int) (x2 : Int) (x3 : Int) (n4 : Nat) (c5 : List V) (x6 : Int) (n7 : Nat) (c8 : List V) (n9 : Nat) (c10 : List V) (b11 : Bool) (n12 : Nat) (c13 : List V) (x14 : Int) (x15 : Int) (x16 : Int) (b17 : Bool) (x18 : Int) (x19 : Int) (n20 : Nat) (c21 : List V) (c22 : List V) (c23 : List V) (x24 : Int) (x25 : Int) (x26 : Int) (x27 : Int) (n28 : Nat) (c29 : List V) (x30 : Int) (x31 : Int) (x32 : Int) (x33 : Int) (x34 : Int) (x35 : Int) (b36 : Bool) (x37 : Int) : S_graph_Of_1_3_6 (N + 1) x0 x1 x2 x3 n4 c5 x6 n7 c8 n9 c10 b11 n12 c13 x14 x15 x16 b17 x18 x19 n20 c21 c22 c23 x24 x25 x26 x27 n28 c29 x30 x31 x32 x33 x34 x35 b36 x37 =
 cond (decide (x3 < x2))
 (cond (decide ((n20 + 1) ≤ bound))
  (S_graph_Of_1_3_6 N x0 x1 x2 (IntKind.wrap IntKind.i64 (x3 + (1 : Int))) n4 c5 x6 n7 c8 n9 c10 b11 n12 c13 x14 x15 x16 b17 x18 x19 (n20 + 1) c21 c22 (c23 ++ [V.int IntKind.u8 x0, V.int IntKind.i64 x3]) x24 x25 x26 x27 n28 c29 x30 x31 x32 x33 x34 x35 b36 x37)
  none)
 (S_graph_Of_16 N x24 x25 x26 x1 n4 c5 x6 n7 c8 n9 c10 b11 n12 c13 x14 x15 x16 b17 x18 n20 0 x19 c23 []) := by kernel_rfl
theorem S_graph_Of_1_3_7_eq (N : Nat) (x0 : Int) (x1 : Int) (x2 : Int) (x3 : Int) (n4 : Nat) (c5 : List V) (x6 : Int) (n7 : Nat) (c8 : List V) (n9 : Nat) (c10 : List V) (b11 : Bool) (n12 : Nat) (c13 : List V) (x14 : Int) (x15 : Int) (x16 : Int) (b17 : Bool) (x18 : Int) (n19 : Nat) (n20 : Nat) (x21 : Int) (c22 : List V) (c23 : List V) (x24 : Int) (x25 : Int) (x26 : Int) (x27 : Int) (x28 : Int) (x29 : Int) (x30 : Int) : S_graph_Of_1_3_7 (N + 1) x0 x1 x2 x3 n4 c5 x6 n7 c8 n9 c10 b11 n12 c13 x14 x15 x16 b17 x18 n19 n20 x21 c22 c23 x24 x25 x26 x27 x28 x29 x30 =
 cond (decide (x3 < x2))
 (cond (decide ((n19 + 1) ≤ bound))
  (S_graph_Of_1_3_8 N x0 x1 x2 (IntKind.wrap IntKind.i64 (x3 + (1 : Int))) n4 c5 x6 n7 c8 n9 c10 b11 n12 c13 x14 x15 x16 b17 x18 (n19 + 1) n20 x21 c22 c23 (c22 ++ [V.int IntKind.u8 x0, V.int IntKind.i64 x3]) x24 x25 x26 x27 x28 x29 x30)
  none)
 (S_graph_Of_1_3_9 N (6 : Int) ((n19 : Nat) : Int) (1 : Int) (0 : Int) n4 c5 x6 n7 c8 n9 c10 b11 n12 c13 x14 x15 x16 b17 x18 n19 n20 x21 c22 c23 x24 x25 x26 x27 x28 x1 x29 x30 x1) := by kernel_rfl
theorem S_graph_Of_1_3_8_eq (N : Nat) (x0 : Int) (x1 : Int) (x2 : Int) (x3 : Int) (n4 : Nat) (c5 : List V) (x6 : Int) (n7 : Nat) (c8 : List V) (n9 : Nat) (c10 : List V) (b11 : Bool) (n12 : Nat) (c13 : List V) (x14 : Int) (x15 : Int) (x16 : Int) (b17 : Bool) (x18 : Int) (n19 : Nat) (n20 : Nat) (x21 : Int) (c22 : List V) (c23 : List V) (c24 : List V) (x25 : Int) (x26 : Int) (x27 : Int) (x28 : Int) (x29 : Int) (x30 : Int) (x31 : Int) : S_graph_Of_1_3_8 (N + 1) x0 x1 x2 x3 n4 c5 x6 n7 c8 n9 c10 b11 n12 c13 x14 x15 x16 b17 x18 n19 n20 x21 c22 c23 c24 x25 x26 x27 x28 x29 x30 x31 =
 cond (decide (x3 < x2))
 (cond (decide ((n19 + 1) ≤ bound))
  (S_graph_Of_1_3_8 N x0 x1 x2 (IntKind.wrap IntKind.i64 (x3 + (1 : Int))) n4 c5 x6 n7 c8 n9 c10 b11 n12 c13 x14 x15 x16 b17 x18 (n19 + 1) n20 x21 c22 c23 (c24 ++ [V.int IntKind.u8 x0, V.int IntKind.i64 x3]) x25 x26 x27 x28 x29 x30 x31)
  none)
 (S_graph_Of_1_3_10 N (6 : Int) ((n19 : Nat) : Int) (1 : Int) (0 : Int) n4 c5 x6 n7 c8 n9 c10 b11 n12 c13 x14 x15 x16 b17 x18 n19 n20 x21 c22 c23 c24 x25 x26 x27 x28 x29 x1 x30 x31 x1) := by kernel_rfl
theorem S_graph_Of_1_3_9_eq (N : Nat) (x0 : Int) (x1 : Int) (x2 : Int) (x3 : Int) (n4 : Nat) (c5 : List V) (x6 : Int) (n7 : Nat) (c8 : List V) (n9 : Nat) (c10 : List V) (b11 : Bool) (n12 : Nat) (c13 : List V) (x14 : Int) (x15 : Int) (x16 : Int) (b17 : Bool) (x18 : Int) (n19 : Nat) (n20 : Nat) (x21 : Int) (c22 : List V) (c23 : List V) (x24 : Int) (x25 : Int) (x26 : Int) (x27 : Int) (x28 : Int) (x29 : Int) (x30 : Int) (x31 : Int) (x32 : Int) : S_graph_Of_1_3_9 (N + 1) x0 x1 x2 x3 n4 c5 x6 n7 c8 n9 c10 b11 n12 c13 x14 x15 x16 b17 x18 n19 n20 x21 c22 c23 x24 x25 x26 x27 x28 x29 x30 x31 x32 =
 cond (decide (x3 < x2))
 (cond (decide ((n19 + 1) ≤ bound))
  (S_graph_Of_1_3_11 N x0 x1 x2 (IntKind.wrap IntKind.i64 (x3 + (1 : Int))) n4 c5 x6 n7 c8 n9 c10 b11 n12 c13 x14 x15 x16 b17 x18 (n19 + 1) n20 x21 c22 c23 (c22 ++ [V.int IntKind.u8 x0, V.int IntKind.i64 x3]) x24 x25 x26 x27 x28 x29 x30 x31 x32)
  none)
 (S_graph_Of_22 N x24 x25 x26 x27 x29 x1 x25 (0 : Int) n4 c5 x6 n7 c8 n9 c10 b11 n12 c13 x14 x15 x16 b17 x18 n19 n20 x21 c22 c23) := by kernel_rfl
theorem S_graph_Of_1_3_10_eq (N : Nat) (x0 : Int) (x1 : Int) (x2 : Int) (x3 : Int) (n4 : Nat) (c5 : List V) (x6 : Int) (n7 : Nat) (c8 : List V) (n9 : Nat) (c10 : List V) (b11 : Bool) (n12 : Nat) (c13 : List V) (x14 : Int) (x15 : Int) (x16 : Int) (b17 : Bool) (x18 : Int) (n19 : Nat) (n20 : Nat) (x21 : Int) (c22 : List V) (c23 : List V) (c24 : List V) (x25 : Int) (x26 : Int) (x27 : Int) (x28 : Int) (x29 : Int) (x30 : Int) (x31 : Int) (x32 : Int) (x33 : Int) : S_graph_Of_1_3_10 (N + 1) x0 x1 x2 x3 n4 c5 x6 n7 c8 n9 c10 b11 n12 c13 x14 x15 x16 b17 x18 n19 n20 x21 c22 c23 c24 x25 x26 x27 x28 x29 x30 x31 x32 x33 =
 cond (decide (x3 < x2))
 (cond (decide ((n19 + 1) ≤ bound))
  (S_graph_Of_1_3_12 N x0 x1 x2 (IntKind.wrap IntKind.i64 (x3 + (1 : Int))) n4 c5 x6 n7 c8 n9 c10 b11 n12 c13 x14 x15 x16 b17 x18 (n19 + 1) n20 x21 c22 c23 c24 (c24 ++ [V.int IntKind.u8 x0, V.int IntKind.i64 x3]) x25 x26 x27 x28 x29 x30 x31 x32 x33)
  none)
 (S_graph_Of_22 N x25 x26 x27 x28 x30 x1 x26 (0 : Int) n4 c5 x6 n7 c8 n9 c10 b11 n12 c13 x14 x15 x16 b17 x18 n19 n20 x21 c24 c23) := by kernel_rfl
theorem S_graph_Of_1_3_11_eq (N : Nat) (x0 : Int) (x1 : Int) (x2 : Int) (x3 : Int) (n4 : Nat) (c5 : List V) (x6 : Int) (n7 : Nat) (c8 : List V) (n9 : Nat) (c10 : List V) (b11 : Bool) (n12 : Nat) (c13 : List V) (x14 : Int) (x15 : Int) (x16 : Int) (b17 : Bool) (x18 : Int) (n19 : Nat) (n20 : Nat) (x21 : Int) (c22 : List V) (c23 : List V) (c24 : List V) (x25 : Int) (x26 : Int) (x27 : Int) (x28 : Int) (x29 : Int) (x30 : Int) (x31 : Int) (x32 : Int) (x33 : Int) : S_graph_Of_1_3_11 (N + 1) x0 x1 x2 x3 n4 c5 x6 n7 c8 n9 c10 b11 n12 c13 x14 x15 x16 b17 x18 n19 n20 x21 c22 c23 c24 x25 x26 x27 x28 x29 x30 x31 x32 x33 =
 cond (decide (x3 < x2))
 (cond (decide ((n19 + 1) ≤ bound))
  (S_graph_Of_1_3_11 N x0 x1 x2 (IntKind.wrap IntKind.i64 (x3 + (1 : Int))) n4 c5 x6 n7 c8 n9 c10 b11 n12 c13 x14 x15 x16 b17 x18 (n19 + 1) n20 x21 c22 c23 (c24 ++ [V.int IntKind.u8 x0, V.int IntKind.i64 x3]) x25 x26 x27 x28 x29 x30 x31 x32 x33)
  none)
 (S_graph_Of_22 N x25 x26 x27 x28 x30 x1 x26 (0 : Int) n4 c5 x6 n7 c8 n9 c10 b11 n12 c13 x14 x15 x16 b17 x18 n19 n20 x21 c24 c23) := by kernel_rfl
theorem S_graph_Of_22_eq (N : Nat) (x0 : Int) (x1 : Int) (x2 : Int) (x3 : Int) (x4 : Int) (x5 : Int) (x6 : Int) (x7 : Int) (n8 : Nat) (c9 : List V) (x10 : Int) (n11 : Nat) (c12 : List V) (n13 : Nat) (c14 : List V) (b15 : Bool) (n16 : Nat) (c17 : List V) (x18 : Int) (x19 : Int) (x20 : Int) (b21 : Bool) (x22 : Int) (n23 : Nat) (n24 : Nat) (x25 : Int) (c26 : List V) (c27 : List V) : S_graph_Of_22 (N + 1) x0 x1 x2 x3 x4 x5 x6 x7 n8 c9 x10 n11 c12 n13 c14 b15 n16 c17 x18 x19 x20 b21 x22 n23 n24 x25 c26 c27 =
 cond (decide (x7 < x6))
 (S_graph_Of_23 N x0 x1 x2 x3 x4 x5 x6 x7 n8 c9 x10 n11 c12 n13 c14 b15 n16 c17 x18 x19 x20 b21 x22 n23 n24 x25 c26 c27)
 (S_graph_Of_26 N x0 x1 x2 x3 x4 x5 n8 c9 x10 n11 c12 n13 c14 b15 n16 c17 x18 x19 x20 b21 x22 n23 n24 x25 c26 c27) := by kernel_rfl
theorem S_graph_Of_1_3_12_eq (N : Nat) (x0 : Int) (x1 : Int) (x2 : Int) (x3 : Int) (n4 : Nat) (c5 : List V) (x6 : Int) (n7 : Nat) (c8 : List V) (n9 : Nat) (c10 : List V) (b11 : Bool) (n12 : Nat) (c13 : List V) (x14 : Int) (x15 : Int) (x16 : Int) (b17 : Bool) (x18 : Int) (n19 : Nat) (n20 : Nat) (x21 : Int) (c22 : List V) (c23 : List V) (c24 : List V) (c25 : List V) (x26 : Int) (x27 : Int) (x28 : Int) (x29 : Int) (x30 : Int) (x31 : Int) (x32 : Int) (x33 : Int) (x34 : Int) : S_graph_Of_1_3_12 (N + 1) x0 x1 x2 x3 n4 c5 x6 n7 c8 n9 c10 b11 n12 c13 x14 x15 x16 b17 x18 n19 n20 x21 c22 c23 c24 c25 x26 x27 x28 x29 x30 x31 x32 x33 x34 =
 cond (decide (x3 < x2))
 (cond (decide ((n19 + 1) ≤ bound))
  (S_graph_Of_1_3_12 N x0 x1 x2 (IntKind.wrap IntKind.i64 (x3 + (1 : Int))) n4 c5 x6 n7 c8 n9 c10 b11 n12 c13 x14 x15 x16 b17 x18 (n19 + 1) n20 x21 c22 c23 c24 (c25 ++ [V.int IntKind.u8 x0, V.int IntKind.i64 x3]) x26 x27 x28 x29 x30 x31 x32 x33 x34)
  none)
 (S_graph_Of_22 N x26 x27 x28 x29 x31 x1 x27 (0 : Int) n4 c5 x6 n7 c8 n9 c10 b11 n12 c13 x14 x15 x16 b17 x18 n19 n20 x21 c25 c23) := by kernel_rfl
theorem S_graph_Of_23_eq (N : Nat) (x0 : Int) (x1 : Int) (x2 : Int) (x3 : Int) (x4 : Int) (x5 : Int) (x6 : Int) (x7 : Int) (n8 : Nat) (c9 : List V) (x10 : Int) (n11 : Nat) (c12 : List V) (n13 : Nat) (c14 : List V) (b15 : Bool) (n16 : Nat) (c17 : List V) (x18 : Int) (x19 : Int) (x20 : Int) (b21 : Bool) (x22 : Int) (n23 : Nat) (n24 : Nat) (x25 : Int) (c26 : List V) (c27 : List V) : S_graph_Of_23 (N + 1) x0 x1 x2 x3 x4 x5 x6 x7 n8 c9 x10 n11 c12 n13 c14 b15 n16 c17 x18 x19 x20 b21 x22 n23 n24 x25 c26 c27 =
 cond (decide ((n24 + 1) ≤ bound))
 (S_graph_Of_22 N x0 x1 x2 x3 x4 x5 x6 (IntKind.wrap IntKind.i64 (x7 + (1 : Int))) n8 c9 x10 n11 c12 n13 c14 b15 n16 c17 x18 x19 x20 b21 x22 n23 (n24 + 1) x25 c26 (c27 ++ [V.int IntKind.i64 x7, V.int IntKind.i64 (0 : Int), V.int IntKind.i64 (IntKind.wrap IntKind.i64 (x2 + x7)), V.int IntKind.i64 (0 : Int), V.int IntKind.i64 x25]))
 none := by kernel_rfl
theorem S_graph_Of_26_eq (N : Nat) (x0 : Int) (x1 : Int) (x2 : Int) (x3 : Int) (x4 : Int) (x5 : Int) (n6 : Nat) (c7 : List V) (x8 : Int) (n9 : Nat) (c10 : List V) (n11 : Nat) (c12 : List V) (b13 : Bool) (n14 : Nat) (c15 : List V) (x16 : Int) (x17 : Int) (x18 : Int) (b19 : Bool) (x20 : Int) (n21 : Nat) (n22 : Nat) (x23 : Int) (c24 : List V) (c25 : List V) : S_graph_Of_26 (N + 1) x0 x1 x2 x3 x4 x5 n6 c7 x8 n9 c10 n11 c12 b13 n14 c15 x16 x17 x18 b19 x20 n21 n22 x23 c24 c25 =
 S_graph_Of_27 N x0 x1 x2 x3 x4 x5 x1 (0 : Int) n6 c7 x8 n9 c10 n11 c12 b13 n14 c15 x16 x17 x18 b19 x20 n21 n22 x23 c24 c25 := by kernel_rfl
theorem S_graph_Of_27_eq (N : Nat) (x0 : Int) (x1 : Int) (x2 : Int) (x3 : Int) (x4 : Int) (x5 : Int) (x6 : Int) (x7 : Int) (n8 : Nat) (c9 : List V) (x10 : Int) (n11 : Nat) (c12 : List V) (n13 : Nat) (c14 : List V) (b15 : Bool) (n16 : Nat) (c17 : List V) (x18 : Int) (x19 : Int) (x20 : Int) (b21 : Bool) (x22 : Int) (n23 : Nat) (n24 : Nat) (x25 : Int) (c26 : List V) (c27 : List V) : S_graph_Of_27 (N + 1) x0 x1 x2 x3 x4 x5 x6 x7 n8 c9 x10 n11 c12 n13 c14 b15 n16 c17 x18 x19 x20 b21 x22 n23 n24 x25 c26 c27 =
 cond (decide (x7 < x6))
 (S_graph_Of_28 N x0 x1 x2 x3 x4 x5 x6 x7 n8 c9 x10 n11 c12 n13 c14 b15 n16 c17 x18 x19 x20 b21 x22 n23 n24 x25 c26 c27)
 (S_graph_Of_35 N x0 x1 x3 x4 x5 n8 c9 x10 n11 c12 n13 c14 b15 n16 c17 x18 x19 x20 b21 x22 n23 n24 x25 c26 c27) := by kernel_rfl
theorem S_graph_Of_28_eq (N : Nat) (x0 : Int) (x1 : Int) (x2 : Int) (x3 : Int) (x4 : Int) (x5 : Int) (x6 : Int) (x7 : Int) (n8 : Nat) (c9 : List V) (x10 : Int) (n11 : Nat) (c12 : List V) (n13 : Nat) (c14 : List V) (b15 : Bool) (n16 : Nat) (c17 : List V) (x18 : Int) (x19 : Int) (x20 : Int) (b21 : Bool) (x22 : Int) (n23 : Nat) (n24 : Nat) (x25 : Int) (c26 : List V) (c27 : List V) : S_graph_Of_28 (N + 1) x0 x1 x2 x3 x4 x5 x6 x7 n8 c9 x10 n11 c12 n13 c14 b15 n16 c17 x18 x19 x20 b21 x22 n23 n24 x25 c26 c27 =
 cond b21
 (cond (decide ((n24 + 1) ≤ bound))
  (S_graph_Of_32 N x0 x1 x2 x3 x4 x5 x7 x6 x7 n8 c9 x10 n11 c12 n13 c14 b15 n16 c17 x18 x19 x20 b21 x22 n23 (n24 + 1) x25 c26 (c27 ++ [V.int IntKind.i64 (IntKind.wrap IntKind.i64 (x2 + x7)), V.int IntKind.i64 (0 : Int), V.int IntKind.i64 (IntKind.wrap IntKind.i64 (x3 + x7)), V.int IntKind.i64 (0 : Int), V.int IntKind.i64 x25]))
  none)
 (cond (decide ((n24 + 1) ≤ bound))
  (S_graph_Of_32 N x0 x1 x2 x3 x4 x5 x7 x6 x7 n8 c9 x10 n11 c12 n13 c14 b15 n16 c17 x18 x19 x20 b21 x22 n23 (n24 + 1) x25 c26 (c27 ++ [V.int IntKind.i64 (IntKind.wrap IntKind.i64 (x2 + x7)), V.int IntKind.i64 (0 : Int), V.int IntKind.i64 x4, V.int IntKind.i64 x7, V.int IntKind.i64 x25]))
  none) := by kernel_rfl
theorem S_graph_Of_35_eq (N : Nat) (x0 : Int) (x1 : Int) (x2 : Int) (x3 : Int) (x4 : Int) (n5 : Nat) (c6 : List V) (x7 : Int) (n8 : Nat) (c9 : List V) (n10 : Nat) (c11 : List V) (b12 : Bool) (n13 : Nat) (c14 : List V) (x15 : Int) (x16 : Int) (x17 : Int) (b18 : Bool) (x19 : Int) (n20 : Nat) (n21 : Nat) (x22 : Int) (c23 : List V) (c24 : List V) : S_graph_Of_35 (N + 1) x0 x1 x2 x3 x4 n5 c6 x7 n8 c9 n10 c11 b12 n13 c14 x15 x16 x17 b18 x19 n20 n21 x22 c23 c24 =
 S_graph_Of_36 N x0 x2 x3 x4 x1 (0 : Int) n5 c6 x7 n8 c9 n10 c11 b12 n13 c14 x15 x16 x17 b18 x19 n20 n21 x22 c23 c24 := by kernel_rfl
theorem S_graph_Of_32_eq (N : Nat) (x0 : Int) (x1 : Int) (x2 : Int) (x3 : Int) (x4 : Int) (x5 : Int) (x6 : Int) (x7 : Int) (x8 : Int) (n9 : Nat) (c10 : List V) (x11 : Int) (n12 : Nat) (c13 : List V) (n14 : Nat) (c15 : List V) (b16 : Bool) (n17 : Nat) (c18 : List V) (x19 : Int) (x20 : Int) (x21 : Int) (b22 : Bool) (x23 : Int) (n24 : Nat) (n25 : Nat) (x26 : Int) (c27 : List V) (c28 : List V) : S_graph_Of_32 (N + 1) x0 x1 x2 x3 x4 x5 x6 x7 x8 n9 c10 x11 n12 c13 n14 c15 b16 n17 c18 x19 x20 x21 b22 x23 n24 n25 x26 c27 c28 =
 cond (x23 == (2 : Int))
 (cond (decide ((n25 + 1) ≤ bound))
  (S_graph_Of_34 N x0 x1 x2 x3 x4 x5 x7 x8 n9 c10 x11 n12 c13 n14 c15 b16 n17 c18 x19 x20 x21 b22 x23 n24 (n25 + 1) x26 c27 (c28 ++ [V.int IntKind.i64 (IntKind.wrap IntKind.i64 (x2 + x6)), V.int IntKind.i64 (1 : Int), V.int IntKind.i64 (IntKind.wrap IntKind.i64 (x5 + (1 : Int))), V.int IntKind.i64 x6, V.int IntKind.i64 x26]))
  none)
 (S_graph_Of_34 N x0 x1 x2 x3 x4 x5 x7 x8 n9 c10 x11 n12 c13 n14 c15 b16 n17 c18 x19 x20 x21 b22 x23 n24 n25 x26 c27 c28) := by kernel_rfl
theorem S_graph_Of_36_eq (N : Nat) (x0 : Int) (x1 : Int) (x2 : Int) (x3 : Int) (x4 : Int) (x5 : Int) (n6 : Nat) (c7 : List V) (x8 : Int) (n9 : Nat) (c10 : List V) (n11 : Nat) (c12 : List V) (b13 : Bool) (n14 : Nat) (c15 : List V) (x16 : Int) (x17 : Int) (x18 : Int) (b19 : Bool) (x20 : Int) (n21 : Nat) (n22 : Nat) (x23 : Int) (c24 : List V) (c25 : List V) : S_graph_Of_36 (N + 1) x0 x1 x2 x3 x4 x5 n6 c7 x8 n9 c10 n11 c12 b13 n14 c15 x16 x17 x18 b19 x20 n21 n22 x23 c24 c25 =
 cond (decide (x5 < x4))
 (S_graph_Of_37 N x0 x1 x2 x3 x4 x5 n6 c7 x8 n9 c10 n11 c12 b13 n14 c15 x16 x17 x18 b19 x20 n21 n22 x23 c24 c25)
 (S_graph_Of_45 N x0 x2 x3 n6 c7 x8 n9 c10 n11 c12 b13 n14 c15 x16 x17 x18 b19 x20 n21 n22 x23 c24 c25) := by kernel_rfl
theorem S_graph_Of_34_eq (N : Nat) (x0 : Int) (x1 : Int) (x2 : Int) (x3 : Int) (x4 : Int) (x5 : Int) (x6 : Int) (x7 : Int) (n8 : Nat) (c9 : List V) (x10 : Int) (n11 : Nat) (c12 : List V) (n13 : Nat) (c14 : List V) (b15 : Bool) (n16 : Nat) (c17 : List V) (x18 : Int) (x19 : Int) (x20 : Int) (b21 : Bool) (x22 : Int) (n23 : Nat) (n24 : Nat) (x25 : Int) (c26 : List V) (c27 : List V) : S_graph_Of_34 (N + 1) x0 x1 x2 x3 x4 x5 x6 x7 n8 c9 x10 n11 c12 n13 c14 b15 n16 c17 x18 x19 x20 b21 x22 n23 n24 x25 c26 c27 =
 S_graph_Of_27 N x0 x1 x2 x3 x4 x5 x6 (IntKind.wrap IntKind.i64 (x7 + (1 : Int))) n8 c9 x10 n11 c12 n13 c14 b15 n16 c17 x18 x19 x20 b21 x22 n23 n24 x25 c26 c27 := by kernel_rfl
theorem S_graph_Of_37_eq (N : Nat) (x0 : Int) (x1 : Int) (x2 : Int) (x3 : Int) (x4 : Int) (x5 : Int) (n6 : Nat) (c7 : List V) (x8 : Int) (n9 : Nat) (c10 : List V) (n11 : Nat) (c12 : List V) (b13 : Bool) (n14 : Nat) (c15 : List V) (x16 : Int) (x17 : Int) (x18 : Int) (b19 : Bool) (x20 : Int) (n21 : Nat) (n22 : Nat) (x23 : Int) (c24 : List V) (c25 : List V) : S_graph_Of_37 (N + 1) x0 x1 x2 x3 x4 x5 n6 c7 x8 n9 c10 n11 c12 b13 n14 c15 x16 x17 x18 b19 x20 n21 n22 x23 c24 c25 =
 S_graph_Of_39 N x0 x1 x2 x3 x5 x4 x5 x0 (0 : Int) n6 c7 x8 n9 c10 n11 c12 b13 n14 c15 x16 x17 x18 b19 x20 n21 n22 x23 c24 c25 := by kernel_rfl
theorem S_graph_Of_45_eq (N : Nat) (x0 : Int) (x1 : Int) (x2 : Int) (n3 : Nat) (c4 : List V) (x5 : Int) (n6 : Nat) (c7 : List V) (n8 : Nat) (c9 : List V) (b10 : Bool) (n11 : Nat) (c12 : List V) (x13 : Int) (x14 : Int) (x15 : Int) (b16 : Bool) (x17 : Int) (n18 : Nat) (n19 : Nat) (x20 : Int) (c21 : List V) (c22 : List V) : S_graph_Of_45 (N + 1) x0 x1 x2 n3 c4 x5 n6 c7 n8 c9 b10 n11 c12 x13 x14 x15 b16 x17 n18 n19 x20 c21 c22 =
 S_graph_Of_46 N x1 x2 x0 (0 : Int) n3 c4 x5 n6 c7 n8 c9 b10 n11 c12 x13 x14 x15 b16 x17 n18 n19 x20 c21 c22 := by kernel_rfl
theorem S_graph_Of_39_eq (N : Nat) (x0 : Int) (x1 : Int) (x2 : Int) (x3 : Int) (x4 : Int) (x5 : Int) (x6 : Int) (x7 : Int) (x8 : Int) (n9 : Nat) (c10 : List V) (x11 : Int) (n12 : Nat) (c13 : List V) (n14 : Nat) (c15 : List V) (b16 : Bool) (n17 : Nat) (c18 : List V) (x19 : Int) (x20 : Int) (x21 : Int) (b22 : Bool) (x23 : Int) (n24 : Nat) (n25 : Nat) (x26 : Int) (c27 : List V) (c28 : List V) : S_graph_Of_39 (N + 1) x0 x1 x2 x3 x4 x5 x6 x7 x8 n9 c10 x11 n12 c13 n14 c15 b16 n17 c18 x19 x20 x21 b22 x23 n24 n25 x26 c27 c28 =
 cond (decide (x8 < x7))
 (S_graph_Of_40 N x0 x1 x2 x3 x4 x5 x6 x7 x8 n9 c10 x11 n12 c13 n14 c15 b16 n17 c18 x19 x20 x21 b22 x23 n24 n25 x26 c27 c28)
 (S_graph_Of_44 N x0 x1 x2 x3 x5 x6 n9 c10 x11 n12 c13 n14 c15 b16 n17 c18 x19 x20 x21 b22 x23 n24 n25 x26 c27 c28) := by kernel_rfl
theorem S_graph_Of_46_eq (N : Nat) (x0 : Int) (x1 : Int) (x2 : Int) (x3 : Int) (n4 : Nat) (c5 : List V) (x6 : Int) (n7 : Nat) (c8 : List V) (n9 : Nat) (c10 : List V) (b11 : Bool) (n12 : Nat) (c13 : List V) (x14 : Int) (x15 : Int) (x16 : Int) (b17 : Bool) (x18 : Int) (n19 : Nat) (n20 : Nat) (x21 : Int) (c22 : List V) (c23 : List V) : S_graph_Of_46 (N + 1) x0 x1 x2 x3 n4 c5 x6 n7 c8 n9 c10 b11 n12 c13 x14 x15 x16 b17 x18 n19 n20 x21 c22 c23 =
 cond (decide (x3 < x2))
 (S_graph_Of_47 N x0 x1 x2 x3 n4 c5 x6 n7 c8 n9 c10 b11 n12 c13 x14 x15 x16 b17 x18 n19 n20 x21 c22 c23)
 (S_graph_Of_50 N n4 c5 x6 n7 c8 n9 c10 b11 n12 c13 x14 x15 x16 b17 x18 n19 n20 c22 c23) := by kernel_rfl
theorem S_graph_Of_40_eq (N : Nat) (x0 : Int) (x1 : Int) (x2 : Int) (x3 : Int) (x4 : Int) (x5 : Int) (x6 : Int) (x7 : Int) (x8 : Int) (n9 : Nat) (c10 : List V) (x11 : Int) (n12 : Nat) (c13 : List V) (n14 : Nat) (c15 : List V) (b16 : Bool) (n17 : Nat) (c18 : List V) (x19 : Int) (x20 : Int) (x21 : Int) (b22 : Bool) (x23 : Int) (n24 : Nat) (n25 : Nat) (x26 : Int) (c27 : List V) (c28 : List V) : S_graph_Of_40 (N + 1) x0 x1 x2 x3 x4 x5 x6 x7 x8 n9 c10 x11 n12 c13 n14 c15 b16 n17 c18 x19 x20 x21 b22 x23 n24 n25 x26 c27 c28 =
 cond b22
 (cond (decide ((n25 + 1) ≤ bound))
  (S_graph_Of_43 N x0 x1 x2 x3 x4 x5 x6 x7 x8 n9 c10 x11 n12 c13 n14 c15 b16 n17 c18 x19 x20 x21 b22 x23 n24 (n25 + 1) x26 c27 (c28 ++ [V.int IntKind.i64 (IntKind.wrap IntKind.i64 (x1 + x4)), V.int IntKind.i64 x8, V.int IntKind.i64 (IntKind.wrap IntKind.i64 (x2 + x8)), V.int IntKind.i64 x4, V.int IntKind.i64 x26]))
  none)
 (S_graph_Of_43 N x0 x1 x2 x3 x4 x5 x6 x7 x8 n9 c10 x11 n12 c13 n14 c15 b16 n17 c18 x19 x20 x21 b22 x23 n24 n25 x26 c27 c28) := by kernel_rfl
theorem S_graph_Of_44_eq (N : Nat) (x0 : Int) (x1 : Int) (x2 : Int) (x3 : Int) (x4 : Int) (x5 : Int) (n6 : Nat) (c7 : List V) (x8 : Int) (n9 : Nat) (c10 : List V) (n11 : Nat) (c12 : List V) (b13 : Bool) (n14 : Nat) (c15 : List V) (x16 : Int) (x17 : Int) (x18 : Int) (b19 : Bool) (x20 : Int) (n21 : Nat) (n22 : Nat) (x23 : Int) (c24 : List V) (c25 : List V) : S_graph_Of_44 (N + 1) x0 x1 x2 x3 x4 x5 n6 c7 x8 n9 c10 n11 c12 b13 n14 c15 x16 x17 x18 b19 x20 n21 n22 x23 c24 c25 =
 S_graph_Of_36 N x0 x1 x2 x3 x4 (IntKind.wrap IntKind.i64 (x5 + (1 : Int))) n6 c7 x8 n9 c10 n11 c12 b13 n14 c15 x16 x17 x18 b19 x20 n21 n22 x23 c24 c25 := by kernel_rfl
theorem S_graph_Of_47_eq (N : Nat) (x0 : Int) (x1 : Int) (x2 : Int) (x3 : Int) (n4 : Nat) (c5 : List V) (x6 : Int) (n7 : Nat) (c8 : List V) (n9 : Nat) (c10 : List V) (b11 : Bool) (n12 : Nat) (c13 : List V) (x14 : Int) (x15 : Int) (x16 : Int) (b17 : Bool) (x18 : Int) (n19 : Nat) (n20 : Nat) (x21 : Int) (c22 : List V) (c23 : List V) : S_graph_Of_47 (N + 1) x0 x1 x2 x3 n4 c5 x6 n7 c8 n9 c10 b11 n12 c13 x14 x15 x16 b17 x18 n19 n20 x21 c22 c23 =
 cond (decide ((n20 + 1) ≤ bound))
 (S_graph_Of_46 N x0 x1 x2 (IntKind.wrap IntKind.i64 (x3 + (1 : Int))) n4 c5 x6 n7 c8 n9 c10 b11 n12 c13 x14 x15 x16 b17 x18 n19 (n20 + 1) x21 c22 (c23 ++ [V.int IntKind.i64 (IntKind.wrap IntKind.i64 (x0 + x3)), V.int IntKind.i64 (0 : Int), V.int IntKind.i64 x1, V.int IntKind.i64 x3, V.int IntKind.i64 x21]))
 none := by kernel_rfl
theorem S_graph_Of_50_eq (N : Nat) (n0 : Nat) (c1 : List V) (x2 : Int) (n3 : Nat) (c4 : List V) (n5 : Nat) (c6 : List V) (b7 : Bool) (n8 : Nat) (c9 : List V) (x10 : Int) (x11 : Int) (x12 : Int) (b13 : Bool) (x14 : Int) (n15 : Nat) (n16 : Nat) (c17 : List V) (c18 : List V) : S_graph_Of_50 (N + 1) n0 c1 x2 n3 c4 n5 c6 b7 n8 c9 x10 x11 x12 b13 x14 n15 n16 c17 c18 =
 cond (x14 == (2 : Int))
 (S_graph_Of_1_3_13 N (7 : Int) ((n15 : Nat) : Int) (1 : Int) (0 : Int) n0 c1 x2 n3 c4 n5 c6 b7 n8 c9 x10 x11 x12 b13 x14 n15 n16 c17 c18 x14 true)
 (S_graph_Of_52 N n15 n16 c17 c18) := by kernel_rfl
theorem S_graph_Of_43_eq (N : Nat) (x0 : Int) (x1 : Int) (x2 : Int) (x3 : Int) (x4 : Int) (x5 : Int) (x6 : Int) (x7 : Int) (x8 : Int) (n9 : Nat) (c10 : List V) (x11 : Int) (n12 : Nat) (c13 : List V) (n14 : Nat) (c15 : List V) (b16 : Bool) (n17 : Nat) (c18 : List V) (x19 : Int) (x20 : Int) (x21 : Int) (b22 : Bool) (x23 : Int) (n24 : Nat) (n25 : Nat) (x26 : Int) (c27 : List V) (c28 : List V) : S_graph_Of_43 (N + 1) x0 x1 x2 x3 x4 x5 x6 x7 x8 n9 c10 x11 n12 c13 n14 c15 b16 n17 c18 x19 x20 x21 b22 x23 n24 n25 x26 c27 c28 =
 S_graph_Of_39 N x0 x1 x2 x3 x4 x5 x6 x7 (IntKind.wrap IntKind.i64 (x8 + (1 : Int))) n9 c10 x11 n12 c13 n14 c15 b16 n17 c18 x19 x20 x21 b22 x23 n24 n25 x26 c27 c28 := by kernel_rfl
theorem S_graph_Of_1_3_13_eq (N : Nat) (x0 : Int) (x1 : Int) (x2 : Int) (x3 : Int) (n4 : Nat) (c5 : List V) (x6 : Int) (n7 : Nat) (c8 : List V) (n9 : Nat) (c10 : List V) (b11 : Bool) (n12 : Nat) (c13 : List V) (x14 : Int) (x15 : Int) (x16 : Int) (b17 : Bool) (x18 : Int) (n19 : Nat) (n20 : Nat) (c21 : List V) (c22 : List V) (x23 : Int) (b24 : Bool) : S_graph_Of_1_3_13 (N + 1) x0 x1 x2 x3 n4 c5 x6 n7 c8 n9 c10 b11 n12 c13 x14 x15 x16 b17 x18 n19 n20 c21 c22 x23 b24 =
 cond (decide (x3 < x2))
 (cond (decide ((n19 + 1) ≤ bound))
  (S_graph_Of_1_3_14 N x0 x1 x2 (IntKind.wrap IntKind.i64 (x3 + (1 : Int))) n4 c5 x6 n7 c8 n9 c10 b11 n12 c13 x14 x15 x16 b17 x18 (n19 + 1) n20 c21 c22 (c21 ++ [V.int IntKind.u8 x0, V.int IntKind.i64 x3]) x23 b24)
  none)
 (S_graph_Of_52 N n19 n20 c21 c22) := by kernel_rfl
theorem S_graph_Of_52_eq (N : Nat) (n0 : Nat) (n1 : Nat) (c2 : List V) (c3 : List V) : S_graph_Of_52 (N + 1) n0 n1 c2 c3 =
 some (V.tup [V.agg [V.sl n0 c2, V.sl n1 c3], V.int IntKind.i64 (0 : Int)]) := by kernel_rfl
theorem S_graph_Of_1_3_14_eq (N : Nat) (x0 : Int) (x1 : Int) (x2 : Int) (x3 : Int) (n4 : Nat) (c5 : List V) (x6 : Int) (n7 : Nat) (c8 : List V) (n9 : Nat) (c10 : List V) (b11 : Bool) (n12 : Nat) (c13 : List V) (x14 : Int) (x15 : Int) (x16 : Int) (b17 : Bool) (x18 : Int) (n19 : Nat) (n20 : Nat) (c21 : List V) (c22 : List V) (c23 : List V) (x24 : Int) (b25 : Bool) : S_graph_Of_1_3_14 (N + 1) x0 x1 x2 x3 n4 c5 x6 n7 c8 n9 c10 b11 n12 c13 x14 x15 x16 b17 x18 n19 n20 c21 c22 c23 x24 b25 =
 cond (decide (x3 < x2))
 (cond (decide ((n19 + 1) ≤ bound))
  (S_graph_Of_1_3_14 N x0 x1 x2 (IntKind.wrap IntKind.i64 (x3 + (1 : Int))) n4 c5 x6 n7 c8 n9 c10 b11 n12 c13 x14 x15 x16 b17 x18 (n19 + 1) n20 c21 c22 (c23 ++ [V.int IntKind.u8 x0, V.int IntKind.i64 x3]) x24 b25)
  none)
 (S_graph_Of_52 N n19 n20 c23 c22) := by kernel_rfl


theorem F_build_Build_1 (N : Nat) (x0 : Int) (n1 : Nat) (c2 : List V) : call cc (N + 1) n_build_Build_1 [V.int IntKind.i64 x0, V.rop [V.sl n1 c2] 0] =
 cond (decide ((0 : Int) ≤ x0))
 (cond (decide (x0 < ((n1 : Nat) : Int)))
 (cond (okT [CK.sl 5] c2 ((Int.toNat x0) * 1))
 ((call cc N n_source_New [V.int IntKind.i64 x0, V.sl (V.slN (cellAt c2 ((Int.toNat x0) * 1))) (V.slC (cellAt c2 ((Int.toNat x0) * 1)))]).bind fun v3 =>
 cond (okRes [(true, [CK.i IntKind.u8, CK.i IntKind.i64, CK.i IntKind.i64, CK.sl 11, CK.sl 1, CK.sl 11, CK.sl 5, CK.sl 5, CK.sl 3]), (false, [CK.i IntKind.i64])] v3)
 (some (V.tup [V.agg [V.int IntKind.u8 (V.toI (cellAt (V.cells (cellAt (V.cs v3) 0)) 0)), V.int IntKind.i64 (V.toI (cellAt (V.cells (cellAt (V.cs v3) 0)) 1)), V.int IntKind.i64 (V.toI (cellAt (V.cells (cellAt (V.cs v3) 0)) 2)), V.sl (V.slN (cellAt (V.cells (cellAt (V.cs v3) 0)) 3)) (V.slC (cellAt (V.cells (cellAt (V.cs v3) 0)) 3)), V.sl (V.slN (cellAt (V.cells (cellAt (V.cs v3) 0)) 4)) (V.slC (cellAt (V.cells (cellAt (V.cs v3) 0)) 4)), V.sl (V.slN (cellAt (V.cells (cellAt (V.cs v3) 0)) 5)) (V.slC (cellAt (V.cells (cellAt (V.cs v3) 0)) 5)), V.sl (V.slN (cellAt (V.cells (cellAt (V.cs v3) 0)) 6)) (V.slC (cellAt (V.cells (cellAt (V.cs v3) 0)) 6)), V.sl (V.slN (cellAt (V.cells (cellAt (V.cs v3) 0)) 7)) (V.slC (cellAt (V.cells (cellAt (V.cs v3) 0)) 7)), V.sl (V.slN (cellAt (V.cells (cellAt (V.cs v3) 0)) 8)) (V.slC (cellAt (V.cells (cellAt (V.cs v3) 0)) 8))], V.int IntKind.i64 (V.toI (cellAt (V.cells (cellAt (V.cs v3) 1)) 0))]))
 none)
 none)
 none)
 none := by kernel_rfl


theorem F_source_New (N : Nat) (x0 : Int) (n1 : Nat) (c2 : List V) : call cc (N + 1) n_source_New [V.int IntKind.i64 x0, V.sl n1 c2] =
 cond (decide (x0 < (0 : Int)))
 (some (V.tup [V.agg [V.int IntKind.u8 (0 : Int), V.int IntKind.i64 (0 : Int), V.int IntKind.i64 (0 : Int), V.sl 0 [], V.sl 0 [], V.sl 0 [], V.sl 0 [], V.sl 0 [], V.sl 0 []], V.int IntKind.i64 (2 : Int)]))
 (cond (decide (x0 ≥ (4 : Int)))
  (some (V.tup [V.agg [V.int IntKind.u8 (0 : Int), V.int IntKind.i64 (0 : Int), V.int IntKind.i64 (0 : Int), V.sl 0 [], V.sl 0 [], V.sl 0 [], V.sl 0 [], V.sl 0 [], V.sl 0 []], V.int IntKind.i64 (2 : Int)]))
  (cond (decide (((n1 : Nat) : Int) > (60 : Int)))
   (some (V.tup [V.agg [V.int IntKind.u8 (0 : Int), V.int IntKind.i64 (0 : Int), V.int IntKind.i64 (0 : Int), V.sl 0 [], V.sl 0 [], V.sl 0 [], V.sl 0 [], V.sl 0 [], V.sl 0 []], V.int IntKind.i64 (4 : Int)]))
   ((call cc N n_slices_ContainsFunc_api_Event_api_Event [V.sl n1 c2, V.fn n_source_New_1 [] []]).bind fun v3 =>
    cond (okRes [(false, [CK.b])] v3)
    (cond (V.toB (cellAt (V.cells v3) 0))
    (some (V.tup [V.agg [V.int IntKind.u8 (0 : Int), V.int IntKind.i64 (0 : Int), V.int IntKind.i64 (0 : Int), V.sl 0 [], V.sl 0 [], V.sl 0 [], V.sl 0 [], V.sl 0 [], V.sl 0 []], V.int IntKind.i64 (8 : Int)]))
    ((call cc N n_slices_Clone_api_Event_api_Event [V.sl n1 c2]).bind fun v4 =>
     cond (okRes [(false, [CK.sl 5])] v4)
     (some (V.tup [V.agg [V.int IntKind.u8 (1 : Int), V.int IntKind.i64 x0, V.int IntKind.i64 (0 : Int), V.sl 0 [], V.sl 0 [], V.sl 0 [], V.sl (V.slN (cellAt (V.cells v4) 0)) (Blk.cells ⟨V.slC (V.sl (V.slN (cellAt (V.cells v4) 0)) (V.slC (cellAt (V.cells v4) 0))), 5, 0, false⟩), V.sl 0 [], V.sl 0 []], V.int IntKind.i64 (0 : Int)]))
     none))
    none))) := by kernel_rfl


theorem F_filter_New (N : Nat) (x0 : Int) : call cc (N + 1) n_filter_New [V.int IntKind.i64 x0] =
 cond (decide (x0 < (0 : Int)))
 (some (V.tup [V.agg [V.int IntKind.u8 (0 : Int), V.int IntKind.i64 (0 : Int), V.int IntKind.i64 (0 : Int), V.sl 0 [], V.sl 0 [], V.sl 0 [], V.sl 0 [], V.sl 0 [], V.sl 0 []], V.int IntKind.i64 (2 : Int)]))
 (cond (decide (x0 ≥ (4 : Int)))
  (some (V.tup [V.agg [V.int IntKind.u8 (0 : Int), V.int IntKind.i64 (0 : Int), V.int IntKind.i64 (0 : Int), V.sl 0 [], V.sl 0 [], V.sl 0 [], V.sl 0 [], V.sl 0 [], V.sl 0 []], V.int IntKind.i64 (2 : Int)]))
  (some (V.tup [V.agg [V.int IntKind.u8 (2 : Int), V.int IntKind.i64 x0, V.int IntKind.i64 (0 : Int), V.sl 0 [], V.sl 1 [V.int IntKind.i64 (-(9223372036854775808 : Int))], V.sl 0 [], V.sl 0 [], V.sl 0 [], V.sl 0 []], V.int IntKind.i64 (0 : Int)]))) := by kernel_rfl


theorem F_part_New (N : Nat) (x0 : Int) : call cc (N + 1) n_part_New [V.int IntKind.i64 x0] =
 cond (decide (x0 < (0 : Int)))
 (some (V.tup [V.agg [V.int IntKind.u8 (0 : Int), V.int IntKind.i64 (0 : Int), V.int IntKind.i64 (0 : Int), V.sl 0 [], V.sl 0 [], V.sl 0 [], V.sl 0 [], V.sl 0 [], V.sl 0 []], V.int IntKind.i64 (2 : Int)]))
 (cond (decide (x0 ≥ (4 : Int)))
  (some (V.tup [V.agg [V.int IntKind.u8 (0 : Int), V.int IntKind.i64 (0 : Int), V.int IntKind.i64 (0 : Int), V.sl 0 [], V.sl 0 [], V.sl 0 [], V.sl 0 [], V.sl 0 [], V.sl 0 []], V.int IntKind.i64 (2 : Int)]))
  (some (V.tup [V.agg [V.int IntKind.u8 (3 : Int), V.int IntKind.i64 x0, V.int IntKind.i64 (0 : Int), V.sl 0 [], V.sl 0 [], V.sl 0 [], V.sl 0 [], V.sl 0 [], V.sl 0 []], V.int IntKind.i64 (0 : Int)]))) := by kernel_rfl


theorem F_build_Build_2 (N : Nat) (x0 : Int) (x1 : Int) (n2 : Nat) (c3 : List V) (n4 : Nat) (c5 : List V) (b6 : Bool) (n7 : Nat) (c8 : List V) (x9 : Int) (x10 : Int) (x11 : Int) (b12 : Bool) (x13 : Int) : call cc (N + 1) n_build_Build_2 [V.int IntKind.i64 x0, V.rop [V.int IntKind.u8 x1, V.sl n2 c3, V.sl n4 c5, V.bool b6, V.sl n7 c8, V.int IntKind.u8 x9, V.int IntKind.i64 x10, V.int IntKind.i64 x11, V.bool b12, V.int IntKind.u8 x13] 0] =
 (call cc N n_agg_New [V.int IntKind.i64 x0, V.int IntKind.i64 ((n4 : Nat) : Int)]).bind fun v14 =>
 cond (okRes [(true, [CK.i IntKind.u8, CK.i IntKind.i64, CK.i IntKind.i64, CK.sl 11, CK.sl 1, CK.sl 11, CK.sl 5, CK.sl 5, CK.sl 3]), (false, [CK.i IntKind.i64])] v14)
 (some (V.tup [V.agg [V.int IntKind.u8 (V.toI (cellAt (V.cells (cellAt (V.cs v14) 0)) 0)), V.int IntKind.i64 (V.toI (cellAt (V.cells (cellAt (V.cs v14) 0)) 1)), V.int IntKind.i64 (V.toI (cellAt (V.cells (cellAt (V.cs v14) 0)) 2)), V.sl (V.slN (cellAt (V.cells (cellAt (V.cs v14) 0)) 3)) (V.slC (cellAt (V.cells (cellAt (V.cs v14) 0)) 3)), V.sl (V.slN (cellAt (V.cells (cellAt (V.cs v14) 0)) 4)) (V.slC (cellAt (V.cells (cellAt (V.cs v14) 0)) 4)), V.sl (V.slN (cellAt (V.cells (cellAt (V.cs v14) 0)) 5)) (V.slC (cellAt (V.cells (cellAt (V.cs v14) 0)) 5)), V.sl (V.slN (cellAt (V.cells (cellAt (V.cs v14) 0)) 6)) (V.slC (cellAt (V.cells (cellAt (V.cs v14) 0)) 6)), V.sl (V.slN (cellAt (V.cells (cellAt (V.cs v14) 0)) 7)) (V.slC (cellAt (V.cells (cellAt (V.cs v14) 0)) 7)), V.sl (V.slN (cellAt (V.cells (cellAt (V.cs v14) 0)) 8)) (V.slC (cellAt (V.cells (cellAt (V.cs v14) 0)) 8))], V.int IntKind.i64 (V.toI (cellAt (V.cells (cellAt (V.cs v14) 1)) 0))]))
 none := by kernel_rfl


theorem F_agg_New (N : Nat) (x0 : Int) (x1 : Int) : call cc (N + 1) n_agg_New [V.int IntKind.i64 x0, V.int IntKind.i64 x1] =
 (call cc N n_marks_New [V.int IntKind.i64 x1]).bind fun v2 =>
 cond (okRes [(false, [CK.sl 1]), (false, [CK.i IntKind.i64])] v2)
 (cond ((V.toI (cellAt (V.cells (cellAt (V.cs v2) 1)) 0)) != (0 : Int))
 (some (V.tup [V.agg [V.int IntKind.u8 (0 : Int), V.int IntKind.i64 (0 : Int), V.int IntKind.i64 (0 : Int), V.sl 0 [], V.sl 0 [], V.sl 0 [], V.sl 0 [], V.sl 0 [], V.sl 0 []], V.int IntKind.i64 (2 : Int)]))
 (cond (decide (x0 < (0 : Int)))
  (some (V.tup [V.agg [V.int IntKind.u8 (0 : Int), V.int IntKind.i64 (0 : Int), V.int IntKind.i64 (0 : Int), V.sl 0 [], V.sl 0 [], V.sl 0 [], V.sl 0 [], V.sl 0 [], V.sl 0 []], V.int IntKind.i64 (2 : Int)]))
  (cond (decide (x0 ≥ (3 : Int)))
   (some (V.tup [V.agg [V.int IntKind.u8 (0 : Int), V.int IntKind.i64 (0 : Int), V.int IntKind.i64 (0 : Int), V.sl 0 [], V.sl 0 [], V.sl 0 [], V.sl 0 [], V.sl 0 [], V.sl 0 []], V.int IntKind.i64 (2 : Int)]))
   (some (V.tup [V.agg [V.int IntKind.u8 (4 : Int), V.int IntKind.i64 x0, V.int IntKind.i64 (0 : Int), V.sl 0 [], V.sl (V.slN (cellAt (V.cells (cellAt (V.cs v2) 0)) 0)) (V.slC (cellAt (V.cells (cellAt (V.cs v2) 0)) 0)), V.sl 0 [], V.sl 0 [], V.sl 0 [], V.sl 0 []], V.int IntKind.i64 (0 : Int)])))))
 none := by kernel_rfl


theorem F_join_New (N : Nat) (x0 : Int) : call cc (N + 1) n_join_New [V.int IntKind.i64 x0] =
 cond (decide (x0 < (0 : Int)))
 (some (V.tup [V.agg [V.int IntKind.u8 (0 : Int), V.int IntKind.i64 (0 : Int), V.int IntKind.i64 (0 : Int), V.sl 0 [], V.sl 0 [], V.sl 0 [], V.sl 0 [], V.sl 0 [], V.sl 0 []], V.int IntKind.i64 (2 : Int)]))
 (cond (decide (x0 ≥ (3 : Int)))
  (some (V.tup [V.agg [V.int IntKind.u8 (0 : Int), V.int IntKind.i64 (0 : Int), V.int IntKind.i64 (0 : Int), V.sl 0 [], V.sl 0 [], V.sl 0 [], V.sl 0 [], V.sl 0 [], V.sl 0 []], V.int IntKind.i64 (2 : Int)]))
  ((call cc N n_marks_New [V.int IntKind.i64 (2 : Int)]).bind fun v1 =>
   cond (okRes [(false, [CK.sl 1]), (false, [CK.i IntKind.i64])] v1)
   (some (V.tup [V.agg [V.int IntKind.u8 (5 : Int), V.int IntKind.i64 x0, V.int IntKind.i64 (0 : Int), V.sl 0 [], V.sl (V.slN (cellAt (V.cells (cellAt (V.cs v1) 0)) 0)) (V.slC (cellAt (V.cells (cellAt (V.cs v1) 0)) 0)), V.sl 0 [], V.sl 0 [], V.sl 0 [], V.sl 0 []], V.int IntKind.i64 (0 : Int)]))
   none)) := by kernel_rfl


theorem F_build_Build_3 (N : Nat) (x0 : Int) : call cc (N + 1) n_build_Build_3 [V.int IntKind.i64 x0] =
 (call cc N n_sink_New [V.bool false]).bind fun v1 =>
 cond (okRes [(true, [CK.i IntKind.u8, CK.i IntKind.i64, CK.i IntKind.i64, CK.sl 11, CK.sl 1, CK.sl 11, CK.sl 5, CK.sl 5, CK.sl 3])] v1)
 (some (V.tup [V.agg [V.int IntKind.u8 (V.toI (cellAt (V.cells v1) 0)), V.int IntKind.i64 (V.toI (cellAt (V.cells v1) 1)), V.int IntKind.i64 (V.toI (cellAt (V.cells v1) 2)), V.sl (V.slN (cellAt (V.cells v1) 3)) (V.slC (cellAt (V.cells v1) 3)), V.sl (V.slN (cellAt (V.cells v1) 4)) (V.slC (cellAt (V.cells v1) 4)), V.sl (V.slN (cellAt (V.cells v1) 5)) (V.slC (cellAt (V.cells v1) 5)), V.sl (V.slN (cellAt (V.cells v1) 6)) (V.slC (cellAt (V.cells v1) 6)), V.sl (V.slN (cellAt (V.cells v1) 7)) (V.slC (cellAt (V.cells v1) 7)), V.sl (V.slN (cellAt (V.cells v1) 8)) (V.slC (cellAt (V.cells v1) 8))], V.int IntKind.i64 (0 : Int)]))
 none := by kernel_rfl


theorem F_sink_New (N : Nat) (b0 : Bool) : call cc (N + 1) n_sink_New [V.bool b0] =
 cond b0
 (some (V.agg [V.int IntKind.u8 (7 : Int), V.int IntKind.i64 (0 : Int), V.int IntKind.i64 (0 : Int), V.sl 0 [], V.sl 0 [], V.sl 0 [], V.sl 0 [], V.sl 0 [], V.sl 0 []]))
 (some (V.agg [V.int IntKind.u8 (6 : Int), V.int IntKind.i64 (0 : Int), V.int IntKind.i64 (0 : Int), V.sl 0 [], V.sl 0 [], V.sl 0 [], V.sl 0 [], V.sl 0 [], V.sl 0 []])) := by kernel_rfl


theorem F_build_Build_4 (N : Nat) (x0 : Int) : call cc (N + 1) n_build_Build_4 [V.int IntKind.i64 x0] =
 (call cc N n_sink_New [V.bool true]).bind fun v1 =>
 cond (okRes [(true, [CK.i IntKind.u8, CK.i IntKind.i64, CK.i IntKind.i64, CK.sl 11, CK.sl 1, CK.sl 11, CK.sl 5, CK.sl 5, CK.sl 3])] v1)
 (some (V.tup [V.agg [V.int IntKind.u8 (V.toI (cellAt (V.cells v1) 0)), V.int IntKind.i64 (V.toI (cellAt (V.cells v1) 1)), V.int IntKind.i64 (V.toI (cellAt (V.cells v1) 2)), V.sl (V.slN (cellAt (V.cells v1) 3)) (V.slC (cellAt (V.cells v1) 3)), V.sl (V.slN (cellAt (V.cells v1) 4)) (V.slC (cellAt (V.cells v1) 4)), V.sl (V.slN (cellAt (V.cells v1) 5)) (V.slC (cellAt (V.cells v1) 5)), V.sl (V.slN (cellAt (V.cells v1) 6)) (V.slC (cellAt (V.cells v1) 6)), V.sl (V.slN (cellAt (V.cells v1) 7)) (V.slC (cellAt (V.cells v1) 7)), V.sl (V.slN (cellAt (V.cells v1) 8)) (V.slC (cellAt (V.cells v1) 8))], V.int IntKind.i64 (0 : Int)]))
 none := by kernel_rfl


theorem F_channel_New (N : Nat) (x0 : Int) : call cc (N + 1) n_channel_New [V.int IntKind.i64 x0] =
 cond (decide (x0 < (1 : Int)))
 (some (V.tup [V.agg [V.int IntKind.i64 (0 : Int), V.sl 0 []], V.int IntKind.i64 (2 : Int)]))
 (cond (decide (x0 > (8 : Int)))
  (some (V.tup [V.agg [V.int IntKind.i64 (0 : Int), V.sl 0 []], V.int IntKind.i64 (2 : Int)]))
  (some (V.tup [V.agg [V.int IntKind.i64 x0, V.sl 0 []], V.int IntKind.i64 (0 : Int)]))) := by kernel_rfl


noncomputable def S_ref36_Asked_7 (N : Nat) (n0 : Nat) (c1 : List V) (x2 : Int) (x3 : Int) (x4 : Int) : Option V := runAt cc N n_ref36_Asked 7 (envOf 55 [(1, V.sl n0 c1), (2, V.int IntKind.i64 x2), (3, V.int IntKind.i64 x3), (11, V.int IntKind.i64 x4)]) [] [] 0
theorem F_ref36_Asked (N : Nat) (x0 : Int) (n1 : Nat) (c2 : List V) (n3 : Nat) (c4 : List V) (b5 : Bool) (n6 : Nat) (c7 : List V) (x8 : Int) (x9 : Int) (x10 : Int) (b11 : Bool) (x12 : Int) (n13 : Nat) (c14 : List V) (x15 : Int) (x16 : Int) : call cc (N + 1) n_ref36_Asked [V.agg [V.int IntKind.u8 x0, V.sl n1 c2, V.sl n3 c4, V.bool b5, V.sl n6 c7, V.int IntKind.u8 x8, V.int IntKind.i64 x9, V.int IntKind.i64 x10, V.bool b11, V.int IntKind.u8 x12], V.sl n13 c14, V.int IntKind.i64 x15, V.int IntKind.i64 x16] =
 (call cc N n_ref10_Check [V.agg [V.int IntKind.u8 x0, V.sl n1 c2, V.sl n3 c4, V.bool b5, V.sl n6 c7, V.int IntKind.u8 x8, V.int IntKind.i64 x9, V.int IntKind.i64 x10, V.bool b11, V.int IntKind.u8 x12]]).bind fun v17 =>
 cond (okRes [(false, [CK.i IntKind.i64]), (false, [CK.i IntKind.i64])] v17)
 (cond ((V.toI (cellAt (V.cells (cellAt (V.cs v17) 1)) 0)) != (0 : Int))
 (some (V.int IntKind.i64 (V.toI (cellAt (V.cells (cellAt (V.cs v17) 1)) 0))))
 (cond (((n13 : Nat) : Int) != ((n3 : Nat) : Int))
  (some (V.int IntKind.i64 (2 : Int)))
  (S_ref36_Asked_7 N n13 c14 x15 x16 (0 : Int))))
 none := by kernel_rfl
theorem S_ref36_Asked_7_eq (N : Nat) (n0 : Nat) (c1 : List V) (x2 : Int) (x3 : Int) (x4 : Int) : S_ref36_Asked_7 (N + 1) n0 c1 x2 x3 x4 =
 cond (decide (x4 < ((n0 : Nat) : Int)))
 (cond (decide ((0 : Int) ≤ x4))
  (cond (decide (x4 < ((n0 : Nat) : Int)))
  (cond (okT [CK.sl 5] c1 ((Int.toNat x4) * 1))
  ((call cc N n_ref20_Check [V.sl (V.slN (cellAt c1 ((Int.toNat x4) * 1))) (V.slC (cellAt c1 ((Int.toNat x4) * 1)))]).bind fun v5 =>
  cond (okRes [(false, [CK.i IntKind.i64])] v5)
  (cond ((V.toI (cellAt (V.cells v5) 0)) != (0 : Int))
  (some (V.int IntKind.i64 (V.toI (cellAt (V.cells v5) 0))))
  (S_ref36_Asked_7 N n0 c1 x2 x3 (IntKind.wrap IntKind.i64 (x4 + (1 : Int)))))
  none)
  none)
  none)
  none)
 (cond (decide (x2 < (1 : Int)))
  (some (V.int IntKind.i64 (2 : Int)))
  (cond (decide (x2 > (3 : Int)))
   (some (V.int IntKind.i64 (2 : Int)))
   (cond (decide (x3 < (1 : Int)))
    (some (V.int IntKind.i64 (2 : Int)))
    (cond (decide (x3 > (8 : Int)))
     (some (V.int IntKind.i64 (2 : Int)))
     (some (V.int IntKind.i64 (0 : Int))))))) := by kernel_rfl


noncomputable def S_ref36_Made_4 (N : Nat) (n0 : Nat) (c1 : List V) (x2 : Int) (x3 : Int) (n4 : Nat) (c5 : List V) (n6 : Nat) (c7 : List V) (b8 : Bool) (n9 : Nat) (c10 : List V) (x11 : Int) (x12 : Int) (x13 : Int) (b14 : Bool) (x15 : Int) (x16 : Int) (b17 : Bool) (x18 : Int) (x19 : Int) (x20 : Int) (b21 : Bool) (x22 : Int) (x23 : Int) (n24 : Nat) (c25 : List V) (n26 : Nat) (c27 : List V) (b28 : Bool) (n29 : Nat) (c30 : List V) (x31 : Int) (x32 : Int) (x33 : Int) (b34 : Bool) (x35 : Int) (n36 : Nat) (c37 : List V) (n38 : Nat) (c39 : List V) (n40 : Nat) (n41 : Nat) (c42 : List V) (c43 : List V) : Option V := runAt cc N n_ref36_Made 4 (envOf 76 [(1, V.sl n0 c1), (4, V.ptr 0 0), (8, V.ptr 1 0), (11, V.ptr 2 0), (12, V.int IntKind.i64 x2)]) [⟨[V.int IntKind.u8 x3, V.sl n4 c5, V.sl n6 c7, V.bool b8, V.sl n9 c10, V.int IntKind.u8 x11, V.int IntKind.i64 x12, V.int IntKind.i64 x13, V.bool b14, V.int IntKind.u8 x15], 1, 0, true⟩, ⟨[V.int IntKind.u8 x16, V.nils, V.nils, V.bool b17, V.nils, V.int IntKind.u8 x18, V.int IntKind.i64 x19, V.int IntKind.i64 x20, V.bool b21, V.int IntKind.u8 x22, V.nils, V.nils, V.nils, V.nils], 1, 0, true⟩, ⟨[V.int IntKind.u8 x23, V.sl n24 c25, V.sl n26 c27, V.bool b28, V.sl n29 c30, V.int IntKind.u8 x31, V.int IntKind.i64 x32, V.int IntKind.i64 x33, V.bool b34, V.int IntKind.u8 x35, V.sl n36 c37, V.sl n38 c39, V.own 3 n40, V.own 4 n41], 1, 0, true⟩, ⟨c42, 9, 0, false⟩, ⟨c43, 2, 0, false⟩] [] 0
noncomputable def S_ref36_Made_6 (N : Nat) (n0 : Nat) (c1 : List V) (x2 : Int) (x3 : Int) (n4 : Nat) (c5 : List V) (n6 : Nat) (c7 : List V) (b8 : Bool) (n9 : Nat) (c10 : List V) (x11 : Int) (x12 : Int) (x13 : Int) (b14 : Bool) (x15 : Int) (x16 : Int) (b17 : Bool) (x18 : Int) (x19 : Int) (x20 : Int) (b21 : Bool) (x22 : Int) (x23 : Int) (n24 : Nat) (c25 : List V) (n26 : Nat) (c27 : List V) (b28 : Bool) (n29 : Nat) (c30 : List V) (x31 : Int) (x32 : Int) (x33 : Int) (b34 : Bool) (x35 : Int) (n36 : Nat) (c37 : List V) (n38 : Nat) (c39 : List V) (n40 : Nat) (n41 : Nat) (c42 : List V) (c43 : List V) : Option V := runAt cc N n_ref36_Made 6 (envOf 76 [(1, V.sl n0 c1), (4, V.ptr 0 0), (8, V.ptr 1 0), (11, V.ptr 2 0), (12, V.int IntKind.i64 x2)]) [⟨[V.int IntKind.u8 x3, V.sl n4 c5, V.sl n6 c7, V.bool b8, V.sl n9 c10, V.int IntKind.u8 x11, V.int IntKind.i64 x12, V.int IntKind.i64 x13, V.bool b14, V.int IntKind.u8 x15], 1, 0, true⟩, ⟨[V.int IntKind.u8 x16, V.nils, V.nils, V.bool b17, V.nils, V.int IntKind.u8 x18, V.int IntKind.i64 x19, V.int IntKind.i64 x20, V.bool b21, V.int IntKind.u8 x22, V.nils, V.nils, V.nils, V.nils], 1, 0, true⟩, ⟨[V.int IntKind.u8 x23, V.sl n24 c25, V.sl n26 c27, V.bool b28, V.sl n29 c30, V.int IntKind.u8 x31, V.int IntKind.i64 x32, V.int IntKind.i64 x33, V.bool b34, V.int IntKind.u8 x35, V.sl n36 c37, V.sl n38 c39, V.own 3 n40, V.own 4 n41], 1, 0, true⟩, ⟨c42, 9, 0, false⟩, ⟨c43, 2, 0, false⟩] [] 0
noncomputable def S_ref36_Made_7 (N : Nat) (x0 : Int) (b1 : Bool) (x2 : Int) (x3 : Int) (x4 : Int) (b5 : Bool) (x6 : Int) (x7 : Int) (n8 : Nat) (c9 : List V) (n10 : Nat) (c11 : List V) (b12 : Bool) (n13 : Nat) (c14 : List V) (x15 : Int) (x16 : Int) (x17 : Int) (b18 : Bool) (x19 : Int) (n20 : Nat) (c21 : List V) (n22 : Nat) (c23 : List V) (n24 : Nat) (n25 : Nat) (c26 : List V) (c27 : List V) : Option V := runAt cc N n_ref36_Made 7 (envOf 76 [(8, V.ptr 0 0), (11, V.ptr 1 0)]) [⟨[V.int IntKind.u8 x0, V.nils, V.nils, V.bool b1, V.nils, V.int IntKind.u8 x2, V.int IntKind.i64 x3, V.int IntKind.i64 x4, V.bool b5, V.int IntKind.u8 x6, V.nils, V.nils, V.nils, V.nils], 1, 0, true⟩, ⟨[V.int IntKind.u8 x7, V.sl n8 c9, V.sl n10 c11, V.bool b12, V.sl n13 c14, V.int IntKind.u8 x15, V.int IntKind.i64 x16, V.int IntKind.i64 x17, V.bool b18, V.int IntKind.u8 x19, V.sl n20 c21, V.sl n22 c23, V.own 2 n24, V.own 3 n25], 1, 0, true⟩, ⟨c26, 9, 0, false⟩, ⟨c27, 2, 0, false⟩] [] 0
noncomputable def S_ref36_Made_8 (N : Nat) (x0 : Int) (x1 : Int) (b2 : Bool) (x3 : Int) (x4 : Int) (x5 : Int) (b6 : Bool) (x7 : Int) (x8 : Int) (n9 : Nat) (c10 : List V) (n11 : Nat) (c12 : List V) (b13 : Bool) (n14 : Nat) (c15 : List V) (x16 : Int) (x17 : Int) (x18 : Int) (b19 : Bool) (x20 : Int) (n21 : Nat) (c22 : List V) (n23 : Nat) (c24 : List V) (n25 : Nat) (n26 : Nat) (c27 : List V) (c28 : List V) : Option V := runAt cc N n_ref36_Made 8 (envOf 76 [(8, V.ptr 0 0), (11, V.ptr 1 0), (13, V.int IntKind.i64 x0)]) [⟨[V.int IntKind.u8 x1, V.nils, V.nils, V.bool b2, V.nils, V.int IntKind.u8 x3, V.int IntKind.i64 x4, V.int IntKind.i64 x5, V.bool b6, V.int IntKind.u8 x7, V.nils, V.nils, V.nils, V.nils], 1, 0, true⟩, ⟨[V.int IntKind.u8 x8, V.sl n9 c10, V.sl n11 c12, V.bool b13, V.sl n14 c15, V.int IntKind.u8 x16, V.int IntKind.i64 x17, V.int IntKind.i64 x18, V.bool b19, V.int IntKind.u8 x20, V.sl n21 c22, V.sl n23 c24, V.own 2 n25, V.own 3 n26], 1, 0, true⟩, ⟨c27, 9, 0, false⟩, ⟨c28, 2, 0, false⟩] [] 0
noncomputable def S_ref36_Made_10 (N : Nat) (x0 : Int) (x1 : Int) (b2 : Bool) (x3 : Int) (x4 : Int) (x5 : Int) (b6 : Bool) (x7 : Int) (x8 : Int) (n9 : Nat) (c10 : List V) (n11 : Nat) (c12 : List V) (b13 : Bool) (n14 : Nat) (c15 : List V) (x16 : Int) (x17 : Int) (x18 : Int) (b19 : Bool) (x20 : Int) (n21 : Nat) (c22 : List V) (n23 : Nat) (c24 : List V) (n25 : Nat) (n26 : Nat) (c27 : List V) (c28 : List V) : Option V := runAt cc N n_ref36_Made 10 (envOf 76 [(8, V.ptr 0 0), (11, V.ptr 1 0), (13, V.int IntKind.i64 x0)]) [⟨[V.int IntKind.u8 x1, V.nils, V.nils, V.bool b2, V.nils, V.int IntKind.u8 x3, V.int IntKind.i64 x4, V.int IntKind.i64 x5, V.bool b6, V.int IntKind.u8 x7, V.nils, V.nils, V.nils, V.nils], 1, 0, true⟩, ⟨[V.int IntKind.u8 x8, V.sl n9 c10, V.sl n11 c12, V.bool b13, V.sl n14 c15, V.int IntKind.u8 x16, V.int IntKind.i64 x17, V.int IntKind.i64 x18, V.bool b19, V.int IntKind.u8 x20, V.sl n21 c22, V.sl n23 c24, V.own 2 n25, V.own 3 n26], 1, 0, true⟩, ⟨c27, 9, 0, false⟩, ⟨c28, 2, 0, false⟩] [] 0
noncomputable def S_ref36_Made_12 (N : Nat) (x0 : Int) (b1 : Bool) (x2 : Int) (x3 : Int) (x4 : Int) (b5 : Bool) (x6 : Int) (x7 : Int) (n8 : Nat) (c9 : List V) (n10 : Nat) (c11 : List V) (b12 : Bool) (n13 : Nat) (c14 : List V) (x15 : Int) (x16 : Int) (x17 : Int) (b18 : Bool) (x19 : Int) (n20 : Nat) (c21 : List V) (n22 : Nat) (c23 : List V) (n24 : Nat) (n25 : Nat) (c26 : List V) (c27 : List V) : Option V := runAt cc N n_ref36_Made 12 (envOf 76 [(8, V.ptr 0 0), (11, V.ptr 1 0)]) [⟨[V.int IntKind.u8 x0, V.nils, V.nils, V.bool b1, V.nils, V.int IntKind.u8 x2, V.int IntKind.i64 x3, V.int IntKind.i64 x4, V.bool b5, V.int IntKind.u8 x6, V.nils, V.nils, V.nils, V.nils], 1, 0, true⟩, ⟨[V.int IntKind.u8 x7, V.sl n8 c9, V.sl n10 c11, V.bool b12, V.sl n13 c14, V.int IntKind.u8 x15, V.int IntKind.i64 x16, V.int IntKind.i64 x17, V.bool b18, V.int IntKind.u8 x19, V.sl n20 c21, V.sl n22 c23, V.own 2 n24, V.own 3 n25], 1, 0, true⟩, ⟨c26, 9, 0, false⟩, ⟨c27, 2, 0, false⟩] [] 0
theorem F_ref36_Made (N : Nat) (x0 : Int) (n1 : Nat) (c2 : List V) (n3 : Nat) (c4 : List V) (b5 : Bool) (n6 : Nat) (c7 : List V) (x8 : Int) (x9 : Int) (x10 : Int) (b11 : Bool) (x12 : Int) (n13 : Nat) (c14 : List V) (x15 : Int) (x16 : Int) : call cc (N + 1) n_ref36_Made [V.agg [V.int IntKind.u8 x0, V.sl n1 c2, V.sl n3 c4, V.bool b5, V.sl n6 c7, V.int IntKind.u8 x8, V.int IntKind.i64 x9, V.int IntKind.i64 x10, V.bool b11, V.int IntKind.u8 x12], V.sl n13 c14, V.int IntKind.i64 x15, V.int IntKind.i64 x16] =
 (call cc N n_ref22_Of [V.agg [V.int IntKind.u8 x0, V.sl n1 c2, V.sl n3 c4, V.bool b5, V.sl n6 c7, V.int IntKind.u8 x8, V.int IntKind.i64 x9, V.int IntKind.i64 x10, V.bool b11, V.int IntKind.u8 x12]]).bind fun v17 =>
 cond (okRes [(true, [CK.sl 1, CK.i IntKind.u8, CK.sl 5, CK.sl 1, CK.b, CK.sl 5, CK.i IntKind.u8, CK.i IntKind.i64, CK.i IntKind.i64, CK.b, CK.i IntKind.u8]), (false, [CK.i IntKind.i64])] v17)
 ((call cc N n_ref08_Twin [V.agg [V.int IntKind.u8 x0, V.sl n1 c2, V.sl n3 c4, V.bool b5, V.sl n6 c7, V.int IntKind.u8 x8, V.int IntKind.i64 x9, V.int IntKind.i64 x10, V.bool b11, V.int IntKind.u8 x12]]).bind fun v18 =>
 cond (okRes [(true, [CK.i IntKind.u8, CK.sl 5, CK.sl 1, CK.b, CK.sl 5, CK.i IntKind.u8, CK.i IntKind.i64, CK.i IntKind.i64, CK.b, CK.i IntKind.u8])] v18)
 ((call cc N n_ref24_Made [V.agg [V.sl (V.slN (cellAt (V.cells (cellAt (V.cs v17) 0)) 0)) (V.slC (cellAt (V.cells (cellAt (V.cs v17) 0)) 0)), V.int IntKind.u8 (V.toI (cellAt (V.cells (cellAt (V.cs v17) 0)) 1)), V.sl (V.slN (cellAt (V.cells (cellAt (V.cs v17) 0)) 2)) (V.slC (cellAt (V.cells (cellAt (V.cs v17) 0)) 2)), V.sl (V.slN (cellAt (V.cells (cellAt (V.cs v17) 0)) 3)) (V.slC (cellAt (V.cells (cellAt (V.cs v17) 0)) 3)), V.bool (V.toB (cellAt (V.cells (cellAt (V.cs v17) 0)) 4)), V.sl (V.slN (cellAt (V.cells (cellAt (V.cs v17) 0)) 5)) (V.slC (cellAt (V.cells (cellAt (V.cs v17) 0)) 5)), V.int IntKind.u8 (V.toI (cellAt (V.cells (cellAt (V.cs v17) 0)) 6)), V.int IntKind.i64 (V.toI (cellAt (V.cells (cellAt (V.cs v17) 0)) 7)), V.int IntKind.i64 (V.toI (cellAt (V.cells (cellAt (V.cs v17) 0)) 8)), V.bool (V.toB (cellAt (V.cells (cellAt (V.cs v17) 0)) 9)), V.int IntKind.u8 (V.toI (cellAt (V.cells (cellAt (V.cs v17) 0)) 10))], V.int IntKind.i64 x15, V.int IntKind.i64 x16]).bind fun v19 =>
 cond (okRes [(true, [CK.sl 2, CK.sl 5])] v19)
 (S_ref36_Made_4 N n13 c14 (0 : Int) x0 n1 c2 n3 c4 b5 n6 c7 x8 x9 x10 b11 x12 (0 : Int) false (0 : Int) (0 : Int) (0 : Int) false (0 : Int) (V.toI (cellAt (V.cells v18) 0)) (V.slN (cellAt (V.cells v18) 1)) (V.slC (cellAt (V.cells v18) 1)) (V.slN (cellAt (V.cells v18) 2)) (V.slC (cellAt (V.cells v18) 2)) (V.toB (cellAt (V.cells v18) 3)) (V.slN (cellAt (V.cells v18) 4)) (V.slC (cellAt (V.cells v18) 4)) (V.toI (cellAt (V.cells v18) 5)) (V.toI (cellAt (V.cells v18) 6)) (V.toI (cellAt (V.cells v18) 7)) (V.toB (cellAt (V.cells v18) 8)) (V.toI (cellAt (V.cells v18) 9)) (V.slN (cellAt (V.cells v19) 0)) (V.slC (cellAt (V.cells v19) 0)) (V.slN (cellAt (V.cells v19) 1)) (V.slC (cellAt (V.cells v19) 1)) 0 0 [] [])
 none)
 none)
 none := by kernel_rfl
theorem S_ref36_Made_4_eq (N : Nat) (n0 : Nat) (c1 : List V) (x2 : Int) (x3 : Int) (n4 : Nat) (c5 : List V) (n6 : Nat) (c7 : List V) (b8 : Bool) (n9 : Nat) (c10 : List V) (x11 : Int) (x12 : Int) (x13 : Int) (b14 : Bool) (x15 : Int) (x16 : Int) (b17 : Bool) (x18 : Int) (x19 : Int) (x20 : Int) (b21 : Bool) (x22 : Int) (x23 : Int) (n24 : Nat) (c25 : List V) (n26 : Nat) (c27 : List V) (b28 : Bool) (n29 : Nat) (c30 : List V) (x31 : Int) (x32 : Int) (x33 : Int) (b34 : Bool) (x35 : Int) (n36 : Nat) (c37 : List V) (n38 : Nat) (c39 : List V) (n40 : Nat) (n41 : Nat) (c42 : List V) (c43 : List V) : S_ref36_Made_4 (N + 1) n0 c1 x2 x3 n4 c5 n6 c7 b8 n9 c10 x11 x12 x13 b14 x15 x16 b17 x18 x19 x20 b21 x22 x23 n24 c25 n26 c27 b28 n29 c30 x31 x32 x33 b34 x35 n36 c37 n38 c39 n40 n41 c42 c43 =
 cond (decide (x2 < ((n36 : Nat) : Int)))
 (S_ref36_Made_6 N n0 c1 x2 x3 n4 c5 n6 c7 b8 n9 c10 x11 x12 x13 b14 x15 x16 b17 x18 x19 x20 b21 x22 x23 n24 c25 n26 c27 b28 n29 c30 x31 x32 x33 b34 x35 n36 c37 n38 c39 n40 n41 c42 c43)
 (S_ref36_Made_7 N x16 b17 x18 x19 x20 b21 x22 x23 n24 c25 n26 c27 b28 n29 c30 x31 x32 x33 b34 x35 n36 c37 n38 c39 n40 n41 c42 c43) := by kernel_rfl
theorem S_ref36_Made_6_eq (N : Nat) (n0 : Nat) (c1 : List V) (x2 : Int) (x3 : Int) (n4 : Nat) (c5 : List V) (n6 : Nat) (c7 : List V) (b8 : Bool) (n9 : Nat) (c10 : List V) (x11 : Int) (x12 : Int) (x13 : Int) (b14 : Bool) (x15 : Int) (x16 : Int) (b17 : Bool) (x18 : Int) (x19 : Int) (x20 : Int) (b21 : Bool) (x22 : Int) (x23 : Int) (n24 : Nat) (c25 : List V) (n26 : Nat) (c27 : List V) (b28 : Bool) (n29 : Nat) (c30 : List V) (x31 : Int) (x32 : Int) (x33 : Int) (b34 : Bool) (x35 : Int) (n36 : Nat) (c37 : List V) (n38 : Nat) (c39 : List V) (n40 : Nat) (n41 : Nat) (c42 : List V) (c43 : List V) : S_ref36_Made_6 (N + 1) n0 c1 x2 x3 n4 c5 n6 c7 b8 n9 c10 x11 x12 x13 b14 x15 x16 b17 x18 x19 x20 b21 x22 x23 n24 c25 n26 c27 b28 n29 c30 x31 x32 x33 b34 x35 n36 c37 n38 c39 n40 n41 c42 c43 =
 cond (decide ((0 : Int) ≤ x2))
 (cond (decide (x2 < ((n36 : Nat) : Int)))
 (cond (okT [CK.i IntKind.u8, CK.i IntKind.i64] c37 ((Int.toNat x2) * 2))
 ((call cc N n_ref36_fresh [V.agg [V.int IntKind.u8 x3, V.sl n4 c5, V.sl n6 c7, V.bool b8, V.sl n9 c10, V.int IntKind.u8 x11, V.int IntKind.i64 x12, V.int IntKind.i64 x13, V.bool b14, V.int IntKind.u8 x15], V.sl n0 c1, V.agg [V.int IntKind.u8 (V.toI (cellAt c37 ((Int.toNat x2) * 2))), V.int IntKind.i64 (V.toI (cellAt c37 (((Int.toNat x2) * 2) + 1)))]]).bind fun v44 =>
 cond (okRes [(true, [CK.i IntKind.u8, CK.i IntKind.i64, CK.i IntKind.i64, CK.sl 11, CK.sl 1, CK.sl 11, CK.sl 5, CK.sl 5, CK.sl 3])] v44)
 (cond (decide ((n40 + 1) ≤ bound))
 (S_ref36_Made_4 N n0 c1 (IntKind.wrap IntKind.i64 (x2 + (1 : Int))) x3 n4 c5 n6 c7 b8 n9 c10 x11 x12 x13 b14 x15 x16 b17 x18 x19 x20 b21 x22 x23 n24 c25 n26 c27 b28 n29 c30 x31 x32 x33 b34 x35 n36 c37 n38 c39 (n40 + 1) n41 (c42 ++ [V.int IntKind.u8 (V.toI (cellAt (V.cells v44) 0)), V.int IntKind.i64 (V.toI (cellAt (V.cells v44) 1)), V.int IntKind.i64 (V.toI (cellAt (V.cells v44) 2)), V.sl (V.slN (cellAt (V.cells v44) 3)) (V.slC (cellAt (V.cells v44) 3)), V.sl (V.slN (cellAt (V.cells v44) 4)) (V.slC (cellAt (V.cells v44) 4)), V.sl (V.slN (cellAt (V.cells v44) 5)) (V.slC (cellAt (V.cells v44) 5)), V.sl (V.slN (cellAt (V.cells v44) 6)) (V.slC (cellAt (V.cells v44) 6)), V.sl (V.slN (cellAt (V.cells v44) 7)) (V.slC (cellAt (V.cells v44) 7)), V.sl (V.slN (cellAt (V.cells v44) 8)) (V.slC (cellAt (V.cells v44) 8))]) c43)
 none)
 none)
 none)
 none)
 none := by kernel_rfl
theorem S_ref36_Made_7_eq (N : Nat) (x0 : Int) (b1 : Bool) (x2 : Int) (x3 : Int) (x4 : Int) (b5 : Bool) (x6 : Int) (x7 : Int) (n8 : Nat) (c9 : List V) (n10 : Nat) (c11 : List V) (b12 : Bool) (n13 : Nat) (c14 : List V) (x15 : Int) (x16 : Int) (x17 : Int) (b18 : Bool) (x19 : Int) (n20 : Nat) (c21 : List V) (n22 : Nat) (c23 : List V) (n24 : Nat) (n25 : Nat) (c26 : List V) (c27 : List V) : S_ref36_Made_7 (N + 1) x0 b1 x2 x3 x4 b5 x6 x7 n8 c9 n10 c11 b12 n13 c14 x15 x16 x17 b18 x19 n20 c21 n22 c23 n24 n25 c26 c27 =
 S_ref36_Made_8 N (0 : Int) x0 b1 x2 x3 x4 b5 x6 x7 n8 c9 n10 c11 b12 n13 c14 x15 x16 x17 b18 x19 n20 c21 n22 c23 n24 n25 c26 c27 := by kernel_rfl
theorem S_ref36_Made_8_eq (N : Nat) (x0 : Int) (x1 : Int) (b2 : Bool) (x3 : Int) (x4 : Int) (x5 : Int) (b6 : Bool) (x7 : Int) (x8 : Int) (n9 : Nat) (c10 : List V) (n11 : Nat) (c12 : List V) (b13 : Bool) (n14 : Nat) (c15 : List V) (x16 : Int) (x17 : Int) (x18 : Int) (b19 : Bool) (x20 : Int) (n21 : Nat) (c22 : List V) (n23 : Nat) (c24 : List V) (n25 : Nat) (n26 : Nat) (c27 : List V) (c28 : List V) : S_ref36_Made_8 (N + 1) x0 x1 b2 x3 x4 x5 b6 x7 x8 n9 c10 n11 c12 b13 n14 c15 x16 x17 x18 b19 x20 n21 c22 n23 c24 n25 n26 c27 c28 =
 cond (decide (x0 < ((n23 : Nat) : Int)))
 (S_ref36_Made_10 N x0 x1 b2 x3 x4 x5 b6 x7 x8 n9 c10 n11 c12 b13 n14 c15 x16 x17 x18 b19 x20 n21 c22 n23 c24 n25 n26 c27 c28)
 (S_ref36_Made_12 N x1 b2 x3 x4 x5 b6 x7 x8 n9 c10 n11 c12 b13 n14 c15 x16 x17 x18 b19 x20 n21 c22 n23 c24 n25 n26 c27 c28) := by kernel_rfl
theorem S_ref36_Made_10_eq (N : Nat) (x0 : Int) (x1 : Int) (b2 : Bool) (x3 : Int) (x4 : Int) (x5 : Int) (b6 : Bool) (x7 : Int) (x8 : Int) (n9 : Nat) (c10 : List V) (n11 : Nat) (c12 : List V) (b13 : Bool) (n14 : Nat) (c15 : List V) (x16 : Int) (x17 : Int) (x18 : Int) (b19 : Bool) (x20 : Int) (n21 : Nat) (c22 : List V) (n23 : Nat) (c24 : List V) (n25 : Nat) (n26 : Nat) (c27 : List V) (c28 : List V) : S_ref36_Made_10 (N + 1) x0 x1 b2 x3 x4 x5 b6 x7 x8 n9 c10 n11 c12 b13 n14 c15 x16 x17 x18 b19 x20 n21 c22 n23 c24 n25 n26 c27 c28 =
 cond (decide ((0 : Int) ≤ x0))
 (cond (decide (x0 < ((n23 : Nat) : Int)))
 (cond (okT [CK.i IntKind.i64] c24 (((Int.toNat x0) * 5) + 4))
 ((call cc N n_ref26_New [V.int IntKind.i64 (V.toI (cellAt c24 (((Int.toNat x0) * 5) + 4)))]).bind fun v29 =>
 cond (okRes [(true, [CK.i IntKind.i64, CK.sl 10]), (false, [CK.i IntKind.i64])] v29)
 (cond (decide ((n26 + 1) ≤ bound))
 (S_ref36_Made_8 N (IntKind.wrap IntKind.i64 (x0 + (1 : Int))) x1 b2 x3 x4 x5 b6 x7 x8 n9 c10 n11 c12 b13 n14 c15 x16 x17 x18 b19 x20 n21 c22 n23 c24 n25 (n26 + 1) c27 (c28 ++ [V.int IntKind.i64 (V.toI (cellAt (V.cells (cellAt (V.cs v29) 0)) 0)), V.sl (V.slN (cellAt (V.cells (cellAt (V.cs v29) 0)) 1)) (V.slC (cellAt (V.cells (cellAt (V.cs v29) 0)) 1))]))
 none)
 none)
 none)
 none)
 none := by kernel_rfl
theorem S_ref36_Made_12_eq (N : Nat) (x0 : Int) (b1 : Bool) (x2 : Int) (x3 : Int) (x4 : Int) (b5 : Bool) (x6 : Int) (x7 : Int) (n8 : Nat) (c9 : List V) (n10 : Nat) (c11 : List V) (b12 : Bool) (n13 : Nat) (c14 : List V) (x15 : Int) (x16 : Int) (x17 : Int) (b18 : Bool) (x19 : Int) (n20 : Nat) (c21 : List V) (n22 : Nat) (c23 : List V) (n24 : Nat) (n25 : Nat) (c26 : List V) (c27 : List V) : S_ref36_Made_12 (N + 1) x0 b1 x2 x3 x4 b5 x6 x7 n8 c9 n10 c11 b12 n13 c14 x15 x16 x17 b18 x19 n20 c21 n22 c23 n24 n25 c26 c27 =
 some (V.agg [V.int IntKind.u8 x7, V.sl n8 c9, V.sl n10 c11, V.bool b12, V.sl n13 c14, V.int IntKind.u8 x15, V.int IntKind.i64 x16, V.int IntKind.i64 x17, V.bool b18, V.int IntKind.u8 x19, V.sl n20 c21, V.sl n22 c23, V.sl n24 c26, V.sl n25 c27]) := by kernel_rfl


theorem F_ref08_Alike (N : Nat) (x0 : Int) (n1 : Nat) (c2 : List V) (n3 : Nat) (c4 : List V) (b5 : Bool) (n6 : Nat) (c7 : List V) (x8 : Int) (x9 : Int) (x10 : Int) (b11 : Bool) (x12 : Int) (x13 : Int) (n14 : Nat) (c15 : List V) (n16 : Nat) (c17 : List V) (b18 : Bool) (n19 : Nat) (c20 : List V) (x21 : Int) (x22 : Int) (x23 : Int) (b24 : Bool) (x25 : Int) : call cc (N + 1) n_ref08_Alike [V.agg [V.int IntKind.u8 x0, V.sl n1 c2, V.sl n3 c4, V.bool b5, V.sl n6 c7, V.int IntKind.u8 x8, V.int IntKind.i64 x9, V.int IntKind.i64 x10, V.bool b11, V.int IntKind.u8 x12], V.agg [V.int IntKind.u8 x13, V.sl n14 c15, V.sl n16 c17, V.bool b18, V.sl n19 c20, V.int IntKind.u8 x21, V.int IntKind.i64 x22, V.int IntKind.i64 x23, V.bool b24, V.int IntKind.u8 x25]] =
 cond (x0 == x13)
 ((call cc N n_ref04_Alike [V.sl n1 c2, V.sl n14 c15]).bind fun v26 =>
  cond (okRes [(false, [CK.b])] v26)
  (cond (V.toB (cellAt (V.cells v26) 0))
  ((call cc N n_ref08_SameSources [V.sl n3 c4, V.sl n16 c17]).bind fun v27 =>
   cond (okRes [(false, [CK.b])] v27)
   (cond (V.toB (cellAt (V.cells v27) 0))
   (cond b5
    (cond b18
     ((call cc N n_ref04_Alike [V.sl n6 c7, V.sl n19 c20]).bind fun v28 =>
      cond (okRes [(false, [CK.b])] v28)
      (cond (V.toB (cellAt (V.cells v28) 0))
      (cond ((x8 == x21) && ((x9 == x22) && ((x10 == x23) && true)))
       (cond b11
        (cond b24
         (cond (x12 == x25)
          (some (V.bool true))
          (some (V.bool false)))
         (some (V.bool false)))
        (cond b24
         (some (V.bool false))
         (cond (x12 == x25)
          (some (V.bool true))
          (some (V.bool false)))))
       (some (V.bool false)))
      (some (V.bool false)))
      none)
     (some (V.bool false)))
    (cond b18
     (some (V.bool false))
     ((call cc N n_ref04_Alike [V.sl n6 c7, V.sl n19 c20]).bind fun v29 =>
      cond (okRes [(false, [CK.b])] v29)
      (cond (V.toB (cellAt (V.cells v29) 0))
      (cond ((x8 == x21) && ((x9 == x22) && ((x10 == x23) && true)))
       (cond b11
        (cond b24
         (cond (x12 == x25)
          (some (V.bool true))
          (some (V.bool false)))
         (some (V.bool false)))
        (cond b24
         (some (V.bool false))
         (cond (x12 == x25)
          (some (V.bool true))
          (some (V.bool false)))))
       (some (V.bool false)))
      (some (V.bool false)))
      none)))
   (some (V.bool false)))
   none)
  (some (V.bool false)))
  none)
 (some (V.bool false)) := by kernel_rfl


noncomputable def S_ref24_Same_4 (N : Nat) (x0 : Int) (n1 : Nat) (c2 : List V) (n3 : Nat) (c4 : List V) (n5 : Nat) (c6 : List V) (n7 : Nat) (c8 : List V) : Option V := runAt cc N n_ref24_Same 4 (envOf 59 [(2, V.ptr 0 0), (3, V.ptr 1 0), (5, V.int IntKind.i64 x0)]) [⟨[V.sl n1 c2, V.sl n3 c4], 1, 0, true⟩, ⟨[V.sl n5 c6, V.sl n7 c8], 1, 0, true⟩] [] 0
noncomputable def S_ref24_Same_9 (N : Nat) (x0 : Int) (n1 : Nat) (c2 : List V) (n3 : Nat) (c4 : List V) (n5 : Nat) (c6 : List V) (n7 : Nat) (c8 : List V) : Option V := runAt cc N n_ref24_Same 9 (envOf 59 [(2, V.ptr 0 0), (3, V.ptr 1 0), (6, V.int IntKind.i64 x0)]) [⟨[V.sl n1 c2, V.sl n3 c4], 1, 0, true⟩, ⟨[V.sl n5 c6, V.sl n7 c8], 1, 0, true⟩] [] 0
theorem F_ref24_Same (N : Nat) (n0 : Nat) (c1 : List V) (n2 : Nat) (c3 : List V) (n4 : Nat) (c5 : List V) (n6 : Nat) (c7 : List V) : call cc (N + 1) n_ref24_Same [V.agg [V.sl n0 c1, V.sl n2 c3], V.agg [V.sl n4 c5, V.sl n6 c7]] =
 cond (((n0 : Nat) : Int) != ((n4 : Nat) : Int))
 (some (V.bool false))
 (cond (((n2 : Nat) : Int) != ((n6 : Nat) : Int))
  (some (V.bool false))
  (S_ref24_Same_4 N (0 : Int) n0 c1 n2 c3 n4 c5 n6 c7)) := by kernel_rfl
theorem S_ref24_Same_4_eq (N : Nat) (x0 : Int) (n1 : Nat) (c2 : List V) (n3 : Nat) (c4 : List V) (n5 : Nat) (c6 : List V) (n7 : Nat) (c8 : List V) : S_ref24_Same_4 (N + 1) x0 n1 c2 n3 c4 n5 c6 n7 c8 =
 cond (decide (x0 < ((n1 : Nat) : Int)))
 (cond (decide ((0 : Int) ≤ x0))
  (cond (decide (x0 < ((n1 : Nat) : Int)))
  (cond (okT [CK.i IntKind.u8, CK.i IntKind.i64] c2 ((Int.toNat x0) * 2))
  (cond (decide ((0 : Int) ≤ x0))
  (cond (decide (x0 < ((n5 : Nat) : Int)))
  (cond (okT [CK.i IntKind.u8, CK.i IntKind.i64] c6 ((Int.toNat x0) * 2))
  (cond (!(((V.toI (cellAt c2 ((Int.toNat x0) * 2))) == (V.toI (cellAt c6 ((Int.toNat x0) * 2)))) && (((V.toI (cellAt c2 (((Int.toNat x0) * 2) + 1))) == (V.toI (cellAt c6 (((Int.toNat x0) * 2) + 1)))) && true)))
  (some (V.bool false))
  (S_ref24_Same_4 N (IntKind.wrap IntKind.i64 (x0 + (1 : Int))) n1 c2 n3 c4 n5 c6 n7 c8))
  none)
  none)
  none)
  none)
  none)
  none)
 (S_ref24_Same_9 N (0 : Int) n1 c2 n3 c4 n5 c6 n7 c8) := by kernel_rfl
theorem S_ref24_Same_9_eq (N : Nat) (x0 : Int) (n1 : Nat) (c2 : List V) (n3 : Nat) (c4 : List V) (n5 : Nat) (c6 : List V) (n7 : Nat) (c8 : List V) : S_ref24_Same_9 (N + 1) x0 n1 c2 n3 c4 n5 c6 n7 c8 =
 cond (decide (x0 < ((n3 : Nat) : Int)))
 (cond (decide ((0 : Int) ≤ x0))
  (cond (decide (x0 < ((n3 : Nat) : Int)))
  (cond (okT [CK.i IntKind.i64, CK.i IntKind.i64, CK.i IntKind.i64, CK.i IntKind.i64, CK.i IntKind.i64] c4 ((Int.toNat x0) * 5))
  (cond (decide ((0 : Int) ≤ x0))
  (cond (decide (x0 < ((n7 : Nat) : Int)))
  (cond (okT [CK.i IntKind.i64, CK.i IntKind.i64, CK.i IntKind.i64, CK.i IntKind.i64, CK.i IntKind.i64] c8 ((Int.toNat x0) * 5))
  (cond (!(((V.toI (cellAt c4 ((Int.toNat x0) * 5))) == (V.toI (cellAt c8 ((Int.toNat x0) * 5)))) && (((V.toI (cellAt c4 (((Int.toNat x0) * 5) + 1))) == (V.toI (cellAt c8 (((Int.toNat x0) * 5) + 1)))) && (((V.toI (cellAt c4 ((((Int.toNat x0) * 5) + 1) + 1))) == (V.toI (cellAt c8 ((((Int.toNat x0) * 5) + 1) + 1)))) && (((V.toI (cellAt c4 (((((Int.toNat x0) * 5) + 1) + 1) + 1))) == (V.toI (cellAt c8 (((((Int.toNat x0) * 5) + 1) + 1) + 1)))) && (((V.toI (cellAt c4 ((((((Int.toNat x0) * 5) + 1) + 1) + 1) + 1))) == (V.toI (cellAt c8 ((((((Int.toNat x0) * 5) + 1) + 1) + 1) + 1)))) && true))))))
  (some (V.bool false))
  (S_ref24_Same_9 N (IntKind.wrap IntKind.i64 (x0 + (1 : Int))) n1 c2 n3 c4 n5 c6 n7 c8))
  none)
  none)
  none)
  none)
  none)
  none)
 (some (V.bool true)) := by kernel_rfl


noncomputable def S_ref35_Same_4 (N : Nat) (x0 : Int) (x1 : Int) (n2 : Nat) (c3 : List V) (n4 : Nat) (c5 : List V) (b6 : Bool) (n7 : Nat) (c8 : List V) (x9 : Int) (x10 : Int) (x11 : Int) (b12 : Bool) (x13 : Int) (n14 : Nat) (c15 : List V) (n16 : Nat) (c17 : List V) (n18 : Nat) (c19 : List V) (n20 : Nat) (c21 : List V) (x22 : Int) (n23 : Nat) (c24 : List V) (n25 : Nat) (c26 : List V) (b27 : Bool) (n28 : Nat) (c29 : List V) (x30 : Int) (x31 : Int) (x32 : Int) (b33 : Bool) (x34 : Int) (n35 : Nat) (c36 : List V) (n37 : Nat) (c38 : List V) (n39 : Nat) (c40 : List V) (n41 : Nat) (c42 : List V) : Option V := runAt cc N n_ref35_Same 4 (envOf 40 [(2, V.ptr 0 0), (3, V.ptr 1 0), (5, V.int IntKind.i64 x0)]) [⟨[V.int IntKind.u8 x1, V.sl n2 c3, V.sl n4 c5, V.bool b6, V.sl n7 c8, V.int IntKind.u8 x9, V.int IntKind.i64 x10, V.int IntKind.i64 x11, V.bool b12, V.int IntKind.u8 x13, V.sl n14 c15, V.sl n16 c17, V.sl n18 c19, V.sl n20 c21], 1, 0, true⟩, ⟨[V.int IntKind.u8 x22, V.sl n23 c24, V.sl n25 c26, V.bool b27, V.sl n28 c29, V.int IntKind.u8 x30, V.int IntKind.i64 x31, V.int IntKind.i64 x32, V.bool b33, V.int IntKind.u8 x34, V.sl n35 c36, V.sl n37 c38, V.sl n39 c40, V.sl n41 c42], 1, 0, true⟩] [] 0
theorem F_ref35_Same (N : Nat) (x0 : Int) (n1 : Nat) (c2 : List V) (n3 : Nat) (c4 : List V) (b5 : Bool) (n6 : Nat) (c7 : List V) (x8 : Int) (x9 : Int) (x10 : Int) (b11 : Bool) (x12 : Int) (n13 : Nat) (c14 : List V) (n15 : Nat) (c16 : List V) (n17 : Nat) (c18 : List V) (n19 : Nat) (c20 : List V) (x21 : Int) (n22 : Nat) (c23 : List V) (n24 : Nat) (c25 : List V) (b26 : Bool) (n27 : Nat) (c28 : List V) (x29 : Int) (x30 : Int) (x31 : Int) (b32 : Bool) (x33 : Int) (n34 : Nat) (c35 : List V) (n36 : Nat) (c37 : List V) (n38 : Nat) (c39 : List V) (n40 : Nat) (c41 : List V) : call cc (N + 1) n_ref35_Same [V.agg [V.int IntKind.u8 x0, V.sl n1 c2, V.sl n3 c4, V.bool b5, V.sl n6 c7, V.int IntKind.u8 x8, V.int IntKind.i64 x9, V.int IntKind.i64 x10, V.bool b11, V.int IntKind.u8 x12, V.sl n13 c14, V.sl n15 c16, V.sl n17 c18, V.sl n19 c20], V.agg [V.int IntKind.u8 x21, V.sl n22 c23, V.sl n24 c25, V.bool b26, V.sl n27 c28, V.int IntKind.u8 x29, V.int IntKind.i64 x30, V.int IntKind.i64 x31, V.bool b32, V.int IntKind.u8 x33, V.sl n34 c35, V.sl n36 c37, V.sl n38 c39, V.sl n40 c41]] =
 cond (((n17 : Nat) : Int) != ((n38 : Nat) : Int))
 (some (V.bool false))
 ((call cc N n_ref26_SameAll [V.sl n19 c20, V.sl n40 c41]).bind fun v42 =>
  cond (okRes [(false, [CK.b])] v42)
  (cond (V.toB (cellAt (V.cells v42) 0))
  (S_ref35_Same_4 N (0 : Int) x0 n1 c2 n3 c4 b5 n6 c7 x8 x9 x10 b11 x12 n13 c14 n15 c16 n17 c18 n19 c20 x21 n22 c23 n24 c25 b26 n27 c28 x29 x30 x31 b32 x33 n34 c35 n36 c37 n38 c39 n40 c41)
  (some (V.bool false)))
  none) := by kernel_rfl
theorem S_ref35_Same_4_eq (N : Nat) (x0 : Int) (x1 : Int) (n2 : Nat) (c3 : List V) (n4 : Nat) (c5 : List V) (b6 : Bool) (n7 : Nat) (c8 : List V) (x9 : Int) (x10 : Int) (x11 : Int) (b12 : Bool) (x13 : Int) (n14 : Nat) (c15 : List V) (n16 : Nat) (c17 : List V) (n18 : Nat) (c19 : List V) (n20 : Nat) (c21 : List V) (x22 : Int) (n23 : Nat) (c24 : List V) (n25 : Nat) (c26 : List V) (b27 : Bool) (n28 : Nat) (c29 : List V) (x30 : Int) (x31 : Int) (x32 : Int) (b33 : Bool) (x34 : Int) (n35 : Nat) (c36 : List V) (n37 : Nat) (c38 : List V) (n39 : Nat) (c40 : List V) (n41 : Nat) (c42 : List V) : S_ref35_Same_4 (N + 1) x0 x1 n2 c3 n4 c5 b6 n7 c8 x9 x10 x11 b12 x13 n14 c15 n16 c17 n18 c19 n20 c21 x22 n23 c24 n25 c26 b27 n28 c29 x30 x31 x32 b33 x34 n35 c36 n37 c38 n39 c40 n41 c42 =
 cond (decide (x0 < ((n18 : Nat) : Int)))
 (cond (decide ((0 : Int) ≤ x0))
  (cond (decide (x0 < ((n18 : Nat) : Int)))
  (cond (okT [CK.i IntKind.u8, CK.i IntKind.i64, CK.i IntKind.i64, CK.sl 11, CK.sl 1, CK.sl 11, CK.sl 5, CK.sl 5, CK.sl 3] c19 ((Int.toNat x0) * 9))
  (cond (decide ((0 : Int) ≤ x0))
  (cond (decide (x0 < ((n39 : Nat) : Int)))
  (cond (okT [CK.i IntKind.u8, CK.i IntKind.i64, CK.i IntKind.i64, CK.sl 11, CK.sl 1, CK.sl 11, CK.sl 5, CK.sl 5, CK.sl 3] c40 ((Int.toNat x0) * 9))
  ((call cc N n_ref27_Same [V.agg [V.int IntKind.u8 (V.toI (cellAt c19 ((Int.toNat x0) * 9))), V.int IntKind.i64 (V.toI (cellAt c19 (((Int.toNat x0) * 9) + 1))), V.int IntKind.i64 (V.toI (cellAt c19 ((((Int.toNat x0) * 9) + 1) + 1))), V.sl (V.slN (cellAt c19 (((((Int.toNat x0) * 9) + 1) + 1) + 1))) (V.slC (cellAt c19 (((((Int.toNat x0) * 9) + 1) + 1) + 1))), V.sl (V.slN (cellAt c19 ((((((Int.toNat x0) * 9) + 1) + 1) + 1) + 1))) (V.slC (cellAt c19 ((((((Int.toNat x0) * 9) + 1) + 1) + 1) + 1))), V.sl (V.slN (cellAt c19 (((((((Int.toNat x0) * 9) + 1) + 1) + 1) + 1) + 1))) (V.slC (cellAt c19 (((((((Int.toNat x0) * 9) + 1) + 1) + 1) + 1) + 1))), V.sl (V.slN (cellAt c19 ((((((((Int.toNat x0) * 9) + 1) + 1) + 1) + 1) + 1) + 1))) (V.slC (cellAt c19 ((((((((Int.toNat x0) * 9) + 1) + 1) + 1) + 1) + 1) + 1))), V.sl (V.slN (cellAt c19 (((((((((Int.toNat x0) * 9) + 1) + 1) + 1) + 1) + 1) + 1) + 1))) (V.slC (cellAt c19 (((((((((Int.toNat x0) * 9) + 1) + 1) + 1) + 1) + 1) + 1) + 1))), V.sl (V.slN (cellAt c19 ((((((((((Int.toNat x0) * 9) + 1) + 1) + 1) + 1) + 1) + 1) + 1) + 1))) (V.slC (cellAt c19 ((((((((((Int.toNat x0) * 9) + 1) + 1) + 1) + 1) + 1) + 1) + 1) + 1)))], V.agg [V.int IntKind.u8 (V.toI (cellAt c40 ((Int.toNat x0) * 9))), V.int IntKind.i64 (V.toI (cellAt c40 (((Int.toNat x0) * 9) + 1))), V.int IntKind.i64 (V.toI (cellAt c40 ((((Int.toNat x0) * 9) + 1) + 1))), V.sl (V.slN (cellAt c40 (((((Int.toNat x0) * 9) + 1) + 1) + 1))) (V.slC (cellAt c40 (((((Int.toNat x0) * 9) + 1) + 1) + 1))), V.sl (V.slN (cellAt c40 ((((((Int.toNat x0) * 9) + 1) + 1) + 1) + 1))) (V.slC (cellAt c40 ((((((Int.toNat x0) * 9) + 1) + 1) + 1) + 1))), V.sl (V.slN (cellAt c40 (((((((Int.toNat x0) * 9) + 1) + 1) + 1) + 1) + 1))) (V.slC (cellAt c40 (((((((Int.toNat x0) * 9) + 1) + 1) + 1) + 1) + 1))), V.sl (V.slN (cellAt c40 ((((((((Int.toNat x0) * 9) + 1) + 1) + 1) + 1) + 1) + 1))) (V.slC (cellAt c40 ((((((((Int.toNat x0) * 9) + 1) + 1) + 1) + 1) + 1) + 1))), V.sl (V.slN (cellAt c40 (((((((((Int.toNat x0) * 9) + 1) + 1) + 1) + 1) + 1) + 1) + 1))) (V.slC (cellAt c40 (((((((((Int.toNat x0) * 9) + 1) + 1) + 1) + 1) + 1) + 1) + 1))), V.sl (V.slN (cellAt c40 ((((((((((Int.toNat x0) * 9) + 1) + 1) + 1) + 1) + 1) + 1) + 1) + 1))) (V.slC (cellAt c40 ((((((((((Int.toNat x0) * 9) + 1) + 1) + 1) + 1) + 1) + 1) + 1) + 1)))]]).bind fun v43 =>
  cond (okRes [(false, [CK.b])] v43)
  (cond (V.toB (cellAt (V.cells v43) 0))
  (S_ref35_Same_4 N (IntKind.wrap IntKind.i64 (x0 + (1 : Int))) x1 n2 c3 n4 c5 b6 n7 c8 x9 x10 x11 b12 x13 n14 c15 n16 c17 n18 c19 n20 c21 x22 n23 c24 n25 c26 b27 n28 c29 x30 x31 x32 b33 x34 n35 c36 n37 c38 n39 c40 n41 c42)
  (some (V.bool false)))
  none)
  none)
  none)
  none)
  none)
  none)
  none)
 (some (V.bool true)) := by kernel_rfl


theorem F_ref04_Great (N : Nat) (n0 : Nat) (c1 : List V) : call cc (N + 1) n_ref04_Great [V.sl n0 c1] =
 cond (decide (((n0 : Nat) : Int) > (70 : Int)))
 (some (V.bool true))
 (some (V.bool false)) := by kernel_rfl


noncomputable def S_clauses_Check_3 (N : Nat) (x0 : Int) (n1 : Nat) (c2 : List V) (n3 : Nat) (c4 : List V) (b5 : Bool) (n6 : Nat) (c7 : List V) (x8 : Int) (x9 : Int) (x10 : Int) (b11 : Bool) (x12 : Int) : Option V := runAt cc N n_clauses_Check 3 (envOf 66 [(1, V.ptr 0 0)]) [⟨[V.int IntKind.u8 x0, V.sl n1 c2, V.sl n3 c4, V.bool b5, V.sl n6 c7, V.int IntKind.u8 x8, V.int IntKind.i64 x9, V.int IntKind.i64 x10, V.bool b11, V.int IntKind.u8 x12], 1, 0, true⟩] [] 0
noncomputable def S_clauses_Check_9 (N : Nat) (x0 : Int) (n1 : Nat) (c2 : List V) (n3 : Nat) (c4 : List V) (b5 : Bool) (n6 : Nat) (c7 : List V) (x8 : Int) (x9 : Int) (x10 : Int) (b11 : Bool) (x12 : Int) : Option V := runAt cc N n_clauses_Check 9 (envOf 66 [(1, V.ptr 0 0)]) [⟨[V.int IntKind.u8 x0, V.sl n1 c2, V.sl n3 c4, V.bool b5, V.sl n6 c7, V.int IntKind.u8 x8, V.int IntKind.i64 x9, V.int IntKind.i64 x10, V.bool b11, V.int IntKind.u8 x12], 1, 0, true⟩] [] 0
noncomputable def S_clauses_Check_13 (N : Nat) (x0 : Int) (n1 : Nat) (c2 : List V) (n3 : Nat) (c4 : List V) (b5 : Bool) (n6 : Nat) (c7 : List V) (x8 : Int) (x9 : Int) (x10 : Int) (b11 : Bool) (x12 : Int) : Option V := runAt cc N n_clauses_Check 13 (envOf 66 [(1, V.ptr 0 0)]) [⟨[V.int IntKind.u8 x0, V.sl n1 c2, V.sl n3 c4, V.bool b5, V.sl n6 c7, V.int IntKind.u8 x8, V.int IntKind.i64 x9, V.int IntKind.i64 x10, V.bool b11, V.int IntKind.u8 x12], 1, 0, true⟩] [] 0
noncomputable def S_clauses_Check_16 (N : Nat) (x0 : Int) (n1 : Nat) (c2 : List V) (n3 : Nat) (c4 : List V) (b5 : Bool) (n6 : Nat) (c7 : List V) (x8 : Int) (x9 : Int) (x10 : Int) (b11 : Bool) (x12 : Int) : Option V := runAt cc N n_clauses_Check 16 (envOf 66 [(1, V.ptr 0 0)]) [⟨[V.int IntKind.u8 x0, V.sl n1 c2, V.sl n3 c4, V.bool b5, V.sl n6 c7, V.int IntKind.u8 x8, V.int IntKind.i64 x9, V.int IntKind.i64 x10, V.bool b11, V.int IntKind.u8 x12], 1, 0, true⟩] [] 0
noncomputable def S_clauses_Check_18 (N : Nat) (x0 : Int) (n1 : Nat) (c2 : List V) (n3 : Nat) (c4 : List V) (b5 : Bool) (n6 : Nat) (c7 : List V) (x8 : Int) (x9 : Int) (x10 : Int) (b11 : Bool) (x12 : Int) : Option V := runAt cc N n_clauses_Check 18 (envOf 66 [(1, V.ptr 0 0)]) [⟨[V.int IntKind.u8 x0, V.sl n1 c2, V.sl n3 c4, V.bool b5, V.sl n6 c7, V.int IntKind.u8 x8, V.int IntKind.i64 x9, V.int IntKind.i64 x10, V.bool b11, V.int IntKind.u8 x12], 1, 0, true⟩] [] 0
theorem F_clauses_Check (N : Nat) (x0 : Int) (n1 : Nat) (c2 : List V) (n3 : Nat) (c4 : List V) (b5 : Bool) (n6 : Nat) (c7 : List V) (x8 : Int) (x9 : Int) (x10 : Int) (b11 : Bool) (x12 : Int) : call cc (N + 1) n_clauses_Check [V.agg [V.int IntKind.u8 x0, V.sl n1 c2, V.sl n3 c4, V.bool b5, V.sl n6 c7, V.int IntKind.u8 x8, V.int IntKind.i64 x9, V.int IntKind.i64 x10, V.bool b11, V.int IntKind.u8 x12]] =
 cond (decide (x0 < (1 : Int)))
 (some (V.int IntKind.i64 (8 : Int)))
 (cond (decide (x0 > (4 : Int)))
  (some (V.int IntKind.i64 (8 : Int)))
  (cond (x12 != (1 : Int))
   (cond (x12 != (2 : Int))
    (some (V.int IntKind.i64 (8 : Int)))
    (S_clauses_Check_3 N x0 n1 c2 n3 c4 b5 n6 c7 x8 x9 x10 b11 x12))
   (S_clauses_Check_3 N x0 n1 c2 n3 c4 b5 n6 c7 x8 x9 x10 b11 x12))) := by kernel_rfl
theorem S_clauses_Check_3_eq (N : Nat) (x0 : Int) (n1 : Nat) (c2 : List V) (n3 : Nat) (c4 : List V) (b5 : Bool) (n6 : Nat) (c7 : List V) (x8 : Int) (x9 : Int) (x10 : Int) (b11 : Bool) (x12 : Int) : S_clauses_Check_3 (N + 1) x0 n1 c2 n3 c4 b5 n6 c7 x8 x9 x10 b11 x12 =
 cond (x0 != (1 : Int))
 ((call cc N n_nodes_Check [V.sl n1 c2]).bind fun v13 =>
  cond (okRes [(false, [CK.i IntKind.i64])] v13)
  (cond ((V.toI (cellAt (V.cells v13) 0)) != (0 : Int))
  (some (V.int IntKind.i64 (V.toI (cellAt (V.cells v13) 0))))
  (S_clauses_Check_9 N x0 n1 c2 n3 c4 b5 n6 c7 x8 x9 x10 b11 x12))
  none)
 (cond (decide (((n1 : Nat) : Int) > (0 : Int)))
  (some (V.int IntKind.i64 (8 : Int)))
  (S_clauses_Check_9 N x0 n1 c2 n3 c4 b5 n6 c7 x8 x9 x10 b11 x12)) := by kernel_rfl
theorem S_clauses_Check_9_eq (N : Nat) (x0 : Int) (n1 : Nat) (c2 : List V) (n3 : Nat) (c4 : List V) (b5 : Bool) (n6 : Nat) (c7 : List V) (x8 : Int) (x9 : Int) (x10 : Int) (b11 : Bool) (x12 : Int) : S_clauses_Check_9 (N + 1) x0 n1 c2 n3 c4 b5 n6 c7 x8 x9 x10 b11 x12 =
 cond (decide (((n6 : Nat) : Int) > (0 : Int)))
 ((call cc N n_nodes_Check [V.sl n6 c7]).bind fun v13 =>
  cond (okRes [(false, [CK.i IntKind.i64])] v13)
  (cond ((V.toI (cellAt (V.cells v13) 0)) != (0 : Int))
  (some (V.int IntKind.i64 (V.toI (cellAt (V.cells v13) 0))))
  (S_clauses_Check_13 N x0 n1 c2 n3 c4 b5 n6 c7 x8 x9 x10 b11 x12))
  none)
 (S_clauses_Check_13 N x0 n1 c2 n3 c4 b5 n6 c7 x8 x9 x10 b11 x12) := by kernel_rfl
theorem S_clauses_Check_13_eq (N : Nat) (x0 : Int) (n1 : Nat) (c2 : List V) (n3 : Nat) (c4 : List V) (b5 : Bool) (n6 : Nat) (c7 : List V) (x8 : Int) (x9 : Int) (x10 : Int) (b11 : Bool) (x12 : Int) : S_clauses_Check_13 (N + 1) x0 n1 c2 n3 c4 b5 n6 c7 x8 x9 x10 b11 x12 =
 cond b5
 ((call cc N n_clauses_Sources [V.sl n3 c4, V.bool true]).bind fun v13 =>
  cond (okRes [(false, [CK.i IntKind.i64])] v13)
  (cond ((V.toI (cellAt (V.cells v13) 0)) != (0 : Int))
  (some (V.int IntKind.i64 (V.toI (cellAt (V.cells v13) 0))))
  (S_clauses_Check_16 N x0 n1 c2 n3 c4 b5 n6 c7 x8 x9 x10 b11 x12))
  none)
 ((call cc N n_clauses_Sources [V.sl n3 c4, V.bool false]).bind fun v14 =>
  cond (okRes [(false, [CK.i IntKind.i64])] v14)
  (cond ((V.toI (cellAt (V.cells v14) 0)) != (0 : Int))
  (some (V.int IntKind.i64 (V.toI (cellAt (V.cells v14) 0))))
  (S_clauses_Check_16 N x0 n1 c2 n3 c4 b5 n6 c7 x8 x9 x10 b11 x12))
  none) := by kernel_rfl
theorem S_clauses_Check_16_eq (N : Nat) (x0 : Int) (n1 : Nat) (c2 : List V) (n3 : Nat) (c4 : List V) (b5 : Bool) (n6 : Nat) (c7 : List V) (x8 : Int) (x9 : Int) (x10 : Int) (b11 : Bool) (x12 : Int) : S_clauses_Check_16 (N + 1) x0 n1 c2 n3 c4 b5 n6 c7 x8 x9 x10 b11 x12 =
 cond b5
 (cond (x8 != (1 : Int))
  (some (V.int IntKind.i64 (8 : Int)))
  (S_clauses_Check_18 N x0 n1 c2 n3 c4 b5 n6 c7 x8 x9 x10 b11 x12))
 (S_clauses_Check_18 N x0 n1 c2 n3 c4 b5 n6 c7 x8 x9 x10 b11 x12) := by kernel_rfl
theorem S_clauses_Check_18_eq (N : Nat) (x0 : Int) (n1 : Nat) (c2 : List V) (n3 : Nat) (c4 : List V) (b5 : Bool) (n6 : Nat) (c7 : List V) (x8 : Int) (x9 : Int) (x10 : Int) (b11 : Bool) (x12 : Int) : S_clauses_Check_18 (N + 1) x0 n1 c2 n3 c4 b5 n6 c7 x8 x9 x10 b11 x12 =
 (call cc N n_clauses_Window [V.agg [V.int IntKind.u8 x8, V.int IntKind.i64 x9, V.int IntKind.i64 x10]]).bind fun v13 =>
 cond (okRes [(false, [CK.i IntKind.i64])] v13)
 (some (V.int IntKind.i64 (V.toI (cellAt (V.cells v13) 0))))
 none := by kernel_rfl


theorem F_checks_first_a (N : Nat) (n0 : Nat) (c1 : List V) (n2 : Nat) (c3 : List V) : call cc (N + 1) n_checks_first [V.sl 2 [V.sl n0 c1, V.fn n_kinds_Number [] [], V.sl n2 c3, V.fn n_kinds_Truth [] []]] =
 cond (((n0 : Nat) : Int) == (0 : Int))
 (cond (((n2 : Nat) : Int) == (0 : Int))
  (some (V.tup [V.int IntKind.i64 (0 : Int), V.int IntKind.i64 (0 : Int)]))
  ((call cc N n_kinds_Truth [V.sl n2 c3]).bind fun v4 =>
   cond (okRes [(false, [CK.i IntKind.i64]), (false, [CK.i IntKind.i64])] v4)
   (cond ((V.toI (cellAt (V.cells (cellAt (V.cs v4) 1)) 0)) != (0 : Int))
   (cond (decide ((0 : Int) ≤ (V.toI (cellAt (V.cells (cellAt (V.cs v4) 0)) 0))))
    (cond (decide ((V.toI (cellAt (V.cells (cellAt (V.cs v4) 0)) 0)) < ((n2 : Nat) : Int)))
    (cond (okT [CK.i IntKind.i64] c3 (((Int.toNat (V.toI (cellAt (V.cells (cellAt (V.cs v4) 0)) 0))) * 5) + 4))
    (some (V.tup [V.int IntKind.i64 (V.toI (cellAt c3 (((Int.toNat (V.toI (cellAt (V.cells (cellAt (V.cs v4) 0)) 0))) * 5) + 4))), V.int IntKind.i64 (V.toI (cellAt (V.cells (cellAt (V.cs v4) 1)) 0))]))
    none)
    none)
    none)
   (some (V.tup [V.int IntKind.i64 (0 : Int), V.int IntKind.i64 (0 : Int)])))
   none))
 ((call cc N n_kinds_Number [V.sl n0 c1]).bind fun v5 =>
  cond (okRes [(false, [CK.i IntKind.i64]), (false, [CK.i IntKind.i64])] v5)
  (cond ((V.toI (cellAt (V.cells (cellAt (V.cs v5) 1)) 0)) != (0 : Int))
  (cond (decide ((0 : Int) ≤ (V.toI (cellAt (V.cells (cellAt (V.cs v5) 0)) 0))))
   (cond (decide ((V.toI (cellAt (V.cells (cellAt (V.cs v5) 0)) 0)) < ((n0 : Nat) : Int)))
   (cond (okT [CK.i IntKind.i64] c1 (((Int.toNat (V.toI (cellAt (V.cells (cellAt (V.cs v5) 0)) 0))) * 5) + 4))
   (some (V.tup [V.int IntKind.i64 (V.toI (cellAt c1 (((Int.toNat (V.toI (cellAt (V.cells (cellAt (V.cs v5) 0)) 0))) * 5) + 4))), V.int IntKind.i64 (V.toI (cellAt (V.cells (cellAt (V.cs v5) 1)) 0))]))
   none)
   none)
   none)
  (cond (((n2 : Nat) : Int) == (0 : Int))
   (some (V.tup [V.int IntKind.i64 (0 : Int), V.int IntKind.i64 (0 : Int)]))
   ((call cc N n_kinds_Truth [V.sl n2 c3]).bind fun v6 =>
    cond (okRes [(false, [CK.i IntKind.i64]), (false, [CK.i IntKind.i64])] v6)
    (cond ((V.toI (cellAt (V.cells (cellAt (V.cs v6) 1)) 0)) != (0 : Int))
    (cond (decide ((0 : Int) ≤ (V.toI (cellAt (V.cells (cellAt (V.cs v6) 0)) 0))))
     (cond (decide ((V.toI (cellAt (V.cells (cellAt (V.cs v6) 0)) 0)) < ((n2 : Nat) : Int)))
     (cond (okT [CK.i IntKind.i64] c3 (((Int.toNat (V.toI (cellAt (V.cells (cellAt (V.cs v6) 0)) 0))) * 5) + 4))
     (some (V.tup [V.int IntKind.i64 (V.toI (cellAt c3 (((Int.toNat (V.toI (cellAt (V.cells (cellAt (V.cs v6) 0)) 0))) * 5) + 4))), V.int IntKind.i64 (V.toI (cellAt (V.cells (cellAt (V.cs v6) 1)) 0))]))
     none)
     none)
     none)
    (some (V.tup [V.int IntKind.i64 (0 : Int), V.int IntKind.i64 (0 : Int)])))
    none)))
  none) := by kernel_rfl


theorem F_kinds_Number (N : Nat) (n0 : Nat) (c1 : List V) : call cc (N + 1) n_kinds_Number [V.sl n0 c1] =
 (call cc N n_kinds_want [V.sl n0 c1, V.bool false]).bind fun v2 =>
 cond (okRes [(false, [CK.i IntKind.i64]), (false, [CK.i IntKind.i64])] v2)
 (some (V.tup [V.int IntKind.i64 (V.toI (cellAt (V.cells (cellAt (V.cs v2) 0)) 0)), V.int IntKind.i64 (V.toI (cellAt (V.cells (cellAt (V.cs v2) 1)) 0))]))
 none := by kernel_rfl


theorem F_kinds_Truth (N : Nat) (n0 : Nat) (c1 : List V) : call cc (N + 1) n_kinds_Truth [V.sl n0 c1] =
 (call cc N n_kinds_want [V.sl n0 c1, V.bool true]).bind fun v2 =>
 cond (okRes [(false, [CK.i IntKind.i64]), (false, [CK.i IntKind.i64])] v2)
 (some (V.tup [V.int IntKind.i64 (V.toI (cellAt (V.cells (cellAt (V.cs v2) 0)) 0)), V.int IntKind.i64 (V.toI (cellAt (V.cells (cellAt (V.cs v2) 1)) 0))]))
 none := by kernel_rfl


theorem F_late_time (N : Nat) (x0 : Int) : call cc (N + 1) n_late_time [V.int IntKind.i64 x0] =
 cond (decide (x0 ≥ (-(1099511627776 : Int))))
 (cond (decide (x0 ≤ (1099511627776 : Int)))
  (some (V.bool true))
  (some (V.bool false)))
 (some (V.bool false)) := by kernel_rfl


theorem F_plan_steps (N : Nat) (x0 : Int) (n1 : Nat) (c2 : List V) (n3 : Nat) (c4 : List V) (b5 : Bool) (n6 : Nat) (c7 : List V) (x8 : Int) (x9 : Int) (x10 : Int) (b11 : Bool) (x12 : Int) : call cc (N + 1) n_plan_steps [V.agg [V.int IntKind.u8 x0, V.sl n1 c2, V.sl n3 c4, V.bool b5, V.sl n6 c7, V.int IntKind.u8 x8, V.int IntKind.i64 x9, V.int IntKind.i64 x10, V.bool b11, V.int IntKind.u8 x12]] =
 cond (decide (((n6 : Nat) : Int) > (0 : Int)))
 (cond b11
  (cond b5
   (cond (x12 == (2 : Int))
    (some (V.sl 9 [V.int IntKind.u8 (1 : Int), V.int IntKind.u8 (2 : Int), V.int IntKind.u8 (3 : Int), V.int IntKind.u8 (4 : Int), V.int IntKind.u8 (5 : Int), V.int IntKind.u8 (6 : Int), V.int IntKind.u8 (8 : Int), V.int IntKind.u8 (9 : Int), V.int IntKind.u8 (10 : Int)]))
    (some (V.sl 8 [V.int IntKind.u8 (1 : Int), V.int IntKind.u8 (2 : Int), V.int IntKind.u8 (3 : Int), V.int IntKind.u8 (4 : Int), V.int IntKind.u8 (5 : Int), V.int IntKind.u8 (6 : Int), V.int IntKind.u8 (8 : Int), V.int IntKind.u8 (9 : Int)])))
   (cond (x12 == (2 : Int))
    (some (V.sl 9 [V.int IntKind.u8 (1 : Int), V.int IntKind.u8 (2 : Int), V.int IntKind.u8 (3 : Int), V.int IntKind.u8 (4 : Int), V.int IntKind.u8 (5 : Int), V.int IntKind.u8 (6 : Int), V.int IntKind.u8 (7 : Int), V.int IntKind.u8 (9 : Int), V.int IntKind.u8 (10 : Int)]))
    (some (V.sl 8 [V.int IntKind.u8 (1 : Int), V.int IntKind.u8 (2 : Int), V.int IntKind.u8 (3 : Int), V.int IntKind.u8 (4 : Int), V.int IntKind.u8 (5 : Int), V.int IntKind.u8 (6 : Int), V.int IntKind.u8 (7 : Int), V.int IntKind.u8 (9 : Int)]))))
  (cond b5
   (cond (x12 == (2 : Int))
    (some (V.sl 8 [V.int IntKind.u8 (1 : Int), V.int IntKind.u8 (2 : Int), V.int IntKind.u8 (3 : Int), V.int IntKind.u8 (4 : Int), V.int IntKind.u8 (6 : Int), V.int IntKind.u8 (8 : Int), V.int IntKind.u8 (9 : Int), V.int IntKind.u8 (10 : Int)]))
    (some (V.sl 7 [V.int IntKind.u8 (1 : Int), V.int IntKind.u8 (2 : Int), V.int IntKind.u8 (3 : Int), V.int IntKind.u8 (4 : Int), V.int IntKind.u8 (6 : Int), V.int IntKind.u8 (8 : Int), V.int IntKind.u8 (9 : Int)])))
   (cond (x12 == (2 : Int))
    (some (V.sl 8 [V.int IntKind.u8 (1 : Int), V.int IntKind.u8 (2 : Int), V.int IntKind.u8 (3 : Int), V.int IntKind.u8 (4 : Int), V.int IntKind.u8 (6 : Int), V.int IntKind.u8 (7 : Int), V.int IntKind.u8 (9 : Int), V.int IntKind.u8 (10 : Int)]))
    (some (V.sl 7 [V.int IntKind.u8 (1 : Int), V.int IntKind.u8 (2 : Int), V.int IntKind.u8 (3 : Int), V.int IntKind.u8 (4 : Int), V.int IntKind.u8 (6 : Int), V.int IntKind.u8 (7 : Int), V.int IntKind.u8 (9 : Int)])))))
 (cond b11
  (cond b5
   (cond (x12 == (2 : Int))
    (some (V.sl 8 [V.int IntKind.u8 (1 : Int), V.int IntKind.u8 (2 : Int), V.int IntKind.u8 (4 : Int), V.int IntKind.u8 (5 : Int), V.int IntKind.u8 (6 : Int), V.int IntKind.u8 (8 : Int), V.int IntKind.u8 (9 : Int), V.int IntKind.u8 (10 : Int)]))
    (some (V.sl 7 [V.int IntKind.u8 (1 : Int), V.int IntKind.u8 (2 : Int), V.int IntKind.u8 (4 : Int), V.int IntKind.u8 (5 : Int), V.int IntKind.u8 (6 : Int), V.int IntKind.u8 (8 : Int), V.int IntKind.u8 (9 : Int)])))
   (cond (x12 == (2 : Int))
    (some (V.sl 8 [V.int IntKind.u8 (1 : Int), V.int IntKind.u8 (2 : Int), V.int IntKind.u8 (4 : Int), V.int IntKind.u8 (5 : Int), V.int IntKind.u8 (6 : Int), V.int IntKind.u8 (7 : Int), V.int IntKind.u8 (9 : Int), V.int IntKind.u8 (10 : Int)]))
    (some (V.sl 7 [V.int IntKind.u8 (1 : Int), V.int IntKind.u8 (2 : Int), V.int IntKind.u8 (4 : Int), V.int IntKind.u8 (5 : Int), V.int IntKind.u8 (6 : Int), V.int IntKind.u8 (7 : Int), V.int IntKind.u8 (9 : Int)]))))
  (cond b5
   (cond (x12 == (2 : Int))
    (some (V.sl 7 [V.int IntKind.u8 (1 : Int), V.int IntKind.u8 (2 : Int), V.int IntKind.u8 (4 : Int), V.int IntKind.u8 (6 : Int), V.int IntKind.u8 (8 : Int), V.int IntKind.u8 (9 : Int), V.int IntKind.u8 (10 : Int)]))
    (some (V.sl 6 [V.int IntKind.u8 (1 : Int), V.int IntKind.u8 (2 : Int), V.int IntKind.u8 (4 : Int), V.int IntKind.u8 (6 : Int), V.int IntKind.u8 (8 : Int), V.int IntKind.u8 (9 : Int)])))
   (cond (x12 == (2 : Int))
    (some (V.sl 7 [V.int IntKind.u8 (1 : Int), V.int IntKind.u8 (2 : Int), V.int IntKind.u8 (4 : Int), V.int IntKind.u8 (6 : Int), V.int IntKind.u8 (7 : Int), V.int IntKind.u8 (9 : Int), V.int IntKind.u8 (10 : Int)]))
    (some (V.sl 6 [V.int IntKind.u8 (1 : Int), V.int IntKind.u8 (2 : Int), V.int IntKind.u8 (4 : Int), V.int IntKind.u8 (6 : Int), V.int IntKind.u8 (7 : Int), V.int IntKind.u8 (9 : Int)]))))) := by kernel_rfl


theorem F_plan_Check (N : Nat) (n0 : Nat) (c1 : List V) (x2 : Int) (n3 : Nat) (c4 : List V) (n5 : Nat) (c6 : List V) (b7 : Bool) (n8 : Nat) (c9 : List V) (x10 : Int) (x11 : Int) (x12 : Int) (b13 : Bool) (x14 : Int) : call cc (N + 1) n_plan_Check [V.agg [V.sl n0 c1, V.int IntKind.u8 x2, V.sl n3 c4, V.sl n5 c6, V.bool b7, V.sl n8 c9, V.int IntKind.u8 x10, V.int IntKind.i64 x11, V.int IntKind.i64 x12, V.bool b13, V.int IntKind.u8 x14]] =
 (call cc N n_checks_Check [V.agg [V.int IntKind.u8 x2, V.sl n3 c4, V.sl n5 c6, V.bool b7, V.sl n8 c9, V.int IntKind.u8 x10, V.int IntKind.i64 x11, V.int IntKind.i64 x12, V.bool b13, V.int IntKind.u8 x14]]).bind fun v15 =>
 cond (okRes [(false, [CK.i IntKind.i64]), (false, [CK.i IntKind.i64])] v15)
 (cond ((V.toI (cellAt (V.cells (cellAt (V.cs v15) 1)) 0)) != (0 : Int))
 (some (V.int IntKind.i64 (V.toI (cellAt (V.cells (cellAt (V.cs v15) 1)) 0))))
 ((call cc N n_plan_steps [V.agg [V.int IntKind.u8 x2, V.sl n3 c4, V.sl n5 c6, V.bool b7, V.sl n8 c9, V.int IntKind.u8 x10, V.int IntKind.i64 x11, V.int IntKind.i64 x12, V.bool b13, V.int IntKind.u8 x14]]).bind fun v16 =>
  cond (okRes [(false, [CK.sl 1])] v16)
  ((call cc N n_slices_Equal_uint8_uint8 [V.sl n0 c1, V.sl (V.slN (cellAt (V.cells v16) 0)) (V.slC (cellAt (V.cells v16) 0))]).bind fun v17 =>
  cond (okRes [(false, [CK.b])] v17)
  (cond (V.toB (cellAt (V.cells v17) 0))
  (some (V.int IntKind.i64 (0 : Int)))
  (some (V.int IntKind.i64 (8 : Int))))
  none)
  none))
 none := by kernel_rfl


theorem F_source_New_1 (N : Nat) (b0 : Bool) (x1 : Int) (x2 : Int) (x3 : Int) (x4 : Int) : call cc (N + 1) n_source_New_1 [V.agg [V.bool b0, V.int IntKind.i64 x1, V.int IntKind.i64 x2, V.int IntKind.i64 x3, V.int IntKind.i64 x4]] =
 (call cc N n_message_Event [V.agg [V.bool b0, V.int IntKind.i64 x1, V.int IntKind.i64 x2, V.int IntKind.i64 x3, V.int IntKind.i64 x4]]).bind fun v5 =>
 cond (okRes [(false, [CK.i IntKind.i64])] v5)
 (cond ((V.toI (cellAt (V.cells v5) 0)) != (0 : Int))
 (some (V.bool true))
 (some (V.bool false)))
 none := by kernel_rfl


theorem F_message_Event (N : Nat) (b0 : Bool) (x1 : Int) (x2 : Int) (x3 : Int) (x4 : Int) : call cc (N + 1) n_message_Event [V.agg [V.bool b0, V.int IntKind.i64 x1, V.int IntKind.i64 x2, V.int IntKind.i64 x3, V.int IntKind.i64 x4]] =
 (call cc N n_message_Of [V.agg [V.bool b0, V.int IntKind.i64 x1, V.int IntKind.i64 x2, V.int IntKind.i64 x3, V.int IntKind.i64 x4]]).bind fun v5 =>
 cond (okRes [(true, [CK.i IntKind.u8, CK.i IntKind.i64, CK.i IntKind.i64, CK.i IntKind.i64, CK.i IntKind.i64, CK.i IntKind.i64, CK.i IntKind.i64, CK.i IntKind.i64, CK.i IntKind.i64, CK.i IntKind.i64]), (false, [CK.i IntKind.i64])] v5)
 (some (V.int IntKind.i64 (V.toI (cellAt (V.cells (cellAt (V.cs v5) 1)) 0))))
 none := by kernel_rfl


theorem F_slices_ContainsFunc_api_Event_api_Event_a (N : Nat) (n0 : Nat) (c1 : List V) : call cc (N + 1) n_slices_ContainsFunc_api_Event_api_Event [V.sl n0 c1, V.fn n_source_New_1 [] []] =
 (call cc N n_slices_IndexFunc_api_Event_api_Event [V.sl n0 c1, V.fn n_source_New_1 [] []]).bind fun v2 =>
 cond (okRes [(false, [CK.i IntKind.i64])] v2)
 (cond (decide ((V.toI (cellAt (V.cells v2) 0)) ≥ (0 : Int)))
 (some (V.bool true))
 (some (V.bool false)))
 none := by kernel_rfl


theorem F_marks_New (N : Nat) (x0 : Int) : call cc (N + 1) n_marks_New [V.int IntKind.i64 x0] =
 cond (decide (x0 < (1 : Int)))
 (some (V.tup [V.sl 0 [], V.int IntKind.i64 (2 : Int)]))
 (cond (decide (x0 > (4 : Int)))
  (some (V.tup [V.sl 0 [], V.int IntKind.i64 (2 : Int)]))
  ((call cc N n_slices_Repeat_int64_int64 [V.sl 1 [V.int IntKind.i64 (-(9223372036854775808 : Int))], V.int IntKind.i64 x0]).bind fun v1 =>
   cond (okRes [(false, [CK.sl 1])] v1)
   (some (V.tup [V.sl (V.slN (cellAt (V.cells v1) 0)) (V.slC (cellAt (V.cells v1) 0)), V.int IntKind.i64 (0 : Int)]))
   none)) := by kernel_rfl


theorem F_ref10_Check (N : Nat) (x0 : Int) (n1 : Nat) (c2 : List V) (n3 : Nat) (c4 : List V) (b5 : Bool) (n6 : Nat) (c7 : List V) (x8 : Int) (x9 : Int) (x10 : Int) (b11 : Bool) (x12 : Int) : call cc (N + 1) n_ref10_Check [V.agg [V.int IntKind.u8 x0, V.sl n1 c2, V.sl n3 c4, V.bool b5, V.sl n6 c7, V.int IntKind.u8 x8, V.int IntKind.i64 x9, V.int IntKind.i64 x10, V.bool b11, V.int IntKind.u8 x12]] =
 (call cc N n_ref08_Check [V.agg [V.int IntKind.u8 x0, V.sl n1 c2, V.sl n3 c4, V.bool b5, V.sl n6 c7, V.int IntKind.u8 x8, V.int IntKind.i64 x9, V.int IntKind.i64 x10, V.bool b11, V.int IntKind.u8 x12]]).bind fun v13 =>
 cond (okRes [(false, [CK.i IntKind.i64])] v13)
 (cond ((V.toI (cellAt (V.cells v13) 0)) != (0 : Int))
 ((call cc N n_ref08_Check [V.agg [V.int IntKind.u8 x0, V.sl n1 c2, V.sl n3 c4, V.bool b5, V.sl n6 c7, V.int IntKind.u8 x8, V.int IntKind.i64 x9, V.int IntKind.i64 x10, V.bool b11, V.int IntKind.u8 x12]]).bind fun v14 =>
  cond (okRes [(false, [CK.i IntKind.i64])] v14)
  (some (V.tup [V.int IntKind.i64 (0 : Int), V.int IntKind.i64 (V.toI (cellAt (V.cells v14) 0))]))
  none)
 ((call cc N n_ref10_Right [V.agg [V.int IntKind.u8 x0, V.sl n1 c2, V.sl n3 c4, V.bool b5, V.sl n6 c7, V.int IntKind.u8 x8, V.int IntKind.i64 x9, V.int IntKind.i64 x10, V.bool b11, V.int IntKind.u8 x12]]).bind fun v15 =>
  cond (okRes [(false, [CK.i IntKind.i64]), (false, [CK.i IntKind.i64])] v15)
  (some (V.tup [V.int IntKind.i64 (V.toI (cellAt (V.cells (cellAt (V.cs v15) 0)) 0)), V.int IntKind.i64 (V.toI (cellAt (V.cells (cellAt (V.cs v15) 1)) 0))]))
  none))
 none := by kernel_rfl


noncomputable def S_ref20_Check_4 (N : Nat) (n0 : Nat) (c1 : List V) (x2 : Int) : Option V := runAt cc N n_ref20_Check 4 (envOf 19 [(0, V.sl n0 c1), (3, V.int IntKind.i64 x2)]) [] [] 0
theorem F_ref20_Check (N : Nat) (n0 : Nat) (c1 : List V) : call cc (N + 1) n_ref20_Check [V.sl n0 c1] =
 cond (decide (((n0 : Nat) : Int) > (60 : Int)))
 (some (V.int IntKind.i64 (4 : Int)))
 (S_ref20_Check_4 N n0 c1 (0 : Int)) := by kernel_rfl
theorem S_ref20_Check_4_eq (N : Nat) (n0 : Nat) (c1 : List V) (x2 : Int) : S_ref20_Check_4 (N + 1) n0 c1 x2 =
 cond (decide (x2 < ((n0 : Nat) : Int)))
 (cond (decide ((0 : Int) ≤ x2))
  (cond (decide (x2 < ((n0 : Nat) : Int)))
  (cond (okT [CK.b, CK.i IntKind.i64, CK.i IntKind.i64, CK.i IntKind.i64, CK.i IntKind.i64] c1 ((Int.toNat x2) * 5))
  ((call cc N n_ref20_Valid [V.agg [V.bool (V.toB (cellAt c1 ((Int.toNat x2) * 5))), V.int IntKind.i64 (V.toI (cellAt c1 (((Int.toNat x2) * 5) + 1))), V.int IntKind.i64 (V.toI (cellAt c1 ((((Int.toNat x2) * 5) + 1) + 1))), V.int IntKind.i64 (V.toI (cellAt c1 (((((Int.toNat x2) * 5) + 1) + 1) + 1))), V.int IntKind.i64 (V.toI (cellAt c1 ((((((Int.toNat x2) * 5) + 1) + 1) + 1) + 1)))]]).bind fun v3 =>
  cond (okRes [(false, [CK.b])] v3)
  (cond (V.toB (cellAt (V.cells v3) 0))
  (S_ref20_Check_4 N n0 c1 (IntKind.wrap IntKind.i64 (x2 + (1 : Int))))
  (some (V.int IntKind.i64 (8 : Int))))
  none)
  none)
  none)
  none)
 (some (V.int IntKind.i64 (0 : Int))) := by kernel_rfl


theorem F_ref22_Of (N : Nat) (x0 : Int) (n1 : Nat) (c2 : List V) (n3 : Nat) (c4 : List V) (b5 : Bool) (n6 : Nat) (c7 : List V) (x8 : Int) (x9 : Int) (x10 : Int) (b11 : Bool) (x12 : Int) : call cc (N + 1) n_ref22_Of [V.agg [V.int IntKind.u8 x0, V.sl n1 c2, V.sl n3 c4, V.bool b5, V.sl n6 c7, V.int IntKind.u8 x8, V.int IntKind.i64 x9, V.int IntKind.i64 x10, V.bool b11, V.int IntKind.u8 x12]] =
 (call cc N n_ref10_Check [V.agg [V.int IntKind.u8 x0, V.sl n1 c2, V.sl n3 c4, V.bool b5, V.sl n6 c7, V.int IntKind.u8 x8, V.int IntKind.i64 x9, V.int IntKind.i64 x10, V.bool b11, V.int IntKind.u8 x12]]).bind fun v13 =>
 cond (okRes [(false, [CK.i IntKind.i64]), (false, [CK.i IntKind.i64])] v13)
 (cond ((V.toI (cellAt (V.cells (cellAt (V.cs v13) 1)) 0)) != (0 : Int))
 (some (V.tup [V.agg [V.sl 0 [], V.int IntKind.u8 (0 : Int), V.sl 0 [], V.sl 0 [], V.bool false, V.sl 0 [], V.int IntKind.u8 (0 : Int), V.int IntKind.i64 (0 : Int), V.int IntKind.i64 (0 : Int), V.bool false, V.int IntKind.u8 (0 : Int)], V.int IntKind.i64 (V.toI (cellAt (V.cells (cellAt (V.cs v13) 1)) 0))]))
 ((call cc N n_ref22_Steps [V.agg [V.int IntKind.u8 x0, V.sl n1 c2, V.sl n3 c4, V.bool b5, V.sl n6 c7, V.int IntKind.u8 x8, V.int IntKind.i64 x9, V.int IntKind.i64 x10, V.bool b11, V.int IntKind.u8 x12]]).bind fun v14 =>
  cond (okRes [(false, [CK.sl 1])] v14)
  ((call cc N n_ref08_Twin [V.agg [V.int IntKind.u8 x0, V.sl n1 c2, V.sl n3 c4, V.bool b5, V.sl n6 c7, V.int IntKind.u8 x8, V.int IntKind.i64 x9, V.int IntKind.i64 x10, V.bool b11, V.int IntKind.u8 x12]]).bind fun v15 =>
  cond (okRes [(true, [CK.i IntKind.u8, CK.sl 5, CK.sl 1, CK.b, CK.sl 5, CK.i IntKind.u8, CK.i IntKind.i64, CK.i IntKind.i64, CK.b, CK.i IntKind.u8])] v15)
  (some (V.tup [V.agg [V.sl (V.slN (cellAt (V.cells v14) 0)) (V.slC (cellAt (V.cells v14) 0)), V.int IntKind.u8 (V.toI (cellAt (V.cells v15) 0)), V.sl (V.slN (cellAt (V.cells v15) 1)) (V.slC (cellAt (V.cells v15) 1)), V.sl (V.slN (cellAt (V.cells v15) 2)) (V.slC (cellAt (V.cells v15) 2)), V.bool (V.toB (cellAt (V.cells v15) 3)), V.sl (V.slN (cellAt (V.cells v15) 4)) (V.slC (cellAt (V.cells v15) 4)), V.int IntKind.u8 (V.toI (cellAt (V.cells v15) 5)), V.int IntKind.i64 (V.toI (cellAt (V.cells v15) 6)), V.int IntKind.i64 (V.toI (cellAt (V.cells v15) 7)), V.bool (V.toB (cellAt (V.cells v15) 8)), V.int IntKind.u8 (V.toI (cellAt (V.cells v15) 9))], V.int IntKind.i64 (0 : Int)]))
  none)
  none))
 none := by kernel_rfl


theorem F_ref08_Twin (N : Nat) (x0 : Int) (n1 : Nat) (c2 : List V) (n3 : Nat) (c4 : List V) (b5 : Bool) (n6 : Nat) (c7 : List V) (x8 : Int) (x9 : Int) (x10 : Int) (b11 : Bool) (x12 : Int) : call cc (N + 1) n_ref08_Twin [V.agg [V.int IntKind.u8 x0, V.sl n1 c2, V.sl n3 c4, V.bool b5, V.sl n6 c7, V.int IntKind.u8 x8, V.int IntKind.i64 x9, V.int IntKind.i64 x10, V.bool b11, V.int IntKind.u8 x12]] =
 cond (decide ((List.length c2) = (n1 * (Go.Program.cellsOf (Cfg.P cc) 59))))
 (cond (decide (n1 ≤ bound))
 (cond (decide ((List.length c7) = (n6 * (Go.Program.cellsOf (Cfg.P cc) 59))))
 (cond (decide (n6 ≤ bound))
 (cond (decide ((List.length c4) = (n3 * (Go.Program.cellsOf (Cfg.P cc) 3))))
 (cond (decide (n3 ≤ bound))
 (some (V.agg [V.int IntKind.u8 x0, V.sl n1 c2, V.sl n3 c4, V.bool b5, V.sl n6 c7, V.int IntKind.u8 x8, V.int IntKind.i64 x9, V.int IntKind.i64 x10, V.bool b11, V.int IntKind.u8 x12]))
 none)
 none)
 none)
 none)
 none)
 none := by kernel_rfl


end Go.Pv
