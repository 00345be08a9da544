/- The law BuildMakes answers true for every query, every input and every numbers, and its arguments read as they read before: no condition. Part 4 of 7. -/
import Derived.Test.YtdelcbejcdpmiaaGreatCm3
/- What each function computes, from cut to cut: printed by a program of this seat's prover, checked by the kernel. -/
namespace Go.Pv
set_option maxRecDepth 100000
noncomputable def S_ref24_Made_5 (N : Nat) (x0 : Int) (x1 : Int) (x2 : Int) (b3 : Bool) (b4 : Bool) (n5 : Nat) (c6 : List V) (x7 : Int) (n8 : Nat) (c9 : List V) (n10 : Nat) (c11 : List V) (b12 : Bool) (n13 : Nat) (c14 : List V) (x15 : Int) (x16 : Int) (x17 : Int) (b18 : Bool) (x19 : Int) : Option V := runAt cc N n_ref24_Made 5 (envOf 192 [(1, V.int IntKind.i64 x0), (2, V.int IntKind.i64 x1), (3, V.ptr 0 0), (6, V.ptr 1 0), (7, V.int IntKind.i64 x2), (8, V.bool b3), (9, V.bool b4)]) [⟨[V.sl n5 c6, V.int IntKind.u8 x7, V.sl n8 c9, V.sl n10 c11, V.bool b12, V.sl n13 c14, V.int IntKind.u8 x15, V.int IntKind.i64 x16, V.int IntKind.i64 x17, V.bool b18, V.int IntKind.u8 x19], 1, 0, true⟩, ⟨[V.nils, V.nils], 1, 0, true⟩] [] 0
noncomputable def S_ref24_Made_8 (N : Nat) (x0 : Int) (x1 : Int) (x2 : Int) (b3 : Bool) (b4 : Bool) (x5 : Int) (n6 : Nat) (c7 : List V) (x8 : Int) (n9 : Nat) (c10 : List V) (n11 : Nat) (c12 : List V) (b13 : Bool) (n14 : Nat) (c15 : List V) (x16 : Int) (x17 : Int) (x18 : Int) (b19 : Bool) (x20 : Int) : Option V := runAt cc N n_ref24_Made 8 (envOf 192 [(1, V.int IntKind.i64 x0), (2, V.int IntKind.i64 x1), (3, V.ptr 0 0), (6, V.ptr 1 0), (7, V.int IntKind.i64 x2), (8, V.bool b3), (9, V.bool b4), (10, V.int IntKind.i64 x5)]) [⟨[V.sl n6 c7, V.int IntKind.u8 x8, V.sl n9 c10, V.sl n11 c12, V.bool b13, V.sl n14 c15, V.int IntKind.u8 x16, V.int IntKind.i64 x17, V.int IntKind.i64 x18, V.bool b19, V.int IntKind.u8 x20], 1, 0, true⟩, ⟨[V.nils, V.nils], 1, 0, true⟩] [] 0
noncomputable def S_ref24_Made_12 (N : Nat) (x0 : Int) (x1 : Int) (x2 : Int) (b3 : Bool) (b4 : Bool) (x5 : Int) (x6 : Int) (x7 : Int) (n8 : Nat) (c9 : List V) (x10 : Int) (n11 : Nat) (c12 : List V) (n13 : Nat) (c14 : List V) (b15 : Bool) (n16 : Nat) (c17 : List V) (x18 : Int) (x19 : Int) (x20 : Int) (b21 : Bool) (x22 : Int) (n23 : Nat) (n24 : Nat) (c25 : List V) (c26 : List V) : Option V := runAt cc N n_ref24_Made 12 (envOf 192 [(1, V.int IntKind.i64 x0), (2, V.int IntKind.i64 x1), (3, V.ptr 0 0), (6, V.ptr 1 0), (7, V.int IntKind.i64 x2), (8, V.bool b3), (9, V.bool b4), (11, V.int IntKind.i64 x5), (12, V.int IntKind.i64 x6), (13, V.ptr 2 0), (14, V.int IntKind.i64 x7)]) [⟨[V.sl n8 c9, V.int IntKind.u8 x10, V.sl n11 c12, V.sl n13 c14, V.bool b15, V.sl n16 c17, V.int IntKind.u8 x18, V.int IntKind.i64 x19, V.int IntKind.i64 x20, V.bool b21, V.int IntKind.u8 x22], 1, 0, true⟩, ⟨[V.nils, V.nils], 1, 0, true⟩, ⟨[V.own 3 n23, V.own 4 n24], 1, 0, true⟩, ⟨c25, 2, 0, false⟩, ⟨c26, 5, 0, false⟩] [] 0
noncomputable def S_ref24_Made_15 (N : Nat) (x0 : Int) (x1 : Int) (x2 : Int) (b3 : Bool) (b4 : Bool) (x5 : Int) (x6 : Int) (x7 : Int) (n8 : Nat) (c9 : List V) (x10 : Int) (n11 : Nat) (c12 : List V) (n13 : Nat) (c14 : List V) (b15 : Bool) (n16 : Nat) (c17 : List V) (x18 : Int) (x19 : Int) (x20 : Int) (b21 : Bool) (x22 : Int) (n23 : Nat) (n24 : Nat) (c25 : List V) (c26 : List V) : Option V := runAt cc N n_ref24_Made 15 (envOf 192 [(1, V.int IntKind.i64 x0), (2, V.int IntKind.i64 x1), (3, V.ptr 0 0), (6, V.ptr 1 0), (7, V.int IntKind.i64 x2), (8, V.bool b3), (9, V.bool b4), (11, V.int IntKind.i64 x5), (12, V.int IntKind.i64 x6), (13, V.ptr 2 0), (14, V.int IntKind.i64 x7)]) [⟨[V.sl n8 c9, V.int IntKind.u8 x10, V.sl n11 c12, V.sl n13 c14, V.bool b15, V.sl n16 c17, V.int IntKind.u8 x18, V.int IntKind.i64 x19, V.int IntKind.i64 x20, V.bool b21, V.int IntKind.u8 x22], 1, 0, true⟩, ⟨[V.nils, V.nils], 1, 0, true⟩, ⟨[V.own 3 n23, V.own 4 n24], 1, 0, true⟩, ⟨c25, 2, 0, false⟩, ⟨c26, 5, 0, false⟩] [] 0
noncomputable def S_ref24_Made_38 (N : Nat) (b0 : Bool) (n1 : Nat) (n2 : Nat) (c3 : List V) (c4 : List V) : Option V := runAt cc N n_ref24_Made 38 (envOf 192 [(6, V.ptr 0 0), (9, V.bool b0), (13, V.ptr 1 0)]) [⟨[V.nils, V.nils], 1, 0, true⟩, ⟨[V.own 2 n1, V.own 3 n2], 1, 0, true⟩, ⟨c3, 2, 0, false⟩, ⟨c4, 5, 0, false⟩] [] 0
noncomputable def S_ref24_Made_13 (N : Nat) (x0 : Int) (x1 : Int) (x2 : Int) (b3 : Bool) (b4 : Bool) (x5 : Int) (x6 : Int) (x7 : Int) (n8 : Nat) (c9 : List V) (x10 : Int) (n11 : Nat) (c12 : List V) (n13 : Nat) (c14 : List V) (b15 : Bool) (n16 : Nat) (c17 : List V) (x18 : Int) (x19 : Int) (x20 : Int) (b21 : Bool) (x22 : Int) (n23 : Nat) (n24 : Nat) (c25 : List V) (c26 : List V) : Option V := runAt cc N n_ref24_Made 13 (envOf 192 [(1, V.int IntKind.i64 x0), (2, V.int IntKind.i64 x1), (3, V.ptr 0 0), (6, V.ptr 1 0), (7, V.int IntKind.i64 x2), (8, V.bool b3), (9, V.bool b4), (11, V.int IntKind.i64 x5), (12, V.int IntKind.i64 x6), (13, V.ptr 2 0), (14, V.int IntKind.i64 x7)]) [⟨[V.sl n8 c9, V.int IntKind.u8 x10, V.sl n11 c12, V.sl n13 c14, V.bool b15, V.sl n16 c17, V.int IntKind.u8 x18, V.int IntKind.i64 x19, V.int IntKind.i64 x20, V.bool b21, V.int IntKind.u8 x22], 1, 0, true⟩, ⟨[V.nils, V.nils], 1, 0, true⟩, ⟨[V.own 3 n23, V.own 4 n24], 1, 0, true⟩, ⟨c25, 2, 0, false⟩, ⟨c26, 5, 0, false⟩] [] 0
noncomputable def S_ref24_Made_23 (N : Nat) (x0 : Int) (x1 : Int) (x2 : Int) (b3 : Bool) (b4 : Bool) (x5 : Int) (x6 : Int) (x7 : Int) (n8 : Nat) (c9 : List V) (x10 : Int) (n11 : Nat) (c12 : List V) (n13 : Nat) (c14 : List V) (b15 : Bool) (n16 : Nat) (c17 : List V) (x18 : Int) (x19 : Int) (x20 : Int) (b21 : Bool) (x22 : Int) (n23 : Nat) (n24 : Nat) (x25 : Int) (x26 : Int) (x27 : Int) (x28 : Int) (x29 : Int) (c30 : List V) (c31 : List V) : Option V := runAt cc N n_ref24_Made 23 (envOf 192 [(1, V.int IntKind.i64 x0), (2, V.int IntKind.i64 x1), (3, V.ptr 0 0), (6, V.ptr 1 0), (7, V.int IntKind.i64 x2), (8, V.bool b3), (9, V.bool b4), (11, V.int IntKind.i64 x5), (12, V.int IntKind.i64 x6), (13, V.ptr 2 0), (14, V.int IntKind.i64 x7), (15, V.ptr 3 0)]) [⟨[V.sl n8 c9, V.int IntKind.u8 x10, V.sl n11 c12, V.sl n13 c14, V.bool b15, V.sl n16 c17, V.int IntKind.u8 x18, V.int IntKind.i64 x19, V.int IntKind.i64 x20, V.bool b21, V.int IntKind.u8 x22], 1, 0, true⟩, ⟨[V.nils, V.nils], 1, 0, true⟩, ⟨[V.own 4 n23, V.own 5 n24], 1, 0, true⟩, ⟨[V.int IntKind.i64 x25, V.int IntKind.i64 x26, V.int IntKind.i64 x27, V.int IntKind.i64 x28, V.int IntKind.i64 x29], 1, 0, true⟩, ⟨c30, 2, 0, false⟩, ⟨c31, 5, 0, false⟩] [] 0
noncomputable def S_ref24_Made_29 (N : Nat) (x0 : Int) (x1 : Int) (x2 : Int) (b3 : Bool) (b4 : Bool) (x5 : Int) (x6 : Int) (x7 : Int) (x8 : Int) (n9 : Nat) (c10 : List V) (x11 : Int) (n12 : Nat) (c13 : List V) (n14 : Nat) (c15 : List V) (b16 : Bool) (n17 : Nat) (c18 : List V) (x19 : Int) (x20 : Int) (x21 : Int) (b22 : Bool) (x23 : Int) (n24 : Nat) (n25 : Nat) (c26 : List V) (c27 : List V) : Option V := runAt cc N n_ref24_Made 29 (envOf 192 [(1, V.int IntKind.i64 x0), (2, V.int IntKind.i64 x1), (3, V.ptr 0 0), (6, V.ptr 1 0), (7, V.int IntKind.i64 x2), (8, V.bool b3), (9, V.bool b4), (11, V.int IntKind.i64 x5), (12, V.int IntKind.i64 x6), (13, V.ptr 2 0), (14, V.int IntKind.i64 x7), (16, V.int IntKind.i64 x8)]) [⟨[V.sl n9 c10, V.int IntKind.u8 x11, V.sl n12 c13, V.sl n14 c15, V.bool b16, V.sl n17 c18, V.int IntKind.u8 x19, V.int IntKind.i64 x20, V.int IntKind.i64 x21, V.bool b22, V.int IntKind.u8 x23], 1, 0, true⟩, ⟨[V.nils, V.nils], 1, 0, true⟩, ⟨[V.own 3 n24, V.own 4 n25], 1, 0, true⟩, ⟨c26, 2, 0, false⟩, ⟨c27, 5, 0, false⟩] [] 0
noncomputable def S_ref24_Made_36 (N : Nat) (x0 : Int) (x1 : Int) (x2 : Int) (b3 : Bool) (b4 : Bool) (x5 : Int) (x6 : Int) (x7 : Int) (x8 : Int) (n9 : Nat) (c10 : List V) (x11 : Int) (n12 : Nat) (c13 : List V) (n14 : Nat) (c15 : List V) (b16 : Bool) (n17 : Nat) (c18 : List V) (x19 : Int) (x20 : Int) (x21 : Int) (b22 : Bool) (x23 : Int) (n24 : Nat) (n25 : Nat) (c26 : List V) (c27 : List V) : Option V := runAt cc N n_ref24_Made 36 (envOf 192 [(1, V.int IntKind.i64 x0), (2, V.int IntKind.i64 x1), (3, V.ptr 0 0), (6, V.ptr 1 0), (7, V.int IntKind.i64 x2), (8, V.bool b3), (9, V.bool b4), (11, V.int IntKind.i64 x5), (12, V.int IntKind.i64 x6), (13, V.ptr 2 0), (14, V.int IntKind.i64 x7), (17, V.int IntKind.u8 x8)]) [⟨[V.sl n9 c10, V.int IntKind.u8 x11, V.sl n12 c13, V.sl n14 c15, V.bool b16, V.sl n17 c18, V.int IntKind.u8 x19, V.int IntKind.i64 x20, V.int IntKind.i64 x21, V.bool b22, V.int IntKind.u8 x23], 1, 0, true⟩, ⟨[V.nils, V.nils], 1, 0, true⟩, ⟨[V.own 3 n24, V.own 4 n25], 1, 0, true⟩, ⟨c26, 2, 0, false⟩, ⟨c27, 5, 0, false⟩] [] 0
noncomputable def S_ref24_Made_40 (N : Nat) (n0 : Nat) (n1 : Nat) (c2 : List V) (c3 : List V) : Option V := runAt cc N n_ref24_Made 40 (envOf 192 [(6, V.ptr 0 0), (13, V.ptr 1 0)]) [⟨[V.nils, V.nils], 1, 0, true⟩, ⟨[V.own 2 n0, V.own 3 n1], 1, 0, true⟩, ⟨c2, 2, 0, false⟩, ⟨c3, 5, 0, false⟩] [] 0
noncomputable def S_ref24_Made_31 (N : Nat) (x0 : Int) (x1 : Int) (x2 : Int) (b3 : Bool) (b4 : Bool) (x5 : Int) (x6 : Int) (x7 : Int) (x8 : Int) (n9 : Nat) (c10 : List V) (x11 : Int) (n12 : Nat) (c13 : List V) (n14 : Nat) (c15 : List V) (b16 : Bool) (n17 : Nat) (c18 : List V) (x19 : Int) (x20 : Int) (x21 : Int) (b22 : Bool) (x23 : Int) (n24 : Nat) (n25 : Nat) (c26 : List V) (c27 : List V) : Option V := runAt cc N n_ref24_Made 31 (envOf 192 [(1, V.int IntKind.i64 x0), (2, V.int IntKind.i64 x1), (3, V.ptr 0 0), (6, V.ptr 1 0), (7, V.int IntKind.i64 x2), (8, V.bool b3), (9, V.bool b4), (11, V.int IntKind.i64 x5), (12, V.int IntKind.i64 x6), (13, V.ptr 2 0), (14, V.int IntKind.i64 x7), (16, V.int IntKind.i64 x8)]) [⟨[V.sl n9 c10, V.int IntKind.u8 x11, V.sl n12 c13, V.sl n14 c15, V.bool b16, V.sl n17 c18, V.int IntKind.u8 x19, V.int IntKind.i64 x20, V.int IntKind.i64 x21, V.bool b22, V.int IntKind.u8 x23], 1, 0, true⟩, ⟨[V.nils, V.nils], 1, 0, true⟩, ⟨[V.own 3 n24, V.own 4 n25], 1, 0, true⟩, ⟨c26, 2, 0, false⟩, ⟨c27, 5, 0, false⟩] [] 0
theorem F_ref24_Made (N : Nat) (n0 : Nat) (c1 : List V) (x2 : Int) (n3 : Nat) (c4 : List V) (n5 : Nat) (c6 : List V) (b7 : Bool) (n8 : Nat) (c9 : List V) (x10 : Int) (x11 : Int) (x12 : Int) (b13 : Bool) (x14 : Int) (x15 : Int) (x16 : Int) : call cc (N + 1) n_ref24_Made [V.agg [V.sl n0 c1, V.int IntKind.u8 x2, V.sl n3 c4, V.sl n5 c6, V.bool b7, V.sl n8 c9, V.int IntKind.u8 x10, V.int IntKind.i64 x11, V.int IntKind.i64 x12, V.bool b13, V.int IntKind.u8 x14], V.int IntKind.i64 x15, V.int IntKind.i64 x16] =
 (call cc N n_ref22_Has [V.agg [V.int IntKind.u8 x2, V.sl n3 c4, V.sl n5 c6, V.bool b7, V.sl n8 c9, V.int IntKind.u8 x10, V.int IntKind.i64 x11, V.int IntKind.i64 x12, V.bool b13, V.int IntKind.u8 x14], V.int IntKind.u8 (5 : Int)]).bind fun v17 =>
 cond (okRes [(false, [CK.b])] v17)
 (cond (V.toB (cellAt (V.cells v17) 0))
 ((call cc N n_ref22_Has [V.agg [V.int IntKind.u8 x2, V.sl n3 c4, V.sl n5 c6, V.bool b7, V.sl n8 c9, V.int IntKind.u8 x10, V.int IntKind.i64 x11, V.int IntKind.i64 x12, V.bool b13, V.int IntKind.u8 x14], V.int IntKind.u8 (10 : Int)]).bind fun v18 =>
  cond (okRes [(false, [CK.b])] v18)
  (cond (V.toB (cellAt (V.cells v18) 0))
  (S_ref24_Made_5 N x15 x16 ((n5 : Nat) : Int) true true n0 c1 x2 n3 c4 n5 c6 b7 n8 c9 x10 x11 x12 b13 x14)
  (S_ref24_Made_5 N x15 x16 ((n5 : Nat) : Int) true false n0 c1 x2 n3 c4 n5 c6 b7 n8 c9 x10 x11 x12 b13 x14))
  none)
 ((call cc N n_ref22_Has [V.agg [V.int IntKind.u8 x2, V.sl n3 c4, V.sl n5 c6, V.bool b7, V.sl n8 c9, V.int IntKind.u8 x10, V.int IntKind.i64 x11, V.int IntKind.i64 x12, V.bool b13, V.int IntKind.u8 x14], V.int IntKind.u8 (10 : Int)]).bind fun v19 =>
  cond (okRes [(false, [CK.b])] v19)
  (cond (V.toB (cellAt (V.cells v19) 0))
  (S_ref24_Made_5 N (1 : Int) x16 ((n5 : Nat) : Int) false true n0 c1 x2 n3 c4 n5 c6 b7 n8 c9 x10 x11 x12 b13 x14)
  (S_ref24_Made_5 N (1 : Int) x16 ((n5 : Nat) : Int) false false n0 c1 x2 n3 c4 n5 c6 b7 n8 c9 x10 x11 x12 b13 x14))
  none))
 none := by kernel_rfl
theorem S_ref24_Made_5_eq (N : Nat) (x0 : Int) (x1 : Int) (x2 : Int) (b3 : Bool) (b4 : Bool) (n5 : Nat) (c6 : List V) (x7 : Int) (n8 : Nat) (c9 : List V) (n10 : Nat) (c11 : List V) (b12 : Bool) (n13 : Nat) (c14 : List V) (x15 : Int) (x16 : Int) (x17 : Int) (b18 : Bool) (x19 : Int) : S_ref24_Made_5 (N + 1) x0 x1 x2 b3 b4 n5 c6 x7 n8 c9 n10 c11 b12 n13 c14 x15 x16 x17 b18 x19 =
 cond b3
 (S_ref24_Made_8 N x0 x1 x2 b3 b4 x2 n5 c6 x7 n8 c9 n10 c11 b12 n13 c14 x15 x16 x17 b18 x19)
 (S_ref24_Made_8 N x0 x1 x2 b3 b4 (0 : Int) n5 c6 x7 n8 c9 n10 c11 b12 n13 c14 x15 x16 x17 b18 x19) := by kernel_rfl
theorem S_ref24_Made_8_eq (N : Nat) (x0 : Int) (x1 : Int) (x2 : Int) (b3 : Bool) (b4 : Bool) (x5 : Int) (n6 : Nat) (c7 : List V) (x8 : Int) (n9 : Nat) (c10 : List V) (n11 : Nat) (c12 : List V) (b13 : Bool) (n14 : Nat) (c15 : List V) (x16 : Int) (x17 : Int) (x18 : Int) (b19 : Bool) (x20 : Int) : S_ref24_Made_8 (N + 1) x0 x1 x2 b3 b4 x5 n6 c7 x8 n9 c10 n11 c12 b13 n14 c15 x16 x17 x18 b19 x20 =
 S_ref24_Made_12 N x0 x1 x2 b3 b4 (IntKind.wrap IntKind.i64 ((IntKind.wrap IntKind.i64 ((2 : Int) * x2)) + x5)) (IntKind.wrap IntKind.i64 ((IntKind.wrap IntKind.i64 ((IntKind.wrap IntKind.i64 ((2 : Int) * x2)) + x5)) + x0)) (0 : Int) n6 c7 x8 n9 c10 n11 c12 b13 n14 c15 x16 x17 x18 b19 x20 0 0 [] [] := by kernel_rfl
theorem S_ref24_Made_12_eq (N : Nat) (x0 : Int) (x1 : Int) (x2 : Int) (b3 : Bool) (b4 : Bool) (x5 : Int) (x6 : Int) (x7 : Int) (n8 : Nat) (c9 : List V) (x10 : Int) (n11 : Nat) (c12 : List V) (n13 : Nat) (c14 : List V) (b15 : Bool) (n16 : Nat) (c17 : List V) (x18 : Int) (x19 : Int) (x20 : Int) (b21 : Bool) (x22 : Int) (n23 : Nat) (n24 : Nat) (c25 : List V) (c26 : List V) : S_ref24_Made_12 (N + 1) x0 x1 x2 b3 b4 x5 x6 x7 n8 c9 x10 n11 c12 n13 c14 b15 n16 c17 x18 x19 x20 b21 x22 n23 n24 c25 c26 =
 cond (decide (x7 ≤ x6))
 (S_ref24_Made_15 N x0 x1 x2 b3 b4 x5 x6 x7 n8 c9 x10 n11 c12 n13 c14 b15 n16 c17 x18 x19 x20 b21 x22 n23 n24 c25 c26)
 (S_ref24_Made_38 N b4 n23 n24 c25 c26) := by kernel_rfl
theorem S_ref24_Made_15_eq (N : Nat) (x0 : Int) (x1 : Int) (x2 : Int) (b3 : Bool) (b4 : Bool) (x5 : Int) (x6 : Int) (x7 : Int) (n8 : Nat) (c9 : List V) (x10 : Int) (n11 : Nat) (c12 : List V) (n13 : Nat) (c14 : List V) (b15 : Bool) (n16 : Nat) (c17 : List V) (x18 : Int) (x19 : Int) (x20 : Int) (b21 : Bool) (x22 : Int) (n23 : Nat) (n24 : Nat) (c25 : List V) (c26 : List V) : S_ref24_Made_15 (N + 1) x0 x1 x2 b3 b4 x5 x6 x7 n8 c9 x10 n11 c12 n13 c14 b15 n16 c17 x18 x19 x20 b21 x22 n23 n24 c25 c26 =
 cond (decide (x7 < x2))
 (cond (decide ((n23 + 1) ≤ bound))
  (cond (decide ((n24 + 1) ≤ bound))
  (S_ref24_Made_13 N x0 x1 x2 b3 b4 x5 x6 x7 n8 c9 x10 n11 c12 n13 c14 b15 n16 c17 x18 x19 x20 b21 x22 (n23 + 1) (n24 + 1) (c25 ++ [V.int IntKind.u8 (1 : Int), V.int IntKind.i64 x7]) (c26 ++ [V.int IntKind.i64 x7, V.int IntKind.i64 (0 : Int), V.int IntKind.i64 (IntKind.wrap IntKind.i64 (x2 + x7)), V.int IntKind.i64 (0 : Int), V.int IntKind.i64 x1]))
  none)
  none)
 (cond (decide (x7 < (IntKind.wrap IntKind.i64 ((2 : Int) * x2))))
  (cond (decide ((n23 + 1) ≤ bound))
   (cond b3
   (S_ref24_Made_23 N x0 x1 x2 b3 b4 x5 x6 x7 n8 c9 x10 n11 c12 n13 c14 b15 n16 c17 x18 x19 x20 b21 x22 (n23 + 1) n24 x7 (0 : Int) (IntKind.wrap IntKind.i64 (x2 + x7)) (0 : Int) x1 (c25 ++ [V.int IntKind.u8 (2 : Int), V.int IntKind.i64 (IntKind.wrap IntKind.i64 (x7 - x2))]) c26)
   (S_ref24_Made_23 N x0 x1 x2 b3 b4 x5 x6 x7 n8 c9 x10 n11 c12 n13 c14 b15 n16 c17 x18 x19 x20 b21 x22 (n23 + 1) n24 x7 (0 : Int) x5 (IntKind.wrap IntKind.i64 (x7 - x2)) x1 (c25 ++ [V.int IntKind.u8 (2 : Int), V.int IntKind.i64 (IntKind.wrap IntKind.i64 (x7 - x2))]) c26))
   none)
  (cond (decide (x7 < x5))
   (cond (decide ((n23 + 1) ≤ bound))
    (S_ref24_Made_29 N x0 x1 x2 b3 b4 x5 x6 x7 (0 : Int) n8 c9 x10 n11 c12 n13 c14 b15 n16 c17 x18 x19 x20 b21 x22 (n23 + 1) n24 (c25 ++ [V.int IntKind.u8 (3 : Int), V.int IntKind.i64 (IntKind.wrap IntKind.i64 (x7 - (IntKind.wrap IntKind.i64 ((2 : Int) * x2))))]) c26)
    none)
   (cond (decide (x7 < x6))
    (cond b15
     (S_ref24_Made_36 N x0 x1 x2 b3 b4 x5 x6 x7 (5 : Int) n8 c9 x10 n11 c12 n13 c14 b15 n16 c17 x18 x19 x20 b21 x22 n23 n24 c25 c26)
     (S_ref24_Made_36 N x0 x1 x2 b3 b4 x5 x6 x7 (4 : Int) n8 c9 x10 n11 c12 n13 c14 b15 n16 c17 x18 x19 x20 b21 x22 n23 n24 c25 c26))
    (cond (decide ((n23 + 1) ≤ bound))
     (S_ref24_Made_13 N x0 x1 x2 b3 b4 x5 x6 x7 n8 c9 x10 n11 c12 n13 c14 b15 n16 c17 x18 x19 x20 b21 x22 (n23 + 1) n24 (c25 ++ [V.int IntKind.u8 (6 : Int), V.int IntKind.i64 (0 : Int)]) c26)
     none)))) := by kernel_rfl
theorem S_ref24_Made_38_eq (N : Nat) (b0 : Bool) (n1 : Nat) (n2 : Nat) (c3 : List V) (c4 : List V) : S_ref24_Made_38 (N + 1) b0 n1 n2 c3 c4 =
 cond b0
 (cond (decide ((n1 + 1) ≤ bound))
  (S_ref24_Made_40 N (n1 + 1) n2 (c3 ++ [V.int IntKind.u8 (7 : Int), V.int IntKind.i64 (0 : Int)]) c4)
  none)
 (S_ref24_Made_40 N n1 n2 c3 c4) := by kernel_rfl
theorem S_ref24_Made_13_eq (N : Nat) (x0 : Int) (x1 : Int) (x2 : Int) (b3 : Bool) (b4 : Bool) (x5 : Int) (x6 : Int) (x7 : Int) (n8 : Nat) (c9 : List V) (x10 : Int) (n11 : Nat) (c12 : List V) (n13 : Nat) (c14 : List V) (b15 : Bool) (n16 : Nat) (c17 : List V) (x18 : Int) (x19 : Int) (x20 : Int) (b21 : Bool) (x22 : Int) (n23 : Nat) (n24 : Nat) (c25 : List V) (c26 : List V) : S_ref24_Made_13 (N + 1) x0 x1 x2 b3 b4 x5 x6 x7 n8 c9 x10 n11 c12 n13 c14 b15 n16 c17 x18 x19 x20 b21 x22 n23 n24 c25 c26 =
 S_ref24_Made_12 N x0 x1 x2 b3 b4 x5 x6 (IntKind.wrap IntKind.i64 (x7 + (1 : Int))) n8 c9 x10 n11 c12 n13 c14 b15 n16 c17 x18 x19 x20 b21 x22 n23 n24 c25 c26 := by kernel_rfl
theorem S_ref24_Made_23_eq (N : Nat) (x0 : Int) (x1 : Int) (x2 : Int) (b3 : Bool) (b4 : Bool) (x5 : Int) (x6 : Int) (x7 : Int) (n8 : Nat) (c9 : List V) (x10 : Int) (n11 : Nat) (c12 : List V) (n13 : Nat) (c14 : List V) (b15 : Bool) (n16 : Nat) (c17 : List V) (x18 : Int) (x19 : Int) (x20 : Int) (b21 : Bool) (x22 : Int) (n23 : Nat) (n24 : Nat) (x25 : Int) (x26 : Int) (x27 : Int) (x28 : Int) (x29 : Int) (c30 : List V) (c31 : List V) : S_ref24_Made_23 (N + 1) x0 x1 x2 b3 b4 x5 x6 x7 n8 c9 x10 n11 c12 n13 c14 b15 n16 c17 x18 x19 x20 b21 x22 n23 n24 x25 x26 x27 x28 x29 c30 c31 =
 cond (decide ((n24 + 1) ≤ bound))
 (cond b4
 (cond (decide (((n24 + 1) + 1) ≤ bound))
  (S_ref24_Made_13 N x0 x1 x2 b3 b4 x5 x6 x7 n8 c9 x10 n11 c12 n13 c14 b15 n16 c17 x18 x19 x20 b21 x22 n23 ((n24 + 1) + 1) c30 ((Blk.cells ⟨c31 ++ [V.int IntKind.i64 x25, V.int IntKind.i64 x26, V.int IntKind.i64 x27, V.int IntKind.i64 x28, V.int IntKind.i64 x29], 5, 0, false⟩) ++ [V.int IntKind.i64 x7, V.int IntKind.i64 (1 : Int), V.int IntKind.i64 (IntKind.wrap IntKind.i64 (x6 + (1 : Int))), V.int IntKind.i64 (IntKind.wrap IntKind.i64 (x7 - x2)), V.int IntKind.i64 x1]))
  none)
 (S_ref24_Made_13 N x0 x1 x2 b3 b4 x5 x6 x7 n8 c9 x10 n11 c12 n13 c14 b15 n16 c17 x18 x19 x20 b21 x22 n23 (n24 + 1) c30 (c31 ++ [V.int IntKind.i64 x25, V.int IntKind.i64 x26, V.int IntKind.i64 x27, V.int IntKind.i64 x28, V.int IntKind.i64 x29])))
 none := by kernel_rfl
theorem S_ref24_Made_29_eq (N : Nat) (x0 : Int) (x1 : Int) (x2 : Int) (b3 : Bool) (b4 : Bool) (x5 : Int) (x6 : Int) (x7 : Int) (x8 : Int) (n9 : Nat) (c10 : List V) (x11 : Int) (n12 : Nat) (c13 : List V) (n14 : Nat) (c15 : List V) (b16 : Bool) (n17 : Nat) (c18 : List V) (x19 : Int) (x20 : Int) (x21 : Int) (b22 : Bool) (x23 : Int) (n24 : Nat) (n25 : Nat) (c26 : List V) (c27 : List V) : S_ref24_Made_29 (N + 1) x0 x1 x2 b3 b4 x5 x6 x7 x8 n9 c10 x11 n12 c13 n14 c15 b16 n17 c18 x19 x20 x21 b22 x23 n24 n25 c26 c27 =
 cond (decide (x8 < x0))
 (S_ref24_Made_31 N x0 x1 x2 b3 b4 x5 x6 x7 x8 n9 c10 x11 n12 c13 n14 c15 b16 n17 c18 x19 x20 x21 b22 x23 n24 n25 c26 c27)
 (S_ref24_Made_13 N x0 x1 x2 b3 b4 x5 x6 x7 n9 c10 x11 n12 c13 n14 c15 b16 n17 c18 x19 x20 x21 b22 x23 n24 n25 c26 c27) := by kernel_rfl
theorem S_ref24_Made_36_eq (N : Nat) (x0 : Int) (x1 : Int) (x2 : Int) (b3 : Bool) (b4 : Bool) (x5 : Int) (x6 : Int) (x7 : Int) (x8 : Int) (n9 : Nat) (c10 : List V) (x11 : Int) (n12 : Nat) (c13 : List V) (n14 : Nat) (c15 : List V) (b16 : Bool) (n17 : Nat) (c18 : List V) (x19 : Int) (x20 : Int) (x21 : Int) (b22 : Bool) (x23 : Int) (n24 : Nat) (n25 : Nat) (c26 : List V) (c27 : List V) : S_ref24_Made_36 (N + 1) x0 x1 x2 b3 b4 x5 x6 x7 x8 n9 c10 x11 n12 c13 n14 c15 b16 n17 c18 x19 x20 x21 b22 x23 n24 n25 c26 c27 =
 cond (decide ((n24 + 1) ≤ bound))
 (cond (decide ((n25 + 1) ≤ bound))
 (S_ref24_Made_13 N x0 x1 x2 b3 b4 x5 x6 x7 n9 c10 x11 n12 c13 n14 c15 b16 n17 c18 x19 x20 x21 b22 x23 (n24 + 1) (n25 + 1) (c26 ++ [V.int IntKind.u8 x8, V.int IntKind.i64 (IntKind.wrap IntKind.i64 (x7 - x5))]) (c27 ++ [V.int IntKind.i64 x7, V.int IntKind.i64 (0 : Int), V.int IntKind.i64 x6, V.int IntKind.i64 (IntKind.wrap IntKind.i64 (x7 - x5)), V.int IntKind.i64 x1]))
 none)
 none := by kernel_rfl
theorem S_ref24_Made_40_eq (N : Nat) (n0 : Nat) (n1 : Nat) (c2 : List V) (c3 : List V) : S_ref24_Made_40 (N + 1) n0 n1 c2 c3 =
 some (V.agg [V.sl n0 c2, V.sl n1 c3]) := by kernel_rfl
theorem S_ref24_Made_31_eq (N : Nat) (x0 : Int) (x1 : Int) (x2 : Int) (b3 : Bool) (b4 : Bool) (x5 : Int) (x6 : Int) (x7 : Int) (x8 : Int) (n9 : Nat) (c10 : List V) (x11 : Int) (n12 : Nat) (c13 : List V) (n14 : Nat) (c15 : List V) (b16 : Bool) (n17 : Nat) (c18 : List V) (x19 : Int) (x20 : Int) (x21 : Int) (b22 : Bool) (x23 : Int) (n24 : Nat) (n25 : Nat) (c26 : List V) (c27 : List V) : S_ref24_Made_31 (N + 1) x0 x1 x2 b3 b4 x5 x6 x7 x8 n9 c10 x11 n12 c13 n14 c15 b16 n17 c18 x19 x20 x21 b22 x23 n24 n25 c26 c27 =
 cond (decide ((n25 + 1) ≤ bound))
 (S_ref24_Made_29 N x0 x1 x2 b3 b4 x5 x6 x7 (IntKind.wrap IntKind.i64 (x8 + (1 : Int))) n9 c10 x11 n12 c13 n14 c15 b16 n17 c18 x19 x20 x21 b22 x23 n24 (n25 + 1) c26 (c27 ++ [V.int IntKind.i64 x7, V.int IntKind.i64 x8, V.int IntKind.i64 (IntKind.wrap IntKind.i64 (x5 + x8)), V.int IntKind.i64 (IntKind.wrap IntKind.i64 (x7 - (IntKind.wrap IntKind.i64 ((2 : Int) * x2)))), V.int IntKind.i64 x1]))
 none := by kernel_rfl


theorem F_ref36_fresh (N : Nat) (x0 : Int) (n1 : Nat) (c2 : List V) (n3 : Nat) (c4 : List V) (b5 : Bool) (n6 : Nat) (c7 : List V) (x8 : Int) (x9 : Int) (x10 : Int) (b11 : Bool) (x12 : Int) (n13 : Nat) (c14 : List V) (x15 : Int) (x16 : Int) : call cc (N + 1) n_ref36_fresh [V.agg [V.int IntKind.u8 x0, V.sl n1 c2, V.sl n3 c4, V.bool b5, V.sl n6 c7, V.int IntKind.u8 x8, V.int IntKind.i64 x9, V.int IntKind.i64 x10, V.bool b11, V.int IntKind.u8 x12], V.sl n13 c14, V.agg [V.int IntKind.u8 x15, V.int IntKind.i64 x16]] =
 cond (x15 == (1 : Int))
 (cond (decide ((0 : Int) ≤ x16))
  (cond (decide (x16 < ((n13 : Nat) : Int)))
  (cond (okT [CK.sl 5] c14 ((Int.toNat x16) * 1))
  ((call cc N n_ref28_New [V.int IntKind.i64 x16, V.sl (V.slN (cellAt c14 ((Int.toNat x16) * 1))) (V.slC (cellAt c14 ((Int.toNat x16) * 1)))]).bind fun v17 =>
  cond (okRes [(true, [CK.i IntKind.u8, CK.i IntKind.i64, CK.i IntKind.i64, CK.sl 11, CK.sl 1, CK.sl 11, CK.sl 5, CK.sl 5, CK.sl 3]), (false, [CK.i IntKind.i64])] v17)
  (some (V.agg [V.int IntKind.u8 (V.toI (cellAt (V.cells (cellAt (V.cs v17) 0)) 0)), V.int IntKind.i64 (V.toI (cellAt (V.cells (cellAt (V.cs v17) 0)) 1)), V.int IntKind.i64 (V.toI (cellAt (V.cells (cellAt (V.cs v17) 0)) 2)), V.sl (V.slN (cellAt (V.cells (cellAt (V.cs v17) 0)) 3)) (V.slC (cellAt (V.cells (cellAt (V.cs v17) 0)) 3)), V.sl (V.slN (cellAt (V.cells (cellAt (V.cs v17) 0)) 4)) (V.slC (cellAt (V.cells (cellAt (V.cs v17) 0)) 4)), V.sl (V.slN (cellAt (V.cells (cellAt (V.cs v17) 0)) 5)) (V.slC (cellAt (V.cells (cellAt (V.cs v17) 0)) 5)), V.sl (V.slN (cellAt (V.cells (cellAt (V.cs v17) 0)) 6)) (V.slC (cellAt (V.cells (cellAt (V.cs v17) 0)) 6)), V.sl (V.slN (cellAt (V.cells (cellAt (V.cs v17) 0)) 7)) (V.slC (cellAt (V.cells (cellAt (V.cs v17) 0)) 7)), V.sl (V.slN (cellAt (V.cells (cellAt (V.cs v17) 0)) 8)) (V.slC (cellAt (V.cells (cellAt (V.cs v17) 0)) 8))]))
  none)
  none)
  none)
  none)
 (cond (x15 == (2 : Int))
  ((call cc N n_ref29_New [V.int IntKind.i64 x16]).bind fun v18 =>
   cond (okRes [(true, [CK.i IntKind.u8, CK.i IntKind.i64, CK.i IntKind.i64, CK.sl 11, CK.sl 1, CK.sl 11, CK.sl 5, CK.sl 5, CK.sl 3]), (false, [CK.i IntKind.i64])] v18)
   (some (V.agg [V.int IntKind.u8 (V.toI (cellAt (V.cells (cellAt (V.cs v18) 0)) 0)), V.int IntKind.i64 (V.toI (cellAt (V.cells (cellAt (V.cs v18) 0)) 1)), V.int IntKind.i64 (V.toI (cellAt (V.cells (cellAt (V.cs v18) 0)) 2)), V.sl (V.slN (cellAt (V.cells (cellAt (V.cs v18) 0)) 3)) (V.slC (cellAt (V.cells (cellAt (V.cs v18) 0)) 3)), V.sl (V.slN (cellAt (V.cells (cellAt (V.cs v18) 0)) 4)) (V.slC (cellAt (V.cells (cellAt (V.cs v18) 0)) 4)), V.sl (V.slN (cellAt (V.cells (cellAt (V.cs v18) 0)) 5)) (V.slC (cellAt (V.cells (cellAt (V.cs v18) 0)) 5)), V.sl (V.slN (cellAt (V.cells (cellAt (V.cs v18) 0)) 6)) (V.slC (cellAt (V.cells (cellAt (V.cs v18) 0)) 6)), V.sl (V.slN (cellAt (V.cells (cellAt (V.cs v18) 0)) 7)) (V.slC (cellAt (V.cells (cellAt (V.cs v18) 0)) 7)), V.sl (V.slN (cellAt (V.cells (cellAt (V.cs v18) 0)) 8)) (V.slC (cellAt (V.cells (cellAt (V.cs v18) 0)) 8))]))
   none)
  (cond (x15 == (3 : Int))
   ((call cc N n_ref30_New [V.int IntKind.i64 x16]).bind fun v19 =>
    cond (okRes [(true, [CK.i IntKind.u8, CK.i IntKind.i64, CK.i IntKind.i64, CK.sl 11, CK.sl 1, CK.sl 11, CK.sl 5, CK.sl 5, CK.sl 3]), (false, [CK.i IntKind.i64])] v19)
    (some (V.agg [V.int IntKind.u8 (V.toI (cellAt (V.cells (cellAt (V.cs v19) 0)) 0)), V.int IntKind.i64 (V.toI (cellAt (V.cells (cellAt (V.cs v19) 0)) 1)), V.int IntKind.i64 (V.toI (cellAt (V.cells (cellAt (V.cs v19) 0)) 2)), V.sl (V.slN (cellAt (V.cells (cellAt (V.cs v19) 0)) 3)) (V.slC (cellAt (V.cells (cellAt (V.cs v19) 0)) 3)), V.sl (V.slN (cellAt (V.cells (cellAt (V.cs v19) 0)) 4)) (V.slC (cellAt (V.cells (cellAt (V.cs v19) 0)) 4)), V.sl (V.slN (cellAt (V.cells (cellAt (V.cs v19) 0)) 5)) (V.slC (cellAt (V.cells (cellAt (V.cs v19) 0)) 5)), V.sl (V.slN (cellAt (V.cells (cellAt (V.cs v19) 0)) 6)) (V.slC (cellAt (V.cells (cellAt (V.cs v19) 0)) 6)), V.sl (V.slN (cellAt (V.cells (cellAt (V.cs v19) 0)) 7)) (V.slC (cellAt (V.cells (cellAt (V.cs v19) 0)) 7)), V.sl (V.slN (cellAt (V.cells (cellAt (V.cs v19) 0)) 8)) (V.slC (cellAt (V.cells (cellAt (V.cs v19) 0)) 8))]))
    none)
   (cond (x15 == (4 : Int))
    ((call cc N n_ref32_New [V.int IntKind.i64 x16, V.int IntKind.i64 ((n3 : Nat) : Int)]).bind fun v20 =>
     cond (okRes [(true, [CK.i IntKind.u8, CK.i IntKind.i64, CK.i IntKind.i64, CK.sl 11, CK.sl 1, CK.sl 11, CK.sl 5, CK.sl 5, CK.sl 3]), (false, [CK.i IntKind.i64])] v20)
     (some (V.agg [V.int IntKind.u8 (V.toI (cellAt (V.cells (cellAt (V.cs v20) 0)) 0)), V.int IntKind.i64 (V.toI (cellAt (V.cells (cellAt (V.cs v20) 0)) 1)), V.int IntKind.i64 (V.toI (cellAt (V.cells (cellAt (V.cs v20) 0)) 2)), V.sl (V.slN (cellAt (V.cells (cellAt (V.cs v20) 0)) 3)) (V.slC (cellAt (V.cells (cellAt (V.cs v20) 0)) 3)), V.sl (V.slN (cellAt (V.cells (cellAt (V.cs v20) 0)) 4)) (V.slC (cellAt (V.cells (cellAt (V.cs v20) 0)) 4)), V.sl (V.slN (cellAt (V.cells (cellAt (V.cs v20) 0)) 5)) (V.slC (cellAt (V.cells (cellAt (V.cs v20) 0)) 5)), V.sl (V.slN (cellAt (V.cells (cellAt (V.cs v20) 0)) 6)) (V.slC (cellAt (V.cells (cellAt (V.cs v20) 0)) 6)), V.sl (V.slN (cellAt (V.cells (cellAt (V.cs v20) 0)) 7)) (V.slC (cellAt (V.cells (cellAt (V.cs v20) 0)) 7)), V.sl (V.slN (cellAt (V.cells (cellAt (V.cs v20) 0)) 8)) (V.slC (cellAt (V.cells (cellAt (V.cs v20) 0)) 8))]))
     none)
    (cond (x15 == (5 : Int))
     ((call cc N n_ref33_New [V.int IntKind.i64 x16]).bind fun v21 =>
      cond (okRes [(true, [CK.i IntKind.u8, CK.i IntKind.i64, CK.i IntKind.i64, CK.sl 11, CK.sl 1, CK.sl 11, CK.sl 5, CK.sl 5, CK.sl 3]), (false, [CK.i IntKind.i64])] v21)
      (some (V.agg [V.int IntKind.u8 (V.toI (cellAt (V.cells (cellAt (V.cs v21) 0)) 0)), V.int IntKind.i64 (V.toI (cellAt (V.cells (cellAt (V.cs v21) 0)) 1)), V.int IntKind.i64 (V.toI (cellAt (V.cells (cellAt (V.cs v21) 0)) 2)), V.sl (V.slN (cellAt (V.cells (cellAt (V.cs v21) 0)) 3)) (V.slC (cellAt (V.cells (cellAt (V.cs v21) 0)) 3)), V.sl (V.slN (cellAt (V.cells (cellAt (V.cs v21) 0)) 4)) (V.slC (cellAt (V.cells (cellAt (V.cs v21) 0)) 4)), V.sl (V.slN (cellAt (V.cells (cellAt (V.cs v21) 0)) 5)) (V.slC (cellAt (V.cells (cellAt (V.cs v21) 0)) 5)), V.sl (V.slN (cellAt (V.cells (cellAt (V.cs v21) 0)) 6)) (V.slC (cellAt (V.cells (cellAt (V.cs v21) 0)) 6)), V.sl (V.slN (cellAt (V.cells (cellAt (V.cs v21) 0)) 7)) (V.slC (cellAt (V.cells (cellAt (V.cs v21) 0)) 7)), V.sl (V.slN (cellAt (V.cells (cellAt (V.cs v21) 0)) 8)) (V.slC (cellAt (V.cells (cellAt (V.cs v21) 0)) 8))]))
      none)
     (cond (x15 == (7 : Int))
      ((call cc N n_ref34_New [V.bool true]).bind fun v22 =>
       cond (okRes [(true, [CK.i IntKind.u8, CK.i IntKind.i64, CK.i IntKind.i64, CK.sl 11, CK.sl 1, CK.sl 11, CK.sl 5, CK.sl 5, CK.sl 3])] v22)
       (some (V.agg [V.int IntKind.u8 (V.toI (cellAt (V.cells v22) 0)), V.int IntKind.i64 (V.toI (cellAt (V.cells v22) 1)), V.int IntKind.i64 (V.toI (cellAt (V.cells v22) 2)), V.sl (V.slN (cellAt (V.cells v22) 3)) (V.slC (cellAt (V.cells v22) 3)), V.sl (V.slN (cellAt (V.cells v22) 4)) (V.slC (cellAt (V.cells v22) 4)), V.sl (V.slN (cellAt (V.cells v22) 5)) (V.slC (cellAt (V.cells v22) 5)), V.sl (V.slN (cellAt (V.cells v22) 6)) (V.slC (cellAt (V.cells v22) 6)), V.sl (V.slN (cellAt (V.cells v22) 7)) (V.slC (cellAt (V.cells v22) 7)), V.sl (V.slN (cellAt (V.cells v22) 8)) (V.slC (cellAt (V.cells v22) 8))]))
       none)
      ((call cc N n_ref34_New [V.bool false]).bind fun v23 =>
       cond (okRes [(true, [CK.i IntKind.u8, CK.i IntKind.i64, CK.i IntKind.i64, CK.sl 11, CK.sl 1, CK.sl 11, CK.sl 5, CK.sl 5, CK.sl 3])] v23)
       (some (V.agg [V.int IntKind.u8 (V.toI (cellAt (V.cells v23) 0)), V.int IntKind.i64 (V.toI (cellAt (V.cells v23) 1)), V.int IntKind.i64 (V.toI (cellAt (V.cells v23) 2)), V.sl (V.slN (cellAt (V.cells v23) 3)) (V.slC (cellAt (V.cells v23) 3)), V.sl (V.slN (cellAt (V.cells v23) 4)) (V.slC (cellAt (V.cells v23) 4)), V.sl (V.slN (cellAt (V.cells v23) 5)) (V.slC (cellAt (V.cells v23) 5)), V.sl (V.slN (cellAt (V.cells v23) 6)) (V.slC (cellAt (V.cells v23) 6)), V.sl (V.slN (cellAt (V.cells v23) 7)) (V.slC (cellAt (V.cells v23) 7)), V.sl (V.slN (cellAt (V.cells v23) 8)) (V.slC (cellAt (V.cells v23) 8))]))
       none)))))) := by kernel_rfl


theorem F_ref26_New (N : Nat) (x0 : Int) : call cc (N + 1) n_ref26_New [V.int IntKind.i64 x0] =
 cond (decide (x0 < (1 : Int)))
 (some (V.tup [V.agg [V.int IntKind.i64 (0 : Int), V.sl 0 []], V.int IntKind.i64 (2 : Int)]))
 (cond (decide (x0 > (8 : Int)))
  (some (V.tup [V.agg [V.int IntKind.i64 (0 : Int), V.sl 0 []], V.int IntKind.i64 (2 : Int)]))
  (some (V.tup [V.agg [V.int IntKind.i64 x0, V.sl 0 []], V.int IntKind.i64 (0 : Int)]))) := by kernel_rfl


noncomputable def S_ref04_Alike_4 (N : Nat) (n0 : Nat) (c1 : List V) (n2 : Nat) (c3 : List V) (x4 : Int) : Option V := runAt cc N n_ref04_Alike 4 (envOf 32 [(0, V.sl n0 c1), (1, V.sl n2 c3), (5, V.int IntKind.i64 x4)]) [] [] 0
theorem F_ref04_Alike (N : Nat) (n0 : Nat) (c1 : List V) (n2 : Nat) (c3 : List V) : call cc (N + 1) n_ref04_Alike [V.sl n0 c1, V.sl n2 c3] =
 cond (((n0 : Nat) : Int) != ((n2 : Nat) : Int))
 (some (V.bool false))
 (S_ref04_Alike_4 N n0 c1 n2 c3 (0 : Int)) := by kernel_rfl
theorem S_ref04_Alike_4_eq (N : Nat) (n0 : Nat) (c1 : List V) (n2 : Nat) (c3 : List V) (x4 : Int) : S_ref04_Alike_4 (N + 1) n0 c1 n2 c3 x4 =
 cond (decide (x4 < ((n0 : Nat) : Int)))
 (cond (decide ((0 : Int) ≤ x4))
  (cond (decide (x4 < ((n0 : Nat) : Int)))
  (cond (okT [CK.i IntKind.u8, CK.i IntKind.i64, CK.i IntKind.i64, CK.i IntKind.i64, CK.i IntKind.i64] c1 ((Int.toNat x4) * 5))
  (cond (decide ((0 : Int) ≤ x4))
  (cond (decide (x4 < ((n2 : Nat) : Int)))
  (cond (okT [CK.i IntKind.u8, CK.i IntKind.i64, CK.i IntKind.i64, CK.i IntKind.i64, CK.i IntKind.i64] c3 ((Int.toNat x4) * 5))
  (cond (!(((V.toI (cellAt c1 ((Int.toNat x4) * 5))) == (V.toI (cellAt c3 ((Int.toNat x4) * 5)))) && (((V.toI (cellAt c1 (((Int.toNat x4) * 5) + 1))) == (V.toI (cellAt c3 (((Int.toNat x4) * 5) + 1)))) && (((V.toI (cellAt c1 ((((Int.toNat x4) * 5) + 1) + 1))) == (V.toI (cellAt c3 ((((Int.toNat x4) * 5) + 1) + 1)))) && (((V.toI (cellAt c1 (((((Int.toNat x4) * 5) + 1) + 1) + 1))) == (V.toI (cellAt c3 (((((Int.toNat x4) * 5) + 1) + 1) + 1)))) && true)))))
  (some (V.bool false))
  (S_ref04_Alike_4 N n0 c1 n2 c3 (IntKind.wrap IntKind.i64 (x4 + (1 : Int)))))
  none)
  none)
  none)
  none)
  none)
  none)
 (some (V.bool true)) := by kernel_rfl


noncomputable def S_ref08_SameSources_4 (N : Nat) (n0 : Nat) (c1 : List V) (n2 : Nat) (c3 : List V) (x4 : Int) : Option V := runAt cc N n_ref08_SameSources 4 (envOf 26 [(0, V.sl n0 c1), (1, V.sl n2 c3), (5, V.int IntKind.i64 x4)]) [] [] 0
theorem F_ref08_SameSources (N : Nat) (n0 : Nat) (c1 : List V) (n2 : Nat) (c3 : List V) : call cc (N + 1) n_ref08_SameSources [V.sl n0 c1, V.sl n2 c3] =
 cond (((n0 : Nat) : Int) != ((n2 : Nat) : Int))
 (some (V.bool false))
 (S_ref08_SameSources_4 N n0 c1 n2 c3 (0 : Int)) := by kernel_rfl
theorem S_ref08_SameSources_4_eq (N : Nat) (n0 : Nat) (c1 : List V) (n2 : Nat) (c3 : List V) (x4 : Int) : S_ref08_SameSources_4 (N + 1) n0 c1 n2 c3 x4 =
 cond (decide (x4 < ((n0 : Nat) : Int)))
 (cond (decide ((0 : Int) ≤ x4))
  (cond (decide (x4 < ((n0 : Nat) : Int)))
  (cond (okT [CK.i IntKind.i64] c1 ((Int.toNat x4) * 1))
  (cond (decide ((0 : Int) ≤ x4))
  (cond (decide (x4 < ((n2 : Nat) : Int)))
  (cond (okT [CK.i IntKind.i64] c3 ((Int.toNat x4) * 1))
  (cond ((V.toI (cellAt c1 ((Int.toNat x4) * 1))) != (V.toI (cellAt c3 ((Int.toNat x4) * 1))))
  (some (V.bool false))
  (S_ref08_SameSources_4 N n0 c1 n2 c3 (IntKind.wrap IntKind.i64 (x4 + (1 : Int)))))
  none)
  none)
  none)
  none)
  none)
  none)
 (some (V.bool true)) := by kernel_rfl


noncomputable def S_ref26_SameAll_4 (N : Nat) (n0 : Nat) (c1 : List V) (n2 : Nat) (c3 : List V) (x4 : Int) : Option V := runAt cc N n_ref26_SameAll 4 (envOf 27 [(0, V.sl n0 c1), (1, V.sl n2 c3), (5, V.int IntKind.i64 x4)]) [] [] 0
theorem F_ref26_SameAll (N : Nat) (n0 : Nat) (c1 : List V) (n2 : Nat) (c3 : List V) : call cc (N + 1) n_ref26_SameAll [V.sl n0 c1, V.sl n2 c3] =
 cond (((n0 : Nat) : Int) != ((n2 : Nat) : Int))
 (some (V.bool false))
 (S_ref26_SameAll_4 N n0 c1 n2 c3 (0 : Int)) := by kernel_rfl
theorem S_ref26_SameAll_4_eq (N : Nat) (n0 : Nat) (c1 : List V) (n2 : Nat) (c3 : List V) (x4 : Int) : S_ref26_SameAll_4 (N + 1) n0 c1 n2 c3 x4 =
 cond (decide (x4 < ((n0 : Nat) : Int)))
 (cond (decide ((0 : Int) ≤ x4))
  (cond (decide (x4 < ((n0 : Nat) : Int)))
  (cond (okT [CK.i IntKind.i64, CK.sl 10] c1 ((Int.toNat x4) * 2))
  (cond (decide ((0 : Int) ≤ x4))
  (cond (decide (x4 < ((n2 : Nat) : Int)))
  (cond (okT [CK.i IntKind.i64, CK.sl 10] c3 ((Int.toNat x4) * 2))
  ((call cc N n_ref26_Same [V.agg [V.int IntKind.i64 (V.toI (cellAt c1 ((Int.toNat x4) * 2))), V.sl (V.slN (cellAt c1 (((Int.toNat x4) * 2) + 1))) (V.slC (cellAt c1 (((Int.toNat x4) * 2) + 1)))], V.agg [V.int IntKind.i64 (V.toI (cellAt c3 ((Int.toNat x4) * 2))), V.sl (V.slN (cellAt c3 (((Int.toNat x4) * 2) + 1))) (V.slC (cellAt c3 (((Int.toNat x4) * 2) + 1)))]]).bind fun v5 =>
  cond (okRes [(false, [CK.b])] v5)
  (cond (V.toB (cellAt (V.cells v5) 0))
  (S_ref26_SameAll_4 N n0 c1 n2 c3 (IntKind.wrap IntKind.i64 (x4 + (1 : Int))))
  (some (V.bool false)))
  none)
  none)
  none)
  none)
  none)
  none)
  none)
 (some (V.bool true)) := by kernel_rfl


noncomputable def S_ref27_Same_4 (N : Nat) (x0 : Int) (x1 : Int) (x2 : Int) (x3 : Int) (n4 : Nat) (c5 : List V) (n6 : Nat) (c7 : List V) (n8 : Nat) (c9 : List V) (n10 : Nat) (c11 : List V) (n12 : Nat) (c13 : List V) (n14 : Nat) (c15 : List V) (x16 : Int) (x17 : Int) (x18 : Int) (n19 : Nat) (c20 : List V) (n21 : Nat) (c22 : List V) (n23 : Nat) (c24 : List V) (n25 : Nat) (c26 : List V) (n27 : Nat) (c28 : List V) (n29 : Nat) (c30 : List V) : Option V := runAt cc N n_ref27_Same 4 (envOf 165 [(2, V.ptr 0 0), (3, V.ptr 1 0), (5, V.int IntKind.i64 x0)]) [⟨[V.int IntKind.u8 x1, V.int IntKind.i64 x2, V.int IntKind.i64 x3, V.sl n4 c5, V.sl n6 c7, V.sl n8 c9, V.sl n10 c11, V.sl n12 c13, V.sl n14 c15], 1, 0, true⟩, ⟨[V.int IntKind.u8 x16, V.int IntKind.i64 x17, V.int IntKind.i64 x18, V.sl n19 c20, V.sl n21 c22, V.sl n23 c24, V.sl n25 c26, V.sl n27 c28, V.sl n29 c30], 1, 0, true⟩] [] 0
noncomputable def S_ref27_Same_9 (N : Nat) (x0 : Int) (x1 : Int) (x2 : Int) (x3 : Int) (n4 : Nat) (c5 : List V) (n6 : Nat) (c7 : List V) (n8 : Nat) (c9 : List V) (n10 : Nat) (c11 : List V) (n12 : Nat) (c13 : List V) (n14 : Nat) (c15 : List V) (x16 : Int) (x17 : Int) (x18 : Int) (n19 : Nat) (c20 : List V) (n21 : Nat) (c22 : List V) (n23 : Nat) (c24 : List V) (n25 : Nat) (c26 : List V) (n27 : Nat) (c28 : List V) (n29 : Nat) (c30 : List V) : Option V := runAt cc N n_ref27_Same 9 (envOf 165 [(2, V.ptr 0 0), (3, V.ptr 1 0), (6, V.int IntKind.i64 x0)]) [⟨[V.int IntKind.u8 x1, V.int IntKind.i64 x2, V.int IntKind.i64 x3, V.sl n4 c5, V.sl n6 c7, V.sl n8 c9, V.sl n10 c11, V.sl n12 c13, V.sl n14 c15], 1, 0, true⟩, ⟨[V.int IntKind.u8 x16, V.int IntKind.i64 x17, V.int IntKind.i64 x18, V.sl n19 c20, V.sl n21 c22, V.sl n23 c24, V.sl n25 c26, V.sl n27 c28, V.sl n29 c30], 1, 0, true⟩] [] 0
noncomputable def S_ref27_Same_14 (N : Nat) (x0 : Int) (x1 : Int) (x2 : Int) (x3 : Int) (n4 : Nat) (c5 : List V) (n6 : Nat) (c7 : List V) (n8 : Nat) (c9 : List V) (n10 : Nat) (c11 : List V) (n12 : Nat) (c13 : List V) (n14 : Nat) (c15 : List V) (x16 : Int) (x17 : Int) (x18 : Int) (n19 : Nat) (c20 : List V) (n21 : Nat) (c22 : List V) (n23 : Nat) (c24 : List V) (n25 : Nat) (c26 : List V) (n27 : Nat) (c28 : List V) (n29 : Nat) (c30 : List V) : Option V := runAt cc N n_ref27_Same 14 (envOf 165 [(2, V.ptr 0 0), (3, V.ptr 1 0), (7, V.int IntKind.i64 x0)]) [⟨[V.int IntKind.u8 x1, V.int IntKind.i64 x2, V.int IntKind.i64 x3, V.sl n4 c5, V.sl n6 c7, V.sl n8 c9, V.sl n10 c11, V.sl n12 c13, V.sl n14 c15], 1, 0, true⟩, ⟨[V.int IntKind.u8 x16, V.int IntKind.i64 x17, V.int IntKind.i64 x18, V.sl n19 c20, V.sl n21 c22, V.sl n23 c24, V.sl n25 c26, V.sl n27 c28, V.sl n29 c30], 1, 0, true⟩] [] 0
noncomputable def S_ref27_Same_19 (N : Nat) (x0 : Int) (x1 : Int) (x2 : Int) (x3 : Int) (n4 : Nat) (c5 : List V) (n6 : Nat) (c7 : List V) (n8 : Nat) (c9 : List V) (n10 : Nat) (c11 : List V) (n12 : Nat) (c13 : List V) (n14 : Nat) (c15 : List V) (x16 : Int) (x17 : Int) (x18 : Int) (n19 : Nat) (c20 : List V) (n21 : Nat) (c22 : List V) (n23 : Nat) (c24 : List V) (n25 : Nat) (c26 : List V) (n27 : Nat) (c28 : List V) (n29 : Nat) (c30 : List V) : Option V := runAt cc N n_ref27_Same 19 (envOf 165 [(2, V.ptr 0 0), (3, V.ptr 1 0), (8, V.int IntKind.i64 x0)]) [⟨[V.int IntKind.u8 x1, V.int IntKind.i64 x2, V.int IntKind.i64 x3, V.sl n4 c5, V.sl n6 c7, V.sl n8 c9, V.sl n10 c11, V.sl n12 c13, V.sl n14 c15], 1, 0, true⟩, ⟨[V.int IntKind.u8 x16, V.int IntKind.i64 x17, V.int IntKind.i64 x18, V.sl n19 c20, V.sl n21 c22, V.sl n23 c24, V.sl n25 c26, V.sl n27 c28, V.sl n29 c30], 1, 0, true⟩] [] 0
noncomputable def S_ref27_Same_24 (N : Nat) (x0 : Int) (x1 : Int) (x2 : Int) (x3 : Int) (n4 : Nat) (c5 : List V) (n6 : Nat) (c7 : List V) (n8 : Nat) (c9 : List V) (n10 : Nat) (c11 : List V) (n12 : Nat) (c13 : List V) (n14 : Nat) (c15 : List V) (x16 : Int) (x17 : Int) (x18 : Int) (n19 : Nat) (c20 : List V) (n21 : Nat) (c22 : List V) (n23 : Nat) (c24 : List V) (n25 : Nat) (c26 : List V) (n27 : Nat) (c28 : List V) (n29 : Nat) (c30 : List V) : Option V := runAt cc N n_ref27_Same 24 (envOf 165 [(2, V.ptr 0 0), (3, V.ptr 1 0), (9, V.int IntKind.i64 x0)]) [⟨[V.int IntKind.u8 x1, V.int IntKind.i64 x2, V.int IntKind.i64 x3, V.sl n4 c5, V.sl n6 c7, V.sl n8 c9, V.sl n10 c11, V.sl n12 c13, V.sl n14 c15], 1, 0, true⟩, ⟨[V.int IntKind.u8 x16, V.int IntKind.i64 x17, V.int IntKind.i64 x18, V.sl n19 c20, V.sl n21 c22, V.sl n23 c24, V.sl n25 c26, V.sl n27 c28, V.sl n29 c30], 1, 0, true⟩] [] 0
theorem F_ref27_Same (N : Nat) (x0 : Int) (x1 : Int) (x2 : Int) (n3 : Nat) (c4 : List V) (n5 : Nat) (c6 : List V) (n7 : Nat) (c8 : List V) (n9 : Nat) (c10 : List V) (n11 : Nat) (c12 : List V) (n13 : Nat) (c14 : List V) (x15 : Int) (x16 : Int) (x17 : Int) (n18 : Nat) (c19 : List V) (n20 : Nat) (c21 : List V) (n22 : Nat) (c23 : List V) (n24 : Nat) (c25 : List V) (n26 : Nat) (c27 : List V) (n28 : Nat) (c29 : List V) : call cc (N + 1) n_ref27_Same [V.agg [V.int IntKind.u8 x0, V.int IntKind.i64 x1, V.int IntKind.i64 x2, V.sl n3 c4, V.sl n5 c6, V.sl n7 c8, V.sl n9 c10, V.sl n11 c12, V.sl n13 c14], V.agg [V.int IntKind.u8 x15, V.int IntKind.i64 x16, V.int IntKind.i64 x17, V.sl n18 c19, V.sl n20 c21, V.sl n22 c23, V.sl n24 c25, V.sl n26 c27, V.sl n28 c29]] =
 cond (!((x0 == x15) && ((x1 == x16) && true)))
 (some (V.bool false))
 (cond (x2 != x17)
  (some (V.bool false))
  ((call cc N n_ref27_SameSends [V.sl n3 c4, V.sl n18 c19]).bind fun v30 =>
   cond (okRes [(false, [CK.b])] v30)
   (cond (V.toB (cellAt (V.cells v30) 0))
   (cond (((n5 : Nat) : Int) != ((n20 : Nat) : Int))
    (some (V.bool false))
    (cond (((n7 : Nat) : Int) != ((n22 : Nat) : Int))
     (some (V.bool false))
     (cond (((n9 : Nat) : Int) != ((n24 : Nat) : Int))
      (some (V.bool false))
      (cond (((n11 : Nat) : Int) != ((n26 : Nat) : Int))
       (some (V.bool false))
       (cond (((n13 : Nat) : Int) != ((n28 : Nat) : Int))
        (some (V.bool false))
        (S_ref27_Same_4 N (0 : Int) x0 x1 x2 n3 c4 n5 c6 n7 c8 n9 c10 n11 c12 n13 c14 x15 x16 x17 n18 c19 n20 c21 n22 c23 n24 c25 n26 c27 n28 c29))))))
   (some (V.bool false)))
   none)) := by kernel_rfl
theorem S_ref27_Same_4_eq (N : Nat) (x0 : Int) (x1 : Int) (x2 : Int) (x3 : Int) (n4 : Nat) (c5 : List V) (n6 : Nat) (c7 : List V) (n8 : Nat) (c9 : List V) (n10 : Nat) (c11 : List V) (n12 : Nat) (c13 : List V) (n14 : Nat) (c15 : List V) (x16 : Int) (x17 : Int) (x18 : Int) (n19 : Nat) (c20 : List V) (n21 : Nat) (c22 : List V) (n23 : Nat) (c24 : List V) (n25 : Nat) (c26 : List V) (n27 : Nat) (c28 : List V) (n29 : Nat) (c30 : List V) : S_ref27_Same_4 (N + 1) x0 x1 x2 x3 n4 c5 n6 c7 n8 c9 n10 c11 n12 c13 n14 c15 x16 x17 x18 n19 c20 n21 c22 n23 c24 n25 c26 n27 c28 n29 c30 =
 cond (decide (x0 < ((n6 : Nat) : Int)))
 (cond (decide ((0 : Int) ≤ x0))
  (cond (decide (x0 < ((n6 : Nat) : Int)))
  (cond (okT [CK.i IntKind.i64] c7 ((Int.toNat x0) * 1))
  (cond (decide ((0 : Int) ≤ x0))
  (cond (decide (x0 < ((n21 : Nat) : Int)))
  (cond (okT [CK.i IntKind.i64] c22 ((Int.toNat x0) * 1))
  (cond ((V.toI (cellAt c7 ((Int.toNat x0) * 1))) != (V.toI (cellAt c22 ((Int.toNat x0) * 1))))
  (some (V.bool false))
  (S_ref27_Same_4 N (IntKind.wrap IntKind.i64 (x0 + (1 : Int))) x1 x2 x3 n4 c5 n6 c7 n8 c9 n10 c11 n12 c13 n14 c15 x16 x17 x18 n19 c20 n21 c22 n23 c24 n25 c26 n27 c28 n29 c30))
  none)
  none)
  none)
  none)
  none)
  none)
 (S_ref27_Same_9 N (0 : Int) x1 x2 x3 n4 c5 n6 c7 n8 c9 n10 c11 n12 c13 n14 c15 x16 x17 x18 n19 c20 n21 c22 n23 c24 n25 c26 n27 c28 n29 c30) := by kernel_rfl
theorem S_ref27_Same_9_eq (N : Nat) (x0 : Int) (x1 : Int) (x2 : Int) (x3 : Int) (n4 : Nat) (c5 : List V) (n6 : Nat) (c7 : List V) (n8 : Nat) (c9 : List V) (n10 : Nat) (c11 : List V) (n12 : Nat) (c13 : List V) (n14 : Nat) (c15 : List V) (x16 : Int) (x17 : Int) (x18 : Int) (n19 : Nat) (c20 : List V) (n21 : Nat) (c22 : List V) (n23 : Nat) (c24 : List V) (n25 : Nat) (c26 : List V) (n27 : Nat) (c28 : List V) (n29 : Nat) (c30 : List V) : S_ref27_Same_9 (N + 1) x0 x1 x2 x3 n4 c5 n6 c7 n8 c9 n10 c11 n12 c13 n14 c15 x16 x17 x18 n19 c20 n21 c22 n23 c24 n25 c26 n27 c28 n29 c30 =
 cond (decide (x0 < ((n8 : Nat) : Int)))
 (cond (decide ((0 : Int) ≤ x0))
  (cond (decide (x0 < ((n8 : Nat) : Int)))
  (cond (okT [CK.i IntKind.i64, CK.i IntKind.i64, CK.i IntKind.i64, CK.i IntKind.i64, CK.i IntKind.i64, CK.i IntKind.i64, CK.i IntKind.i64, CK.i IntKind.i64, CK.i IntKind.i64, CK.i IntKind.i64, CK.i IntKind.i64] c9 ((Int.toNat x0) * 11))
  (cond (decide ((0 : Int) ≤ x0))
  (cond (decide (x0 < ((n23 : Nat) : Int)))
  (cond (okT [CK.i IntKind.i64, CK.i IntKind.i64, CK.i IntKind.i64, CK.i IntKind.i64, CK.i IntKind.i64, CK.i IntKind.i64, CK.i IntKind.i64, CK.i IntKind.i64, CK.i IntKind.i64, CK.i IntKind.i64, CK.i IntKind.i64] c24 ((Int.toNat x0) * 11))
  (cond (!(((V.toI (cellAt c9 ((Int.toNat x0) * 11))) == (V.toI (cellAt c24 ((Int.toNat x0) * 11)))) && ((((V.toI (cellAt c9 (((Int.toNat x0) * 11) + 1))) == (V.toI (cellAt c24 (((Int.toNat x0) * 11) + 1)))) && (((V.toI (cellAt c9 ((((Int.toNat x0) * 11) + 1) + 1))) == (V.toI (cellAt c24 ((((Int.toNat x0) * 11) + 1) + 1)))) && true)) && (((((V.toI (cellAt c9 (((((Int.toNat x0) * 11) + 1) + 1) + 1))) == (V.toI (cellAt c24 (((((Int.toNat x0) * 11) + 1) + 1) + 1)))) && (((V.toI (cellAt c9 ((((((Int.toNat x0) * 11) + 1) + 1) + 1) + 1))) == (V.toI (cellAt c24 ((((((Int.toNat x0) * 11) + 1) + 1) + 1) + 1)))) && (((V.toI (cellAt c9 (((((((Int.toNat x0) * 11) + 1) + 1) + 1) + 1) + 1))) == (V.toI (cellAt c24 (((((((Int.toNat x0) * 11) + 1) + 1) + 1) + 1) + 1)))) && (((V.toI (cellAt c9 ((((((((Int.toNat x0) * 11) + 1) + 1) + 1) + 1) + 1) + 1))) == (V.toI (cellAt c24 ((((((((Int.toNat x0) * 11) + 1) + 1) + 1) + 1) + 1) + 1)))) && true)))) && ((((V.toI (cellAt c9 (((((((((Int.toNat x0) * 11) + 1) + 1) + 1) + 1) + 1) + 1) + 1))) == (V.toI (cellAt c24 (((((((((Int.toNat x0) * 11) + 1) + 1) + 1) + 1) + 1) + 1) + 1)))) && (((V.toI (cellAt c9 ((((((((((Int.toNat x0) * 11) + 1) + 1) + 1) + 1) + 1) + 1) + 1) + 1))) == (V.toI (cellAt c24 ((((((((((Int.toNat x0) * 11) + 1) + 1) + 1) + 1) + 1) + 1) + 1) + 1)))) && (((V.toI (cellAt c9 (((((((((((Int.toNat x0) * 11) + 1) + 1) + 1) + 1) + 1) + 1) + 1) + 1) + 1))) == (V.toI (cellAt c24 (((((((((((Int.toNat x0) * 11) + 1) + 1) + 1) + 1) + 1) + 1) + 1) + 1) + 1)))) && (((V.toI (cellAt c9 ((((((((((((Int.toNat x0) * 11) + 1) + 1) + 1) + 1) + 1) + 1) + 1) + 1) + 1) + 1))) == (V.toI (cellAt c24 ((((((((((((Int.toNat x0) * 11) + 1) + 1) + 1) + 1) + 1) + 1) + 1) + 1) + 1) + 1)))) && true)))) && true)) && true))))
  (some (V.bool false))
  (S_ref27_Same_9 N (IntKind.wrap IntKind.i64 (x0 + (1 : Int))) x1 x2 x3 n4 c5 n6 c7 n8 c9 n10 c11 n12 c13 n14 c15 x16 x17 x18 n19 c20 n21 c22 n23 c24 n25 c26 n27 c28 n29 c30))
  none)
  none)
  none)
  none)
  none)
  none)
 (S_ref27_Same_14 N (0 : Int) x1 x2 x3 n4 c5 n6 c7 n8 c9 n10 c11 n12 c13 n14 c15 x16 x17 x18 n19 c20 n21 c22 n23 c24 n25 c26 n27 c28 n29 c30) := by kernel_rfl
theorem S_ref27_Same_14_eq (N : Nat) (x0 : Int) (x1 : Int) (x2 : Int) (x3 : Int) (n4 : Nat) (c5 : List V) (n6 : Nat) (c7 : List V) (n8 : Nat) (c9 : List V) (n10 : Nat) (c11 : List V) (n12 : Nat) (c13 : List V) (n14 : Nat) (c15 : List V) (x16 : Int) (x17 : Int) (x18 : Int) (n19 : Nat) (c20 : List V) (n21 : Nat) (c22 : List V) (n23 : Nat) (c24 : List V) (n25 : Nat) (c26 : List V) (n27 : Nat) (c28 : List V) (n29 : Nat) (c30 : List V) : S_ref27_Same_14 (N + 1) x0 x1 x2 x3 n4 c5 n6 c7 n8 c9 n10 c11 n12 c13 n14 c15 x16 x17 x18 n19 c20 n21 c22 n23 c24 n25 c26 n27 c28 n29 c30 =
 cond (decide (x0 < ((n10 : Nat) : Int)))
 (cond (decide ((0 : Int) ≤ x0))
  (cond (decide (x0 < ((n10 : Nat) : Int)))
  (cond (okT [CK.b, CK.i IntKind.i64, CK.i IntKind.i64, CK.i IntKind.i64, CK.i IntKind.i64] c11 ((Int.toNat x0) * 5))
  (cond (decide ((0 : Int) ≤ x0))
  (cond (decide (x0 < ((n25 : Nat) : Int)))
  (cond (okT [CK.b, CK.i IntKind.i64, CK.i IntKind.i64, CK.i IntKind.i64, CK.i IntKind.i64] c26 ((Int.toNat x0) * 5))
  (cond (!(((V.toB (cellAt c11 ((Int.toNat x0) * 5))) == (V.toB (cellAt c26 ((Int.toNat x0) * 5)))) && (((V.toI (cellAt c11 (((Int.toNat x0) * 5) + 1))) == (V.toI (cellAt c26 (((Int.toNat x0) * 5) + 1)))) && ((((V.toI (cellAt c11 ((((Int.toNat x0) * 5) + 1) + 1))) == (V.toI (cellAt c26 ((((Int.toNat x0) * 5) + 1) + 1)))) && (((V.toI (cellAt c11 (((((Int.toNat x0) * 5) + 1) + 1) + 1))) == (V.toI (cellAt c26 (((((Int.toNat x0) * 5) + 1) + 1) + 1)))) && (((V.toI (cellAt c11 ((((((Int.toNat x0) * 5) + 1) + 1) + 1) + 1))) == (V.toI (cellAt c26 ((((((Int.toNat x0) * 5) + 1) + 1) + 1) + 1)))) && true))) && true))))
  (some (V.bool false))
  (S_ref27_Same_14 N (IntKind.wrap IntKind.i64 (x0 + (1 : Int))) x1 x2 x3 n4 c5 n6 c7 n8 c9 n10 c11 n12 c13 n14 c15 x16 x17 x18 n19 c20 n21 c22 n23 c24 n25 c26 n27 c28 n29 c30))
  none)
  none)
  none)
  none)
  none)
  none)
 (S_ref27_Same_19 N (0 : Int) x1 x2 x3 n4 c5 n6 c7 n8 c9 n10 c11 n12 c13 n14 c15 x16 x17 x18 n19 c20 n21 c22 n23 c24 n25 c26 n27 c28 n29 c30) := by kernel_rfl
theorem S_ref27_Same_19_eq (N : Nat) (x0 : Int) (x1 : Int) (x2 : Int) (x3 : Int) (n4 : Nat) (c5 : List V) (n6 : Nat) (c7 : List V) (n8 : Nat) (c9 : List V) (n10 : Nat) (c11 : List V) (n12 : Nat) (c13 : List V) (n14 : Nat) (c15 : List V) (x16 : Int) (x17 : Int) (x18 : Int) (n19 : Nat) (c20 : List V) (n21 : Nat) (c22 : List V) (n23 : Nat) (c24 : List V) (n25 : Nat) (c26 : List V) (n27 : Nat) (c28 : List V) (n29 : Nat) (c30 : List V) : S_ref27_Same_19 (N + 1) x0 x1 x2 x3 n4 c5 n6 c7 n8 c9 n10 c11 n12 c13 n14 c15 x16 x17 x18 n19 c20 n21 c22 n23 c24 n25 c26 n27 c28 n29 c30 =
 cond (decide (x0 < ((n12 : Nat) : Int)))
 (cond (decide ((0 : Int) ≤ x0))
  (cond (decide (x0 < ((n12 : Nat) : Int)))
  (cond (okT [CK.i IntKind.i64, CK.i IntKind.i64, CK.i IntKind.i64, CK.i IntKind.i64, CK.i IntKind.i64] c13 ((Int.toNat x0) * 5))
  (cond (decide ((0 : Int) ≤ x0))
  (cond (decide (x0 < ((n27 : Nat) : Int)))
  (cond (okT [CK.i IntKind.i64, CK.i IntKind.i64, CK.i IntKind.i64, CK.i IntKind.i64, CK.i IntKind.i64] c28 ((Int.toNat x0) * 5))
  (cond (!(((V.toI (cellAt c13 ((Int.toNat x0) * 5))) == (V.toI (cellAt c28 ((Int.toNat x0) * 5)))) && ((((V.toI (cellAt c13 (((Int.toNat x0) * 5) + 1))) == (V.toI (cellAt c28 (((Int.toNat x0) * 5) + 1)))) && (((V.toI (cellAt c13 ((((Int.toNat x0) * 5) + 1) + 1))) == (V.toI (cellAt c28 ((((Int.toNat x0) * 5) + 1) + 1)))) && true)) && ((((V.toI (cellAt c13 (((((Int.toNat x0) * 5) + 1) + 1) + 1))) == (V.toI (cellAt c28 (((((Int.toNat x0) * 5) + 1) + 1) + 1)))) && (((V.toI (cellAt c13 ((((((Int.toNat x0) * 5) + 1) + 1) + 1) + 1))) == (V.toI (cellAt c28 ((((((Int.toNat x0) * 5) + 1) + 1) + 1) + 1)))) && true)) && true))))
  (some (V.bool false))
  (S_ref27_Same_19 N (IntKind.wrap IntKind.i64 (x0 + (1 : Int))) x1 x2 x3 n4 c5 n6 c7 n8 c9 n10 c11 n12 c13 n14 c15 x16 x17 x18 n19 c20 n21 c22 n23 c24 n25 c26 n27 c28 n29 c30))
  none)
  none)
  none)
  none)
  none)
  none)
 (S_ref27_Same_24 N (0 : Int) x1 x2 x3 n4 c5 n6 c7 n8 c9 n10 c11 n12 c13 n14 c15 x16 x17 x18 n19 c20 n21 c22 n23 c24 n25 c26 n27 c28 n29 c30) := by kernel_rfl
theorem S_ref27_Same_24_eq (N : Nat) (x0 : Int) (x1 : Int) (x2 : Int) (x3 : Int) (n4 : Nat) (c5 : List V) (n6 : Nat) (c7 : List V) (n8 : Nat) (c9 : List V) (n10 : Nat) (c11 : List V) (n12 : Nat) (c13 : List V) (n14 : Nat) (c15 : List V) (x16 : Int) (x17 : Int) (x18 : Int) (n19 : Nat) (c20 : List V) (n21 : Nat) (c22 : List V) (n23 : Nat) (c24 : List V) (n25 : Nat) (c26 : List V) (n27 : Nat) (c28 : List V) (n29 : Nat) (c30 : List V) : S_ref27_Same_24 (N + 1) x0 x1 x2 x3 n4 c5 n6 c7 n8 c9 n10 c11 n12 c13 n14 c15 x16 x17 x18 n19 c20 n21 c22 n23 c24 n25 c26 n27 c28 n29 c30 =
 cond (decide (x0 < ((n14 : Nat) : Int)))
 (cond (decide ((0 : Int) ≤ x0))
  (cond (decide (x0 < ((n14 : Nat) : Int)))
  (cond (okT [CK.i IntKind.i64, CK.i IntKind.i64, CK.i IntKind.i64] c15 ((Int.toNat x0) * 3))
  (cond (decide ((0 : Int) ≤ x0))
  (cond (decide (x0 < ((n29 : Nat) : Int)))
  (cond (okT [CK.i IntKind.i64, CK.i IntKind.i64, CK.i IntKind.i64] c30 ((Int.toNat x0) * 3))
  (cond (!(((V.toI (cellAt c15 ((Int.toNat x0) * 3))) == (V.toI (cellAt c30 ((Int.toNat x0) * 3)))) && (((V.toI (cellAt c15 (((Int.toNat x0) * 3) + 1))) == (V.toI (cellAt c30 (((Int.toNat x0) * 3) + 1)))) && (((V.toI (cellAt c15 ((((Int.toNat x0) * 3) + 1) + 1))) == (V.toI (cellAt c30 ((((Int.toNat x0) * 3) + 1) + 1)))) && true))))
  (some (V.bool false))
  (S_ref27_Same_24 N (IntKind.wrap IntKind.i64 (x0 + (1 : Int))) x1 x2 x3 n4 c5 n6 c7 n8 c9 n10 c11 n12 c13 n14 c15 x16 x17 x18 n19 c20 n21 c22 n23 c24 n25 c26 n27 c28 n29 c30))
  none)
  none)
  none)
  none)
  none)
  none)
 (some (V.bool true)) := by kernel_rfl


theorem F_nodes_Check (N : Nat) (n0 : Nat) (c1 : List V) : call cc (N + 1) n_nodes_Check [V.sl n0 c1] =
 (call cc N n_nodes_check [V.sl n0 c1]).bind fun v2 =>
 cond (okRes [(false, [CK.sl 3]), (false, [CK.i IntKind.i64])] v2)
 (some (V.int IntKind.i64 (V.toI (cellAt (V.cells (cellAt (V.cs v2) 1)) 0))))
 none := by kernel_rfl


theorem F_clauses_Sources (N : Nat) (n0 : Nat) (c1 : List V) (b2 : Bool) : call cc (N + 1) n_clauses_Sources [V.sl n0 c1, V.bool b2] =
 cond (decide (((n0 : Nat) : Int) > (4 : Int)))
 (some (V.int IntKind.i64 (4 : Int)))
 (cond (((n0 : Nat) : Int) == (0 : Int))
  (some (V.int IntKind.i64 (8 : Int)))
  (cond b2
   (cond (((n0 : Nat) : Int) != (2 : Int))
    (some (V.int IntKind.i64 (8 : Int)))
    ((call cc N n_slices_ContainsFunc_int_int [V.sl n0 c1, V.fn n_clauses_Sources_1 [] []]).bind fun v3 =>
     cond (okRes [(false, [CK.b])] v3)
     (cond (V.toB (cellAt (V.cells v3) 0))
     (some (V.int IntKind.i64 (8 : Int)))
     ((extFn n_clauses_distinct_int [V.sl n0 c1]).bind fun v4 =>
      cond (okRes [(false, [CK.i IntKind.i64])] v4)
      (cond (decide ((V.toI (cellAt (V.cells v4) 0)) < ((n0 : Nat) : Int)))
      (some (V.int IntKind.i64 (43 : Int)))
      (some (V.int IntKind.i64 (0 : Int))))
      none))
     none))
   ((call cc N n_slices_ContainsFunc_int_int [V.sl n0 c1, V.fn n_clauses_Sources_1 [] []]).bind fun v5 =>
    cond (okRes [(false, [CK.b])] v5)
    (cond (V.toB (cellAt (V.cells v5) 0))
    (some (V.int IntKind.i64 (8 : Int)))
    ((extFn n_clauses_distinct_int [V.sl n0 c1]).bind fun v6 =>
     cond (okRes [(false, [CK.i IntKind.i64])] v6)
     (cond (decide ((V.toI (cellAt (V.cells v6) 0)) < ((n0 : Nat) : Int)))
     (some (V.int IntKind.i64 (43 : Int)))
     (some (V.int IntKind.i64 (0 : Int))))
     none))
    none))) := by kernel_rfl


theorem F_clauses_Window (N : Nat) (x0 : Int) (x1 : Int) (x2 : Int) : call cc (N + 1) n_clauses_Window [V.agg [V.int IntKind.u8 x0, V.int IntKind.i64 x1, V.int IntKind.i64 x2]] =
 cond (decide (x1 < (1 : Int)))
 (some (V.int IntKind.i64 (8 : Int)))
 (cond (decide (x1 > (1073741824 : Int)))
  (some (V.int IntKind.i64 (8 : Int)))
  (cond (x0 == (2 : Int))
   (cond (decide (x2 ≥ (1 : Int)))
    (cond (decide (x2 ≤ x1))
     (cond (decide (x1 ≤ (IntKind.wrap IntKind.i64 ((16 : Int) * x2))))
      (some (V.int IntKind.i64 (0 : Int)))
      (some (V.int IntKind.i64 (8 : Int))))
     (some (V.int IntKind.i64 (8 : Int))))
    (some (V.int IntKind.i64 (8 : Int))))
   (cond (x0 == (1 : Int))
    (cond (x2 == (0 : Int))
     (some (V.int IntKind.i64 (0 : Int)))
     (some (V.int IntKind.i64 (8 : Int))))
    (cond (x0 == (3 : Int))
     (cond (x2 == (0 : Int))
      (some (V.int IntKind.i64 (0 : Int)))
      (some (V.int IntKind.i64 (8 : Int))))
     (some (V.int IntKind.i64 (8 : Int))))))) := by kernel_rfl


theorem F_kinds_want (N : Nat) (n0 : Nat) (c1 : List V) (b2 : Bool) : call cc (N + 1) n_kinds_want [V.sl n0 c1, V.bool b2] =
 (call cc N n_kinds_Of [V.sl n0 c1]).bind fun v3 =>
 cond (okRes [(false, [CK.b]), (false, [CK.i IntKind.i64]), (false, [CK.i IntKind.i64])] v3)
 (cond (V.toB (cellAt (V.cells (cellAt (V.cs v3) 0)) 0))
 (cond ((V.toI (cellAt (V.cells (cellAt (V.cs v3) 2)) 0)) == (0 : Int))
  (cond b2
   (some (V.tup [V.int IntKind.i64 (V.toI (cellAt (V.cells (cellAt (V.cs v3) 1)) 0)), V.int IntKind.i64 (V.toI (cellAt (V.cells (cellAt (V.cs v3) 2)) 0))]))
   (some (V.tup [V.int IntKind.i64 (V.toI (cellAt (V.cells (cellAt (V.cs v3) 1)) 0)), V.int IntKind.i64 (42 : Int)])))
  (some (V.tup [V.int IntKind.i64 (V.toI (cellAt (V.cells (cellAt (V.cs v3) 1)) 0)), V.int IntKind.i64 (V.toI (cellAt (V.cells (cellAt (V.cs v3) 2)) 0))])))
 (cond ((V.toI (cellAt (V.cells (cellAt (V.cs v3) 2)) 0)) == (0 : Int))
  (cond b2
   (some (V.tup [V.int IntKind.i64 (V.toI (cellAt (V.cells (cellAt (V.cs v3) 1)) 0)), V.int IntKind.i64 (42 : Int)]))
   (some (V.tup [V.int IntKind.i64 (V.toI (cellAt (V.cells (cellAt (V.cs v3) 1)) 0)), V.int IntKind.i64 (V.toI (cellAt (V.cells (cellAt (V.cs v3) 2)) 0))])))
  (some (V.tup [V.int IntKind.i64 (V.toI (cellAt (V.cells (cellAt (V.cs v3) 1)) 0)), V.int IntKind.i64 (V.toI (cellAt (V.cells (cellAt (V.cs v3) 2)) 0))]))))
 none := by kernel_rfl


noncomputable def S_slices_Equal_uint8_uint8_4 (N : Nat) (n0 : Nat) (c1 : List V) (n2 : Nat) (c3 : List V) (x4 : Int) (x5 : Int) : Option V := runAt cc N n_slices_Equal_uint8_uint8 4 (envOf 26 [(0, V.sl n0 c1), (1, V.sl n2 c3), (12, V.int IntKind.i64 x4), (13, V.int IntKind.i64 x5)]) [] [] 0
theorem F_slices_Equal_uint8_uint8 (N : Nat) (n0 : Nat) (c1 : List V) (n2 : Nat) (c3 : List V) : call cc (N + 1) n_slices_Equal_uint8_uint8 [V.sl n0 c1, V.sl n2 c3] =
 cond (((n0 : Nat) : Int) != ((n2 : Nat) : Int))
 (some (V.bool false))
 (S_slices_Equal_uint8_uint8_4 N n0 c1 n2 c3 ((n0 : Nat) : Int) (0 : Int)) := by kernel_rfl
theorem S_slices_Equal_uint8_uint8_4_eq (N : Nat) (n0 : Nat) (c1 : List V) (n2 : Nat) (c3 : List V) (x4 : Int) (x5 : Int) : S_slices_Equal_uint8_uint8_4 (N + 1) n0 c1 n2 c3 x4 x5 =
 cond (decide (x5 < x4))
 (cond (decide ((0 : Int) ≤ x5))
  (cond (decide (x5 < ((n0 : Nat) : Int)))
  (cond (okT [CK.i IntKind.u8] c1 ((Int.toNat x5) * 1))
  (cond (decide ((0 : Int) ≤ x5))
  (cond (decide (x5 < ((n2 : Nat) : Int)))
  (cond (okT [CK.i IntKind.u8] c3 ((Int.toNat x5) * 1))
  (cond ((V.toI (cellAt c1 ((Int.toNat x5) * 1))) != (V.toI (cellAt c3 ((Int.toNat x5) * 1))))
  (some (V.bool false))
  (S_slices_Equal_uint8_uint8_4 N n0 c1 n2 c3 x4 (IntKind.wrap IntKind.i64 (x5 + (1 : Int)))))
  none)
  none)
  none)
  none)
  none)
  none)
 (some (V.bool true)) := by kernel_rfl


theorem F_message_Of (N : Nat) (b0 : Bool) (x1 : Int) (x2 : Int) (x3 : Int) (x4 : Int) : call cc (N + 1) n_message_Of [V.agg [V.bool b0, V.int IntKind.i64 x1, V.int IntKind.i64 x2, V.int IntKind.i64 x3, V.int IntKind.i64 x4]] =
 cond b0
 ((call cc N n_message_isMark [V.int IntKind.i64 x1]).bind fun v5 =>
  cond (okRes [(false, [CK.b])] v5)
  (cond (V.toB (cellAt (V.cells v5) 0))
  (cond (!((x2 == (0 : Int)) && ((x3 == (0 : Int)) && ((x4 == (0 : Int)) && true))))
   (some (V.tup [V.agg [V.int IntKind.u8 (0 : Int), V.int IntKind.i64 (0 : Int), V.int IntKind.i64 (0 : Int), V.int IntKind.i64 (0 : Int), V.int IntKind.i64 (0 : Int), V.int IntKind.i64 (0 : Int), V.int IntKind.i64 (0 : Int), V.int IntKind.i64 (0 : Int), V.int IntKind.i64 (0 : Int), V.int IntKind.i64 (0 : Int)], V.int IntKind.i64 (8 : Int)]))
   (some (V.tup [V.agg [V.int IntKind.u8 (2 : Int), V.int IntKind.i64 (0 : Int), V.int IntKind.i64 (0 : Int), V.int IntKind.i64 (0 : Int), V.int IntKind.i64 x1, V.int IntKind.i64 (0 : Int), V.int IntKind.i64 (0 : Int), V.int IntKind.i64 (0 : Int), V.int IntKind.i64 (0 : Int), V.int IntKind.i64 (0 : Int)], V.int IntKind.i64 (0 : Int)])))
  (some (V.tup [V.agg [V.int IntKind.u8 (0 : Int), V.int IntKind.i64 (0 : Int), V.int IntKind.i64 (0 : Int), V.int IntKind.i64 (0 : Int), V.int IntKind.i64 (0 : Int), V.int IntKind.i64 (0 : Int), V.int IntKind.i64 (0 : Int), V.int IntKind.i64 (0 : Int), V.int IntKind.i64 (0 : Int), V.int IntKind.i64 (0 : Int)], V.int IntKind.i64 (8 : Int)])))
  none)
 (cond (x1 != (0 : Int))
  (some (V.tup [V.agg [V.int IntKind.u8 (0 : Int), V.int IntKind.i64 (0 : Int), V.int IntKind.i64 (0 : Int), V.int IntKind.i64 (0 : Int), V.int IntKind.i64 (0 : Int), V.int IntKind.i64 (0 : Int), V.int IntKind.i64 (0 : Int), V.int IntKind.i64 (0 : Int), V.int IntKind.i64 (0 : Int), V.int IntKind.i64 (0 : Int)], V.int IntKind.i64 (8 : Int)]))
  ((call cc N n_message_isTime [V.int IntKind.i64 x3]).bind fun v6 =>
   cond (okRes [(false, [CK.b])] v6)
   (cond (V.toB (cellAt (V.cells v6) 0))
   (some (V.tup [V.agg [V.int IntKind.u8 (1 : Int), V.int IntKind.i64 x2, V.int IntKind.i64 x3, V.int IntKind.i64 x4, V.int IntKind.i64 (0 : Int), V.int IntKind.i64 (0 : Int), V.int IntKind.i64 (0 : Int), V.int IntKind.i64 (0 : Int), V.int IntKind.i64 (0 : Int), V.int IntKind.i64 (0 : Int)], V.int IntKind.i64 (0 : Int)]))
   (some (V.tup [V.agg [V.int IntKind.u8 (0 : Int), V.int IntKind.i64 (0 : Int), V.int IntKind.i64 (0 : Int), V.int IntKind.i64 (0 : Int), V.int IntKind.i64 (0 : Int), V.int IntKind.i64 (0 : Int), V.int IntKind.i64 (0 : Int), V.int IntKind.i64 (0 : Int), V.int IntKind.i64 (0 : Int), V.int IntKind.i64 (0 : Int)], V.int IntKind.i64 (8 : Int)])))
   none)) := by kernel_rfl


noncomputable def S_slices_IndexFunc_api_Event_api_Event_a_2 (N : Nat) (n0 : Nat) (c1 : List V) (x2 : Int) (x3 : Int) : Option V := runAt cc N n_slices_IndexFunc_api_Event_api_Event 2 (envOf 19 [(0, V.sl n0 c1), (1, V.fn n_source_New_1 [] []), (7, V.int IntKind.i64 x2), (8, V.int IntKind.i64 x3)]) [] [] 0
theorem F_slices_IndexFunc_api_Event_api_Event_a (N : Nat) (n0 : Nat) (c1 : List V) : call cc (N + 1) n_slices_IndexFunc_api_Event_api_Event [V.sl n0 c1, V.fn n_source_New_1 [] []] =
 S_slices_IndexFunc_api_Event_api_Event_a_2 N n0 c1 ((n0 : Nat) : Int) (0 : Int) := by kernel_rfl
theorem S_slices_IndexFunc_api_Event_api_Event_a_2_eq (N : Nat) (n0 : Nat) (c1 : List V) (x2 : Int) (x3 : Int) : S_slices_IndexFunc_api_Event_api_Event_a_2 (N + 1) n0 c1 x2 x3 =
 cond (decide (x3 < x2))
 (cond (decide ((0 : Int) ≤ x3))
  (cond (decide (x3 < ((n0 : Nat) : Int)))
  (cond (okT [CK.b, CK.i IntKind.i64, CK.i IntKind.i64, CK.i IntKind.i64, CK.i IntKind.i64] c1 ((Int.toNat x3) * 5))
  ((call cc N n_source_New_1 [V.agg [V.bool (V.toB (cellAt c1 ((Int.toNat x3) * 5))), V.int IntKind.i64 (V.toI (cellAt c1 (((Int.toNat x3) * 5) + 1))), V.int IntKind.i64 (V.toI (cellAt c1 ((((Int.toNat x3) * 5) + 1) + 1))), V.int IntKind.i64 (V.toI (cellAt c1 (((((Int.toNat x3) * 5) + 1) + 1) + 1))), V.int IntKind.i64 (V.toI (cellAt c1 ((((((Int.toNat x3) * 5) + 1) + 1) + 1) + 1)))]]).bind fun v4 =>
  cond (okRes [(false, [CK.b])] v4)
  (cond (V.toB (cellAt (V.cells v4) 0))
  (some (V.int IntKind.i64 x3))
  (S_slices_IndexFunc_api_Event_api_Event_a_2 N n0 c1 x2 (IntKind.wrap IntKind.i64 (x3 + (1 : Int)))))
  none)
  none)
  none)
  none)
 (some (V.int IntKind.i64 (-(1 : Int)))) := by kernel_rfl


noncomputable def S_slices_Repeat_int64_int64_8 (N : Nat) (n0 : Nat) (x1 : Int) (c2 : List V) : Option V := runAt cc N n_slices_Repeat_int64_int64 8 (envOf 48 [(7, V.own 0 n0), (8, V.int IntKind.i64 x1)]) [⟨c2, 1, 0, false⟩] [] 0
theorem F_slices_Repeat_int64_int64 (N : Nat) (n0 : Nat) (c1 : List V) (x2 : Int) : call cc (N + 1) n_slices_Repeat_int64_int64 [V.sl n0 c1, V.int IntKind.i64 x2] =
 cond (decide (x2 < (0 : Int)))
 (none)
 ((call cc N n_mathbits_Mul [V.int IntKind.u64 (IntKind.wrap IntKind.u64 ((n0 : Nat) : Int)), V.int IntKind.u64 (IntKind.wrap IntKind.u64 x2)]).bind fun v3 =>
  cond (okRes [(false, [CK.i IntKind.u64]), (false, [CK.i IntKind.u64])] v3)
  (cond (decide ((V.toI (cellAt (V.cells (cellAt (V.cs v3) 0)) 0)) > (0 : Int)))
  (none)
  (cond (decide ((V.toI (cellAt (V.cells (cellAt (V.cs v3) 1)) 0)) > (9223372036854775807 : Int)))
   (none)
   (cond (decide ((0 : Int) ≤ (IntKind.wrap IntKind.i64 (V.toI (cellAt (V.cells (cellAt (V.cs v3) 1)) 0)))))
    (cond (decide ((IntKind.wrap IntKind.i64 (V.toI (cellAt (V.cells (cellAt (V.cs v3) 1)) 0))) ≤ (IntKind.wrap IntKind.i64 (V.toI (cellAt (V.cells (cellAt (V.cs v3) 1)) 0)))))
    (cond (decide ((IntKind.wrap IntKind.i64 (V.toI (cellAt (V.cells (cellAt (V.cs v3) 1)) 0))) ≤ ((bound : Nat) : Int)))
    (cond (decide ((List.length c1) = (n0 * (Go.Program.cellsOf (Cfg.P cc) 2))))
    (S_slices_Repeat_int64_int64_8 N (Int.toNat (IntKind.wrap IntKind.i64 (V.toI (cellAt (V.cells (cellAt (V.cs v3) 1)) 0)))) ((Min.min n0 (Int.toNat (IntKind.wrap IntKind.i64 (V.toI (cellAt (V.cells (cellAt (V.cs v3) 1)) 0)))) : Nat) : Int) ((List.take ((Min.min n0 (Int.toNat (IntKind.wrap IntKind.i64 (V.toI (cellAt (V.cells (cellAt (V.cs v3) 1)) 0))))) * 1) c1) ++ (List.drop ((Min.min n0 (Int.toNat (IntKind.wrap IntKind.i64 (V.toI (cellAt (V.cells (cellAt (V.cs v3) 1)) 0))))) * 1) (Blk.cells ⟨List.flatten (List.replicate (Int.toNat (IntKind.wrap IntKind.i64 (V.toI (cellAt (V.cells (cellAt (V.cs v3) 1)) 0)))) [V.int IntKind.i64 (0 : Int)]), 1, 0, false⟩))))
    none)
    none)
    none)
    none)))
  none) := by kernel_rfl
theorem S_slices_Repeat_int64_int64_8_eq (N : Nat) (n0 : Nat) (x1 : Int) (c2 : List V) : S_slices_Repeat_int64_int64_8 (N + 1) n0 x1 c2 =
 cond (decide (x1 < ((n0 : Nat) : Int)))
 (cond (decide ((0 : Int) ≤ x1))
  (cond (decide (x1 ≤ ((n0 : Nat) : Int)))
  (cond (decide (((n0 : Nat) : Int) ≤ ((n0 : Nat) : Int)))
  (cond (decide (((n0 : Nat) : Int) ≤ ((n0 : Nat) : Int)))
  (cond (decide ((0 : Int) ≤ x1))
  (cond (decide (x1 ≤ ((n0 : Nat) : Int)))
  (cond (decide (((n0 : Nat) : Int) ≤ ((n0 : Nat) : Int)))
  (cond (decide ((List.length (List.take (((Int.toNat x1) - 0) * (Blk.es ⟨c2, 1, 0, false⟩)) (List.drop 0 (Blk.cells ⟨c2, 1, 0, false⟩)))) = (((Int.toNat x1) - 0) * (Go.Program.cellsOf (Cfg.P cc) 2))))
  (S_slices_Repeat_int64_int64_8 N n0 (IntKind.wrap IntKind.i64 (x1 + ((Min.min ((Int.toNat x1) - 0) (n0 - (Int.toNat x1)) : Nat) : Int))) ((List.take ((Int.toNat x1) * 1) c2) ++ ((List.take ((Min.min ((Int.toNat x1) - 0) (n0 - (Int.toNat x1))) * 1) (List.take (((Int.toNat x1) - 0) * 1) c2)) ++ (List.drop (((Int.toNat x1) * 1) + ((Min.min ((Int.toNat x1) - 0) (n0 - (Int.toNat x1))) * 1)) c2))))
  none)
  none)
  none)
  none)
  none)
  none)
  none)
  none)
 (some (V.sl n0 c2)) := by kernel_rfl


noncomputable def S_ref08_Check_3 (N : Nat) (x0 : Int) (n1 : Nat) (c2 : List V) (n3 : Nat) (c4 : List V) (b5 : Bool) (n6 : Nat) (c7 : List V) (x8 : Int) (x9 : Int) (x10 : Int) (b11 : Bool) (x12 : Int) : Option V := runAt cc N n_ref08_Check 3 (envOf 80 [(1, V.ptr 0 0)]) [⟨[V.int IntKind.u8 x0, V.sl n1 c2, V.sl n3 c4, V.bool b5, V.sl n6 c7, V.int IntKind.u8 x8, V.int IntKind.i64 x9, V.int IntKind.i64 x10, V.bool b11, V.int IntKind.u8 x12], 1, 0, true⟩] [] 0
noncomputable def S_ref08_Check_5 (N : Nat) (x0 : Int) (n1 : Nat) (c2 : List V) (n3 : Nat) (c4 : List V) (b5 : Bool) (n6 : Nat) (c7 : List V) (x8 : Int) (x9 : Int) (x10 : Int) (b11 : Bool) (x12 : Int) : Option V := runAt cc N n_ref08_Check 5 (envOf 80 [(1, V.ptr 0 0)]) [⟨[V.int IntKind.u8 x0, V.sl n1 c2, V.sl n3 c4, V.bool b5, V.sl n6 c7, V.int IntKind.u8 x8, V.int IntKind.i64 x9, V.int IntKind.i64 x10, V.bool b11, V.int IntKind.u8 x12], 1, 0, true⟩] [] 0
noncomputable def S_ref08_Check_7 (N : Nat) (x0 : Int) (n1 : Nat) (c2 : List V) (n3 : Nat) (c4 : List V) (b5 : Bool) (n6 : Nat) (c7 : List V) (x8 : Int) (x9 : Int) (x10 : Int) (b11 : Bool) (x12 : Int) : Option V := runAt cc N n_ref08_Check 7 (envOf 80 [(1, V.ptr 0 0)]) [⟨[V.int IntKind.u8 x0, V.sl n1 c2, V.sl n3 c4, V.bool b5, V.sl n6 c7, V.int IntKind.u8 x8, V.int IntKind.i64 x9, V.int IntKind.i64 x10, V.bool b11, V.int IntKind.u8 x12], 1, 0, true⟩] [] 0
noncomputable def S_ref08_Check_9 (N : Nat) (x0 : Int) (n1 : Nat) (c2 : List V) (n3 : Nat) (c4 : List V) (b5 : Bool) (n6 : Nat) (c7 : List V) (x8 : Int) (x9 : Int) (x10 : Int) (b11 : Bool) (x12 : Int) : Option V := runAt cc N n_ref08_Check 9 (envOf 80 [(1, V.ptr 0 0)]) [⟨[V.int IntKind.u8 x0, V.sl n1 c2, V.sl n3 c4, V.bool b5, V.sl n6 c7, V.int IntKind.u8 x8, V.int IntKind.i64 x9, V.int IntKind.i64 x10, V.bool b11, V.int IntKind.u8 x12], 1, 0, true⟩] [] 0
noncomputable def S_ref08_Check_11 (N : Nat) (x0 : Int) (n1 : Nat) (c2 : List V) (n3 : Nat) (c4 : List V) (b5 : Bool) (n6 : Nat) (c7 : List V) (x8 : Int) (x9 : Int) (x10 : Int) (b11 : Bool) (x12 : Int) : Option V := runAt cc N n_ref08_Check 11 (envOf 80 [(1, V.ptr 0 0)]) [⟨[V.int IntKind.u8 x0, V.sl n1 c2, V.sl n3 c4, V.bool b5, V.sl n6 c7, V.int IntKind.u8 x8, V.int IntKind.i64 x9, V.int IntKind.i64 x10, V.bool b11, V.int IntKind.u8 x12], 1, 0, true⟩] [] 0
noncomputable def S_ref08_Check_13 (N : Nat) : Option V := runAt cc N n_ref08_Check 13 (envOf 80 []) [] [] 0
theorem F_ref08_Check (N : Nat) (x0 : Int) (n1 : Nat) (c2 : List V) (n3 : Nat) (c4 : List V) (b5 : Bool) (n6 : Nat) (c7 : List V) (x8 : Int) (x9 : Int) (x10 : Int) (b11 : Bool) (x12 : Int) : call cc (N + 1) n_ref08_Check [V.agg [V.int IntKind.u8 x0, V.sl n1 c2, V.sl n3 c4, V.bool b5, V.sl n6 c7, V.int IntKind.u8 x8, V.int IntKind.i64 x9, V.int IntKind.i64 x10, V.bool b11, V.int IntKind.u8 x12]] =
 cond (decide (x0 < (1 : Int)))
 (some (V.int IntKind.i64 (8 : Int)))
 (cond (decide (x0 > (4 : Int)))
  (some (V.int IntKind.i64 (8 : Int)))
  (cond (decide (x12 < (1 : Int)))
   (some (V.int IntKind.i64 (8 : Int)))
   (cond (decide (x12 > (2 : Int)))
    (some (V.int IntKind.i64 (8 : Int)))
    (S_ref08_Check_3 N x0 n1 c2 n3 c4 b5 n6 c7 x8 x9 x10 b11 x12)))) := by kernel_rfl
theorem S_ref08_Check_3_eq (N : Nat) (x0 : Int) (n1 : Nat) (c2 : List V) (n3 : Nat) (c4 : List V) (b5 : Bool) (n6 : Nat) (c7 : List V) (x8 : Int) (x9 : Int) (x10 : Int) (b11 : Bool) (x12 : Int) : S_ref08_Check_3 (N + 1) x0 n1 c2 n3 c4 b5 n6 c7 x8 x9 x10 b11 x12 =
 cond (x0 == (1 : Int))
 (cond (decide (((n1 : Nat) : Int) > (0 : Int)))
  (some (V.int IntKind.i64 (8 : Int)))
  (S_ref08_Check_5 N x0 n1 c2 n3 c4 b5 n6 c7 x8 x9 x10 b11 x12))
 (S_ref08_Check_5 N x0 n1 c2 n3 c4 b5 n6 c7 x8 x9 x10 b11 x12) := by kernel_rfl
theorem S_ref08_Check_5_eq (N : Nat) (x0 : Int) (n1 : Nat) (c2 : List V) (n3 : Nat) (c4 : List V) (b5 : Bool) (n6 : Nat) (c7 : List V) (x8 : Int) (x9 : Int) (x10 : Int) (b11 : Bool) (x12 : Int) : S_ref08_Check_5 (N + 1) x0 n1 c2 n3 c4 b5 n6 c7 x8 x9 x10 b11 x12 =
 cond (x0 != (1 : Int))
 ((call cc N n_ref04_Check [V.sl n1 c2]).bind fun v13 =>
  cond (okRes [(false, [CK.i IntKind.i64])] v13)
  (cond ((V.toI (cellAt (V.cells v13) 0)) != (0 : Int))
  ((call cc N n_ref04_Check [V.sl n1 c2]).bind fun v14 =>
   cond (okRes [(false, [CK.i IntKind.i64])] v14)
   (some (V.int IntKind.i64 (V.toI (cellAt (V.cells v14) 0))))
   none)
  (S_ref08_Check_7 N x0 n1 c2 n3 c4 b5 n6 c7 x8 x9 x10 b11 x12))
  none)
 (S_ref08_Check_7 N x0 n1 c2 n3 c4 b5 n6 c7 x8 x9 x10 b11 x12) := by kernel_rfl
theorem S_ref08_Check_7_eq (N : Nat) (x0 : Int) (n1 : Nat) (c2 : List V) (n3 : Nat) (c4 : List V) (b5 : Bool) (n6 : Nat) (c7 : List V) (x8 : Int) (x9 : Int) (x10 : Int) (b11 : Bool) (x12 : Int) : S_ref08_Check_7 (N + 1) x0 n1 c2 n3 c4 b5 n6 c7 x8 x9 x10 b11 x12 =
 cond (decide (((n6 : Nat) : Int) > (0 : Int)))
 ((call cc N n_ref04_Check [V.sl n6 c7]).bind fun v13 =>
  cond (okRes [(false, [CK.i IntKind.i64])] v13)
  (cond ((V.toI (cellAt (V.cells v13) 0)) != (0 : Int))
  ((call cc N n_ref04_Check [V.sl n6 c7]).bind fun v14 =>
   cond (okRes [(false, [CK.i IntKind.i64])] v14)
   (some (V.int IntKind.i64 (V.toI (cellAt (V.cells v14) 0))))
   none)
  (S_ref08_Check_9 N x0 n1 c2 n3 c4 b5 n6 c7 x8 x9 x10 b11 x12))
  none)
 (S_ref08_Check_9 N x0 n1 c2 n3 c4 b5 n6 c7 x8 x9 x10 b11 x12) := by kernel_rfl
theorem S_ref08_Check_9_eq (N : Nat) (x0 : Int) (n1 : Nat) (c2 : List V) (n3 : Nat) (c4 : List V) (b5 : Bool) (n6 : Nat) (c7 : List V) (x8 : Int) (x9 : Int) (x10 : Int) (b11 : Bool) (x12 : Int) : S_ref08_Check_9 (N + 1) x0 n1 c2 n3 c4 b5 n6 c7 x8 x9 x10 b11 x12 =
 cond b5
 ((call cc N n_ref08_Sources [V.sl n3 c4, V.bool true]).bind fun v13 =>
  cond (okRes [(false, [CK.i IntKind.i64])] v13)
  (cond ((V.toI (cellAt (V.cells v13) 0)) != (0 : Int))
  (cond b5
   ((call cc N n_ref08_Sources [V.sl n3 c4, V.bool true]).bind fun v14 =>
    cond (okRes [(false, [CK.i IntKind.i64])] v14)
    (some (V.int IntKind.i64 (V.toI (cellAt (V.cells v14) 0))))
    none)
   ((call cc N n_ref08_Sources [V.sl n3 c4, V.bool false]).bind fun v15 =>
    cond (okRes [(false, [CK.i IntKind.i64])] v15)
    (some (V.int IntKind.i64 (V.toI (cellAt (V.cells v15) 0))))
    none))
  (S_ref08_Check_11 N x0 n1 c2 n3 c4 b5 n6 c7 x8 x9 x10 b11 x12))
  none)
 ((call cc N n_ref08_Sources [V.sl n3 c4, V.bool false]).bind fun v16 =>
  cond (okRes [(false, [CK.i IntKind.i64])] v16)
  (cond ((V.toI (cellAt (V.cells v16) 0)) != (0 : Int))
  (cond b5
   ((call cc N n_ref08_Sources [V.sl n3 c4, V.bool true]).bind fun v17 =>
    cond (okRes [(false, [CK.i IntKind.i64])] v17)
    (some (V.int IntKind.i64 (V.toI (cellAt (V.cells v17) 0))))
    none)
   ((call cc N n_ref08_Sources [V.sl n3 c4, V.bool false]).bind fun v18 =>
    cond (okRes [(false, [CK.i IntKind.i64])] v18)
    (some (V.int IntKind.i64 (V.toI (cellAt (V.cells v18) 0))))
    none))
  (S_ref08_Check_11 N x0 n1 c2 n3 c4 b5 n6 c7 x8 x9 x10 b11 x12))
  none) := by kernel_rfl
theorem S_ref08_Check_11_eq (N : Nat) (x0 : Int) (n1 : Nat) (c2 : List V) (n3 : Nat) (c4 : List V) (b5 : Bool) (n6 : Nat) (c7 : List V) (x8 : Int) (x9 : Int) (x10 : Int) (b11 : Bool) (x12 : Int) : S_ref08_Check_11 (N + 1) x0 n1 c2 n3 c4 b5 n6 c7 x8 x9 x10 b11 x12 =
 (call cc N n_ref08_Fits [V.agg [V.int IntKind.u8 x8, V.int IntKind.i64 x9, V.int IntKind.i64 x10]]).bind fun v13 =>
 cond (okRes [(false, [CK.b])] v13)
 (cond (V.toB (cellAt (V.cells v13) 0))
 (cond b5
  (cond (x8 != (1 : Int))
   (some (V.int IntKind.i64 (8 : Int)))
   (S_ref08_Check_13 N))
  (S_ref08_Check_13 N))
 (some (V.int IntKind.i64 (8 : Int))))
 none := by kernel_rfl
theorem S_ref08_Check_13_eq (N : Nat) : S_ref08_Check_13 (N + 1) =
 some (V.int IntKind.i64 (0 : Int)) := by kernel_rfl


theorem F_ref10_Right (N : Nat) (x0 : Int) (n1 : Nat) (c2 : List V) (n3 : Nat) (c4 : List V) (b5 : Bool) (n6 : Nat) (c7 : List V) (x8 : Int) (x9 : Int) (x10 : Int) (b11 : Bool) (x12 : Int) : call cc (N + 1) n_ref10_Right [V.agg [V.int IntKind.u8 x0, V.sl n1 c2, V.sl n3 c4, V.bool b5, V.sl n6 c7, V.int IntKind.u8 x8, V.int IntKind.i64 x9, V.int IntKind.i64 x10, V.bool b11, V.int IntKind.u8 x12]] =
 cond (decide (((n1 : Nat) : Int) > (0 : Int)))
 ((call cc N n_ref06_Want [V.sl n1 c2, V.bool false]).bind fun v13 =>
  cond (okRes [(false, [CK.i IntKind.i64]), (false, [CK.i IntKind.i64])] v13)
  (cond ((V.toI (cellAt (V.cells (cellAt (V.cs v13) 1)) 0)) != (0 : Int))
  (cond (decide ((0 : Int) ≤ (V.toI (cellAt (V.cells (cellAt (V.cs v13) 0)) 0))))
   (cond (decide ((V.toI (cellAt (V.cells (cellAt (V.cs v13) 0)) 0)) < ((n1 : Nat) : Int)))
   (cond (okT [CK.i IntKind.i64] c2 (((Int.toNat (V.toI (cellAt (V.cells (cellAt (V.cs v13) 0)) 0))) * 5) + 4))
   (some (V.tup [V.int IntKind.i64 (V.toI (cellAt c2 (((Int.toNat (V.toI (cellAt (V.cells (cellAt (V.cs v13) 0)) 0))) * 5) + 4))), V.int IntKind.i64 (V.toI (cellAt (V.cells (cellAt (V.cs v13) 1)) 0))]))
   none)
   none)
   none)
  (cond (decide (((n6 : Nat) : Int) > (0 : Int)))
   ((call cc N n_ref06_Want [V.sl n6 c7, V.bool true]).bind fun v14 =>
    cond (okRes [(false, [CK.i IntKind.i64]), (false, [CK.i IntKind.i64])] v14)
    (cond ((V.toI (cellAt (V.cells (cellAt (V.cs v14) 1)) 0)) != (0 : Int))
    (cond (decide ((0 : Int) ≤ (V.toI (cellAt (V.cells (cellAt (V.cs v14) 0)) 0))))
     (cond (decide ((V.toI (cellAt (V.cells (cellAt (V.cs v14) 0)) 0)) < ((n6 : Nat) : Int)))
     (cond (okT [CK.i IntKind.i64] c7 (((Int.toNat (V.toI (cellAt (V.cells (cellAt (V.cs v14) 0)) 0))) * 5) + 4))
     (some (V.tup [V.int IntKind.i64 (V.toI (cellAt c7 (((Int.toNat (V.toI (cellAt (V.cells (cellAt (V.cs v14) 0)) 0))) * 5) + 4))), V.int IntKind.i64 (V.toI (cellAt (V.cells (cellAt (V.cs v14) 1)) 0))]))
     none)
     none)
     none)
    (some (V.tup [V.int IntKind.i64 (0 : Int), V.int IntKind.i64 (0 : Int)])))
    none)
   (some (V.tup [V.int IntKind.i64 (0 : Int), V.int IntKind.i64 (0 : Int)]))))
  none)
 (cond (decide (((n6 : Nat) : Int) > (0 : Int)))
  ((call cc N n_ref06_Want [V.sl n6 c7, V.bool true]).bind fun v15 =>
   cond (okRes [(false, [CK.i IntKind.i64]), (false, [CK.i IntKind.i64])] v15)
   (cond ((V.toI (cellAt (V.cells (cellAt (V.cs v15) 1)) 0)) != (0 : Int))
   (cond (decide ((0 : Int) ≤ (V.toI (cellAt (V.cells (cellAt (V.cs v15) 0)) 0))))
    (cond (decide ((V.toI (cellAt (V.cells (cellAt (V.cs v15) 0)) 0)) < ((n6 : Nat) : Int)))
    (cond (okT [CK.i IntKind.i64] c7 (((Int.toNat (V.toI (cellAt (V.cells (cellAt (V.cs v15) 0)) 0))) * 5) + 4))
    (some (V.tup [V.int IntKind.i64 (V.toI (cellAt c7 (((Int.toNat (V.toI (cellAt (V.cells (cellAt (V.cs v15) 0)) 0))) * 5) + 4))), V.int IntKind.i64 (V.toI (cellAt (V.cells (cellAt (V.cs v15) 1)) 0))]))
    none)
    none)
    none)
   (some (V.tup [V.int IntKind.i64 (0 : Int), V.int IntKind.i64 (0 : Int)])))
   none)
  (some (V.tup [V.int IntKind.i64 (0 : Int), V.int IntKind.i64 (0 : Int)]))) := by kernel_rfl


theorem F_ref20_Valid (N : Nat) (b0 : Bool) (x1 : Int) (x2 : Int) (x3 : Int) (x4 : Int) : call cc (N + 1) n_ref20_Valid [V.agg [V.bool b0, V.int IntKind.i64 x1, V.int IntKind.i64 x2, V.int IntKind.i64 x3, V.int IntKind.i64 x4]] =
 cond b0
 (cond ((x2 == (0 : Int)) && ((x3 == (0 : Int)) && ((x4 == (0 : Int)) && true)))
  (cond (x1 == (9223372036854775807 : Int))
   (some (V.bool true))
   ((call cc N n_ref13_Check [V.int IntKind.i64 x1, V.int IntKind.i64 (1 : Int)]).bind fun v5 =>
    cond (okRes [(false, [CK.i IntKind.i64])] v5)
    (cond ((V.toI (cellAt (V.cells v5) 0)) == (0 : Int))
    (some (V.bool true))
    (some (V.bool false)))
    none))
  (some (V.bool false)))
 (cond (x1 == (0 : Int))
  ((call cc N n_ref13_Check [V.int IntKind.i64 x3, V.int IntKind.i64 (1 : Int)]).bind fun v6 =>
   cond (okRes [(false, [CK.i IntKind.i64])] v6)
   (cond ((V.toI (cellAt (V.cells v6) 0)) == (0 : Int))
   (some (V.bool true))
   (some (V.bool false)))
   none)
  (some (V.bool false))) := by kernel_rfl


noncomputable def S_ref22_Steps_3 (N : Nat) (n0 : Nat) (x1 : Int) (x2 : Int) (n3 : Nat) (c4 : List V) (n5 : Nat) (c6 : List V) (b7 : Bool) (n8 : Nat) (c9 : List V) (x10 : Int) (x11 : Int) (x12 : Int) (b13 : Bool) (x14 : Int) (c15 : List V) : Option V := runAt cc N n_ref22_Steps 3 (envOf 17 [(1, V.ptr 0 0), (3, V.own 1 n0), (4, V.int IntKind.u8 x1)]) [⟨[V.int IntKind.u8 x2, V.sl n3 c4, V.sl n5 c6, V.bool b7, V.sl n8 c9, V.int IntKind.u8 x10, V.int IntKind.i64 x11, V.int IntKind.i64 x12, V.bool b13, V.int IntKind.u8 x14], 1, 0, true⟩, ⟨c15, 1, 0, false⟩] [] 0
theorem F_ref22_Steps (N : Nat) (x0 : Int) (n1 : Nat) (c2 : List V) (n3 : Nat) (c4 : List V) (b5 : Bool) (n6 : Nat) (c7 : List V) (x8 : Int) (x9 : Int) (x10 : Int) (b11 : Bool) (x12 : Int) : call cc (N + 1) n_ref22_Steps [V.agg [V.int IntKind.u8 x0, V.sl n1 c2, V.sl n3 c4, V.bool b5, V.sl n6 c7, V.int IntKind.u8 x8, V.int IntKind.i64 x9, V.int IntKind.i64 x10, V.bool b11, V.int IntKind.u8 x12]] =
 S_ref22_Steps_3 N 0 (1 : Int) x0 n1 c2 n3 c4 b5 n6 c7 x8 x9 x10 b11 x12 [] := by kernel_rfl
theorem S_ref22_Steps_3_eq (N : Nat) (n0 : Nat) (x1 : Int) (x2 : Int) (n3 : Nat) (c4 : List V) (n5 : Nat) (c6 : List V) (b7 : Bool) (n8 : Nat) (c9 : List V) (x10 : Int) (x11 : Int) (x12 : Int) (b13 : Bool) (x14 : Int) (c15 : List V) : S_ref22_Steps_3 (N + 1) n0 x1 x2 n3 c4 n5 c6 b7 n8 c9 x10 x11 x12 b13 x14 c15 =
 cond (decide (x1 ≤ (10 : Int)))
 ((call cc N n_ref22_Has [V.agg [V.int IntKind.u8 x2, V.sl n3 c4, V.sl n5 c6, V.bool b7, V.sl n8 c9, V.int IntKind.u8 x10, V.int IntKind.i64 x11, V.int IntKind.i64 x12, V.bool b13, V.int IntKind.u8 x14], V.int IntKind.u8 x1]).bind fun v16 =>
  cond (okRes [(false, [CK.b])] v16)
  (cond (V.toB (cellAt (V.cells v16) 0))
  (cond (decide ((n0 + 1) ≤ bound))
   (S_ref22_Steps_3 N (n0 + 1) (IntKind.wrap IntKind.u8 (x1 + (1 : Int))) x2 n3 c4 n5 c6 b7 n8 c9 x10 x11 x12 b13 x14 (c15 ++ [V.int IntKind.u8 x1]))
   none)
  (S_ref22_Steps_3 N n0 (IntKind.wrap IntKind.u8 (x1 + (1 : Int))) x2 n3 c4 n5 c6 b7 n8 c9 x10 x11 x12 b13 x14 c15))
  none)
 (some (V.sl n0 c15)) := by kernel_rfl


theorem F_ref22_Has (N : Nat) (x0 : Int) (n1 : Nat) (c2 : List V) (n3 : Nat) (c4 : List V) (b5 : Bool) (n6 : Nat) (c7 : List V) (x8 : Int) (x9 : Int) (x10 : Int) (b11 : Bool) (x12 : Int) (x13 : Int) : call cc (N + 1) n_ref22_Has [V.agg [V.int IntKind.u8 x0, V.sl n1 c2, V.sl n3 c4, V.bool b5, V.sl n6 c7, V.int IntKind.u8 x8, V.int IntKind.i64 x9, V.int IntKind.i64 x10, V.bool b11, V.int IntKind.u8 x12], V.int IntKind.u8 x13] =
 cond (x13 == (3 : Int))
 (cond (decide (((n6 : Nat) : Int) > (0 : Int)))
  (some (V.bool true))
  (some (V.bool false)))
 (cond (x13 == (5 : Int))
  (cond b11
   (some (V.bool true))
   (some (V.bool false)))
  (cond (x13 == (7 : Int))
   (cond b5
    (some (V.bool false))
    (some (V.bool true)))
   (cond (x13 == (8 : Int))
    (cond b5
     (some (V.bool true))
     (some (V.bool false)))
    (cond (x13 == (10 : Int))
     (cond (x12 == (2 : Int))
      (some (V.bool true))
      (some (V.bool false)))
     (cond (decide (x13 ≥ (1 : Int)))
      (cond (decide (x13 ≤ (10 : Int)))
       (some (V.bool true))
       (some (V.bool false)))
      (some (V.bool false))))))) := by kernel_rfl


noncomputable def S_ref28_New_6 (N : Nat) (x0 : Int) (n1 : Nat) (c2 : List V) (x3 : Int) (x4 : Int) (x5 : Int) (x6 : Int) : Option V := runAt cc N n_ref28_New 6 (envOf 37 [(0, V.int IntKind.i64 x0), (1, V.sl n1 c2), (4, V.ptr 0 0), (6, V.int IntKind.i64 x3)]) [⟨[V.int IntKind.u8 x4, V.int IntKind.i64 x5, V.int IntKind.i64 x6, V.nils, V.nils, V.nils, V.nils, V.nils, V.nils], 1, 0, true⟩] [] 0
theorem F_ref28_New (N : Nat) (x0 : Int) (n1 : Nat) (c2 : List V) : call cc (N + 1) n_ref28_New [V.int IntKind.i64 x0, V.sl n1 c2] =
 cond (decide (x0 < (0 : Int)))
 (some (V.tup [V.agg [V.int IntKind.u8 (0 : Int), V.int IntKind.i64 (0 : Int), V.int IntKind.i64 (0 : Int), V.sl 0 [], V.sl 0 [], V.sl 0 [], V.sl 0 [], V.sl 0 [], V.sl 0 []], V.int IntKind.i64 (2 : Int)]))
 (cond (decide (x0 ≥ (4 : Int)))
  (some (V.tup [V.agg [V.int IntKind.u8 (0 : Int), V.int IntKind.i64 (0 : Int), V.int IntKind.i64 (0 : Int), V.sl 0 [], V.sl 0 [], V.sl 0 [], V.sl 0 [], V.sl 0 [], V.sl 0 []], V.int IntKind.i64 (2 : Int)]))
  (cond (decide (((n1 : Nat) : Int) > (60 : Int)))
   (some (V.tup [V.agg [V.int IntKind.u8 (0 : Int), V.int IntKind.i64 (0 : Int), V.int IntKind.i64 (0 : Int), V.sl 0 [], V.sl 0 [], V.sl 0 [], V.sl 0 [], V.sl 0 [], V.sl 0 []], V.int IntKind.i64 (4 : Int)]))
   (S_ref28_New_6 N x0 n1 c2 (0 : Int) (0 : Int) (0 : Int) (0 : Int)))) := by kernel_rfl
theorem S_ref28_New_6_eq (N : Nat) (x0 : Int) (n1 : Nat) (c2 : List V) (x3 : Int) (x4 : Int) (x5 : Int) (x6 : Int) : S_ref28_New_6 (N + 1) x0 n1 c2 x3 x4 x5 x6 =
 cond (decide (x3 < ((n1 : Nat) : Int)))
 (cond (decide ((0 : Int) ≤ x3))
  (cond (decide (x3 < ((n1 : Nat) : Int)))
  (cond (okT [CK.b, CK.i IntKind.i64, CK.i IntKind.i64, CK.i IntKind.i64, CK.i IntKind.i64] c2 ((Int.toNat x3) * 5))
  ((call cc N n_ref25_Event [V.agg [V.bool (V.toB (cellAt c2 ((Int.toNat x3) * 5))), V.int IntKind.i64 (V.toI (cellAt c2 (((Int.toNat x3) * 5) + 1))), V.int IntKind.i64 (V.toI (cellAt c2 ((((Int.toNat x3) * 5) + 1) + 1))), V.int IntKind.i64 (V.toI (cellAt c2 (((((Int.toNat x3) * 5) + 1) + 1) + 1))), V.int IntKind.i64 (V.toI (cellAt c2 ((((((Int.toNat x3) * 5) + 1) + 1) + 1) + 1)))]]).bind fun v7 =>
  cond (okRes [(false, [CK.i IntKind.i64])] v7)
  (cond ((V.toI (cellAt (V.cells v7) 0)) != (0 : Int))
  (some (V.tup [V.agg [V.int IntKind.u8 (0 : Int), V.int IntKind.i64 (0 : Int), V.int IntKind.i64 (0 : Int), V.sl 0 [], V.sl 0 [], V.sl 0 [], V.sl 0 [], V.sl 0 [], V.sl 0 []], V.int IntKind.i64 (8 : Int)]))
  (S_ref28_New_6 N x0 n1 c2 (IntKind.wrap IntKind.i64 (x3 + (1 : Int))) x4 x5 x6))
  none)
  none)
  none)
  none)
 (cond (decide ((List.length c2) = (n1 * (Go.Program.cellsOf (Cfg.P cc) 96))))
  (cond (decide (n1 ≤ bound))
  (some (V.tup [V.agg [V.int IntKind.u8 (1 : Int), V.int IntKind.i64 x0, V.int IntKind.i64 (0 : Int), V.sl 0 [], V.sl 0 [], V.sl 0 [], V.sl n1 c2, V.sl 0 [], V.sl 0 []], V.int IntKind.i64 (0 : Int)]))
  none)
  none) := by kernel_rfl


theorem F_ref29_New (N : Nat) (x0 : Int) : call cc (N + 1) n_ref29_New [V.int IntKind.i64 x0] =
 cond (decide (x0 < (0 : Int)))
 (some (V.tup [V.agg [V.int IntKind.u8 (0 : Int), V.int IntKind.i64 (0 : Int), V.int IntKind.i64 (0 : Int), V.sl 0 [], V.sl 0 [], V.sl 0 [], V.sl 0 [], V.sl 0 [], V.sl 0 []], V.int IntKind.i64 (2 : Int)]))
 (cond (decide (x0 ≥ (4 : Int)))
  (some (V.tup [V.agg [V.int IntKind.u8 (0 : Int), V.int IntKind.i64 (0 : Int), V.int IntKind.i64 (0 : Int), V.sl 0 [], V.sl 0 [], V.sl 0 [], V.sl 0 [], V.sl 0 [], V.sl 0 []], V.int IntKind.i64 (2 : Int)]))
  (some (V.tup [V.agg [V.int IntKind.u8 (2 : Int), V.int IntKind.i64 x0, V.int IntKind.i64 (0 : Int), V.sl 0 [], V.sl 1 [V.int IntKind.i64 (-(9223372036854775808 : Int))], V.sl 0 [], V.sl 0 [], V.sl 0 [], V.sl 0 []], V.int IntKind.i64 (0 : Int)]))) := by kernel_rfl


theorem F_ref30_New (N : Nat) (x0 : Int) : call cc (N + 1) n_ref30_New [V.int IntKind.i64 x0] =
 cond (decide (x0 < (0 : Int)))
 (some (V.tup [V.agg [V.int IntKind.u8 (0 : Int), V.int IntKind.i64 (0 : Int), V.int IntKind.i64 (0 : Int), V.sl 0 [], V.sl 0 [], V.sl 0 [], V.sl 0 [], V.sl 0 [], V.sl 0 []], V.int IntKind.i64 (2 : Int)]))
 (cond (decide (x0 ≥ (4 : Int)))
  (some (V.tup [V.agg [V.int IntKind.u8 (0 : Int), V.int IntKind.i64 (0 : Int), V.int IntKind.i64 (0 : Int), V.sl 0 [], V.sl 0 [], V.sl 0 [], V.sl 0 [], V.sl 0 [], V.sl 0 []], V.int IntKind.i64 (2 : Int)]))
  (some (V.tup [V.agg [V.int IntKind.u8 (3 : Int), V.int IntKind.i64 x0, V.int IntKind.i64 (0 : Int), V.sl 0 [], V.sl 0 [], V.sl 0 [], V.sl 0 [], V.sl 0 [], V.sl 0 []], V.int IntKind.i64 (0 : Int)]))) := by kernel_rfl


theorem F_ref32_New (N : Nat) (x0 : Int) (x1 : Int) : call cc (N + 1) n_ref32_New [V.int IntKind.i64 x0, V.int IntKind.i64 x1] =
 cond (decide (x0 < (0 : Int)))
 (some (V.tup [V.agg [V.int IntKind.u8 (0 : Int), V.int IntKind.i64 (0 : Int), V.int IntKind.i64 (0 : Int), V.sl 0 [], V.sl 0 [], V.sl 0 [], V.sl 0 [], V.sl 0 [], V.sl 0 []], V.int IntKind.i64 (2 : Int)]))
 (cond (decide (x0 ≥ (3 : Int)))
  (some (V.tup [V.agg [V.int IntKind.u8 (0 : Int), V.int IntKind.i64 (0 : Int), V.int IntKind.i64 (0 : Int), V.sl 0 [], V.sl 0 [], V.sl 0 [], V.sl 0 [], V.sl 0 [], V.sl 0 []], V.int IntKind.i64 (2 : Int)]))
  (cond (decide (x1 < (1 : Int)))
   (some (V.tup [V.agg [V.int IntKind.u8 (0 : Int), V.int IntKind.i64 (0 : Int), V.int IntKind.i64 (0 : Int), V.sl 0 [], V.sl 0 [], V.sl 0 [], V.sl 0 [], V.sl 0 [], V.sl 0 []], V.int IntKind.i64 (2 : Int)]))
   (cond (decide (x1 > (4 : Int)))
    (some (V.tup [V.agg [V.int IntKind.u8 (0 : Int), V.int IntKind.i64 (0 : Int), V.int IntKind.i64 (0 : Int), V.sl 0 [], V.sl 0 [], V.sl 0 [], V.sl 0 [], V.sl 0 [], V.sl 0 []], V.int IntKind.i64 (2 : Int)]))
    ((call cc N n_ref31_New [V.int IntKind.i64 x1]).bind fun v2 =>
     cond (okRes [(false, [CK.sl 1]), (false, [CK.i IntKind.i64])] v2)
     (some (V.tup [V.agg [V.int IntKind.u8 (4 : Int), V.int IntKind.i64 x0, V.int IntKind.i64 (0 : Int), V.sl 0 [], V.sl (V.slN (cellAt (V.cells (cellAt (V.cs v2) 0)) 0)) (V.slC (cellAt (V.cells (cellAt (V.cs v2) 0)) 0)), V.sl 0 [], V.sl 0 [], V.sl 0 [], V.sl 0 []], V.int IntKind.i64 (0 : Int)]))
     none)))) := by kernel_rfl


theorem F_ref33_New (N : Nat) (x0 : Int) : call cc (N + 1) n_ref33_New [V.int IntKind.i64 x0] =
 cond (decide (x0 < (0 : Int)))
 (some (V.tup [V.agg [V.int IntKind.u8 (0 : Int), V.int IntKind.i64 (0 : Int), V.int IntKind.i64 (0 : Int), V.sl 0 [], V.sl 0 [], V.sl 0 [], V.sl 0 [], V.sl 0 [], V.sl 0 []], V.int IntKind.i64 (2 : Int)]))
 (cond (decide (x0 ≥ (3 : Int)))
  (some (V.tup [V.agg [V.int IntKind.u8 (0 : Int), V.int IntKind.i64 (0 : Int), V.int IntKind.i64 (0 : Int), V.sl 0 [], V.sl 0 [], V.sl 0 [], V.sl 0 [], V.sl 0 [], V.sl 0 []], V.int IntKind.i64 (2 : Int)]))
  ((call cc N n_ref31_New [V.int IntKind.i64 (2 : Int)]).bind fun v1 =>
   cond (okRes [(false, [CK.sl 1]), (false, [CK.i IntKind.i64])] v1)
   (some (V.tup [V.agg [V.int IntKind.u8 (5 : Int), V.int IntKind.i64 x0, V.int IntKind.i64 (0 : Int), V.sl 0 [], V.sl (V.slN (cellAt (V.cells (cellAt (V.cs v1) 0)) 0)) (V.slC (cellAt (V.cells (cellAt (V.cs v1) 0)) 0)), V.sl 0 [], V.sl 0 [], V.sl 0 [], V.sl 0 []], V.int IntKind.i64 (0 : Int)]))
   none)) := by kernel_rfl


theorem F_ref34_New (N : Nat) (b0 : Bool) : call cc (N + 1) n_ref34_New [V.bool b0] =
 cond b0
 (some (V.agg [V.int IntKind.u8 (7 : Int), V.int IntKind.i64 (0 : Int), V.int IntKind.i64 (0 : Int), V.sl 0 [], V.sl 0 [], V.sl 0 [], V.sl 0 [], V.sl 0 [], V.sl 0 []]))
 (some (V.agg [V.int IntKind.u8 (6 : Int), V.int IntKind.i64 (0 : Int), V.int IntKind.i64 (0 : Int), V.sl 0 [], V.sl 0 [], V.sl 0 [], V.sl 0 [], V.sl 0 [], V.sl 0 []])) := by kernel_rfl


theorem F_ref26_Same (N : Nat) (x0 : Int) (n1 : Nat) (c2 : List V) (x3 : Int) (n4 : Nat) (c5 : List V) : call cc (N + 1) n_ref26_Same [V.agg [V.int IntKind.i64 x0, V.sl n1 c2], V.agg [V.int IntKind.i64 x3, V.sl n4 c5]] =
 cond (x0 == x3)
 ((call cc N n_ref26_SameList [V.sl n1 c2, V.sl n4 c5]).bind fun v6 =>
  cond (okRes [(false, [CK.b])] v6)
  (cond (V.toB (cellAt (V.cells v6) 0))
  (some (V.bool true))
  (some (V.bool false)))
  none)
 (some (V.bool false)) := by kernel_rfl


noncomputable def S_ref27_SameSends_4 (N : Nat) (n0 : Nat) (c1 : List V) (n2 : Nat) (c3 : List V) (x4 : Int) : Option V := runAt cc N n_ref27_SameSends 4 (envOf 26 [(0, V.sl n0 c1), (1, V.sl n2 c3), (5, V.int IntKind.i64 x4)]) [] [] 0
theorem F_ref27_SameSends (N : Nat) (n0 : Nat) (c1 : List V) (n2 : Nat) (c3 : List V) : call cc (N + 1) n_ref27_SameSends [V.sl n0 c1, V.sl n2 c3] =
 cond (((n0 : Nat) : Int) != ((n2 : Nat) : Int))
 (some (V.bool false))
 (S_ref27_SameSends_4 N n0 c1 n2 c3 (0 : Int)) := by kernel_rfl
theorem S_ref27_SameSends_4_eq (N : Nat) (n0 : Nat) (c1 : List V) (n2 : Nat) (c3 : List V) (x4 : Int) : S_ref27_SameSends_4 (N + 1) n0 c1 n2 c3 x4 =
 cond (decide (x4 < ((n0 : Nat) : Int)))
 (cond (decide ((0 : Int) ≤ x4))
  (cond (decide (x4 < ((n0 : Nat) : Int)))
  (cond (okT [CK.i IntKind.i64, CK.i IntKind.u8, CK.i IntKind.i64, CK.i IntKind.i64, CK.i IntKind.i64, CK.i IntKind.i64, CK.i IntKind.i64, CK.i IntKind.i64, CK.i IntKind.i64, CK.i IntKind.i64, CK.i IntKind.i64] c1 ((Int.toNat x4) * 11))
  (cond (decide ((0 : Int) ≤ x4))
  (cond (decide (x4 < ((n2 : Nat) : Int)))
  (cond (okT [CK.i IntKind.i64, CK.i IntKind.u8, CK.i IntKind.i64, CK.i IntKind.i64, CK.i IntKind.i64, CK.i IntKind.i64, CK.i IntKind.i64, CK.i IntKind.i64, CK.i IntKind.i64, CK.i IntKind.i64, CK.i IntKind.i64] c3 ((Int.toNat x4) * 11))
  (cond (!(((V.toI (cellAt c1 ((Int.toNat x4) * 11))) == (V.toI (cellAt c3 ((Int.toNat x4) * 11)))) && ((((V.toI (cellAt c1 (((Int.toNat x4) * 11) + 1))) == (V.toI (cellAt c3 (((Int.toNat x4) * 11) + 1)))) && ((((V.toI (cellAt c1 ((((Int.toNat x4) * 11) + 1) + 1))) == (V.toI (cellAt c3 ((((Int.toNat x4) * 11) + 1) + 1)))) && (((V.toI (cellAt c1 (((((Int.toNat x4) * 11) + 1) + 1) + 1))) == (V.toI (cellAt c3 (((((Int.toNat x4) * 11) + 1) + 1) + 1)))) && (((V.toI (cellAt c1 ((((((Int.toNat x4) * 11) + 1) + 1) + 1) + 1))) == (V.toI (cellAt c3 ((((((Int.toNat x4) * 11) + 1) + 1) + 1) + 1)))) && true))) && (((V.toI (cellAt c1 (((((((Int.toNat x4) * 11) + 1) + 1) + 1) + 1) + 1))) == (V.toI (cellAt c3 (((((((Int.toNat x4) * 11) + 1) + 1) + 1) + 1) + 1)))) && ((((V.toI (cellAt c1 ((((((((Int.toNat x4) * 11) + 1) + 1) + 1) + 1) + 1) + 1))) == (V.toI (cellAt c3 ((((((((Int.toNat x4) * 11) + 1) + 1) + 1) + 1) + 1) + 1)))) && ((((V.toI (cellAt c1 (((((((((Int.toNat x4) * 11) + 1) + 1) + 1) + 1) + 1) + 1) + 1))) == (V.toI (cellAt c3 (((((((((Int.toNat x4) * 11) + 1) + 1) + 1) + 1) + 1) + 1) + 1)))) && (((V.toI (cellAt c1 ((((((((((Int.toNat x4) * 11) + 1) + 1) + 1) + 1) + 1) + 1) + 1) + 1))) == (V.toI (cellAt c3 ((((((((((Int.toNat x4) * 11) + 1) + 1) + 1) + 1) + 1) + 1) + 1) + 1)))) && true)) && ((((V.toI (cellAt c1 (((((((((((Int.toNat x4) * 11) + 1) + 1) + 1) + 1) + 1) + 1) + 1) + 1) + 1))) == (V.toI (cellAt c3 (((((((((((Int.toNat x4) * 11) + 1) + 1) + 1) + 1) + 1) + 1) + 1) + 1) + 1)))) && (((V.toI (cellAt c1 ((((((((((((Int.toNat x4) * 11) + 1) + 1) + 1) + 1) + 1) + 1) + 1) + 1) + 1) + 1))) == (V.toI (cellAt c3 ((((((((((((Int.toNat x4) * 11) + 1) + 1) + 1) + 1) + 1) + 1) + 1) + 1) + 1) + 1)))) && true)) && true))) && true)))) && true)))
  (some (V.bool false))
  (S_ref27_SameSends_4 N n0 c1 n2 c3 (IntKind.wrap IntKind.i64 (x4 + (1 : Int)))))
  none)
  none)
  none)
  none)
  none)
  none)
 (some (V.bool true)) := by kernel_rfl


theorem F_nodes_check (N : Nat) (n0 : Nat) (c1 : List V) : call cc (N + 1) n_nodes_check [V.sl n0 c1] =
 cond (decide (((n0 : Nat) : Int) > (60 : Int)))
 (some (V.tup [V.sl 0 [], V.int IntKind.i64 (4 : Int)]))
 ((call cc N n_nodes_tops [V.sl n0 c1]).bind fun v2 =>
  cond (okRes [(false, [CK.sl 3]), (false, [CK.b])] v2)
  (cond (V.toB (cellAt (V.cells (cellAt (V.cs v2) 1)) 0))
  (cond (decide ((0 : Int) ≤ (IntKind.wrap IntKind.i64 (((V.slN (cellAt (V.cells (cellAt (V.cs v2) 0)) 0) : Nat) : Int) - (1 : Int)))))
   (cond (decide ((IntKind.wrap IntKind.i64 (((V.slN (cellAt (V.cells (cellAt (V.cs v2) 0)) 0) : Nat) : Int) - (1 : Int))) < ((V.slN (cellAt (V.cells (cellAt (V.cs v2) 0)) 0) : Nat) : Int)))
   (cond (okT [CK.i IntKind.i64] (V.slC (cellAt (V.cells (cellAt (V.cs v2) 0)) 0)) (((Int.toNat (IntKind.wrap IntKind.i64 (((V.slN (cellAt (V.cells (cellAt (V.cs v2) 0)) 0) : Nat) : Int) - (1 : Int)))) * 3) + 2))
   (cond (decide ((V.toI (cellAt (V.slC (cellAt (V.cells (cellAt (V.cs v2) 0)) 0)) (((Int.toNat (IntKind.wrap IntKind.i64 (((V.slN (cellAt (V.cells (cellAt (V.cs v2) 0)) 0) : Nat) : Int) - (1 : Int)))) * 3) + 2))) > (20 : Int)))
   (some (V.tup [V.sl 0 [], V.int IntKind.i64 (34 : Int)]))
   (some (V.tup [V.sl (V.slN (cellAt (V.cells (cellAt (V.cs v2) 0)) 0)) (V.slC (cellAt (V.cells (cellAt (V.cs v2) 0)) 0)), V.int IntKind.i64 (0 : Int)])))
   none)
   none)
   none)
  (some (V.tup [V.sl 0 [], V.int IntKind.i64 (8 : Int)])))
  none) := by kernel_rfl


theorem F_clauses_Sources_1 (N : Nat) (x0 : Int) : call cc (N + 1) n_clauses_Sources_1 [V.int IntKind.i64 x0] =
 cond (decide (x0 < (0 : Int)))
 (some (V.bool true))
 (cond (decide (x0 ≥ (4 : Int)))
  (some (V.bool true))
  (some (V.bool false))) := by kernel_rfl


theorem F_slices_ContainsFunc_int_int_a (N : Nat) (n0 : Nat) (c1 : List V) : call cc (N + 1) n_slices_ContainsFunc_int_int [V.sl n0 c1, V.fn n_clauses_Sources_1 [] []] =
 (call cc N n_slices_IndexFunc_int_int [V.sl n0 c1, V.fn n_clauses_Sources_1 [] []]).bind fun v2 =>
 cond (okRes [(false, [CK.i IntKind.i64])] v2)
 (cond (decide ((V.toI (cellAt (V.cells v2) 0)) ≥ (0 : Int)))
 (some (V.bool true))
 (some (V.bool false)))
 none := by kernel_rfl


theorem F_kinds_Of (N : Nat) (n0 : Nat) (c1 : List V) : call cc (N + 1) n_kinds_Of [V.sl n0 c1] =
 (call cc N n_nodes_Check [V.sl n0 c1]).bind fun v2 =>
 cond (okRes [(false, [CK.i IntKind.i64])] v2)
 (cond ((V.toI (cellAt (V.cells v2) 0)) != (0 : Int))
 (some (V.tup [V.bool false, V.int IntKind.i64 (0 : Int), V.int IntKind.i64 (V.toI (cellAt (V.cells v2) 0))]))
 ((call cc N n_kinds_told [V.sl n0 c1]).bind fun v3 =>
  cond (okRes [(false, [CK.sl 1]), (false, [CK.i IntKind.i64])] v3)
  (cond (decide ((V.toI (cellAt (V.cells (cellAt (V.cs v3) 1)) 0)) < ((n0 : Nat) : Int)))
  (some (V.tup [V.bool false, V.int IntKind.i64 (V.toI (cellAt (V.cells (cellAt (V.cs v3) 1)) 0)), V.int IntKind.i64 (42 : Int)]))
  (cond (decide ((0 : Int) ≤ (IntKind.wrap IntKind.i64 ((V.toI (cellAt (V.cells (cellAt (V.cs v3) 1)) 0)) - (1 : Int)))))
   (cond (decide ((IntKind.wrap IntKind.i64 ((V.toI (cellAt (V.cells (cellAt (V.cs v3) 1)) 0)) - (1 : Int))) < ((V.slN (cellAt (V.cells (cellAt (V.cs v3) 0)) 0) : Nat) : Int)))
   (cond (okT [CK.b] (V.slC (cellAt (V.cells (cellAt (V.cs v3) 0)) 0)) ((Int.toNat (IntKind.wrap IntKind.i64 ((V.toI (cellAt (V.cells (cellAt (V.cs v3) 1)) 0)) - (1 : Int)))) * 1))
   (cond (V.toB (cellAt (V.slC (cellAt (V.cells (cellAt (V.cs v3) 0)) 0)) ((Int.toNat (IntKind.wrap IntKind.i64 ((V.toI (cellAt (V.cells (cellAt (V.cs v3) 1)) 0)) - (1 : Int)))) * 1)))
   (some (V.tup [V.bool true, V.int IntKind.i64 (IntKind.wrap IntKind.i64 ((V.toI (cellAt (V.cells (cellAt (V.cs v3) 1)) 0)) - (1 : Int))), V.int IntKind.i64 (0 : Int)]))
   (some (V.tup [V.bool false, V.int IntKind.i64 (IntKind.wrap IntKind.i64 ((V.toI (cellAt (V.cells (cellAt (V.cs v3) 1)) 0)) - (1 : Int))), V.int IntKind.i64 (0 : Int)])))
   none)
   none)
   none))
  none))
 none := by kernel_rfl


theorem F_message_isMark (N : Nat) (x0 : Int) : call cc (N + 1) n_message_isMark [V.int IntKind.i64 x0] =
 (call cc N n_message_isTime [V.int IntKind.i64 x0]).bind fun v1 =>
 cond (okRes [(false, [CK.b])] v1)
 (cond (V.toB (cellAt (V.cells v1) 0))
 (some (V.bool true))
 (cond (x0 == (9223372036854775807 : Int))
  (some (V.bool true))
  (some (V.bool false))))
 none := by kernel_rfl


theorem F_message_isTime (N : Nat) (x0 : Int) : call cc (N + 1) n_message_isTime [V.int IntKind.i64 x0] =
 cond (decide (x0 ≥ (-(1099511627776 : Int))))
 (cond (decide (x0 ≤ (1099511627776 : Int)))
  (some (V.bool true))
  (some (V.bool false)))
 (some (V.bool false)) := by kernel_rfl


theorem F_mathbits_Mul (N : Nat) (x0 : Int) (x1 : Int) : call cc (N + 1) n_mathbits_Mul [V.int IntKind.u64 x0, V.int IntKind.u64 x1] =
 (call cc N n_mathbits_Mul64 [V.int IntKind.u64 x0, V.int IntKind.u64 x1]).bind fun v2 =>
 cond (okRes [(false, [CK.i IntKind.u64]), (false, [CK.i IntKind.u64])] v2)
 (some (V.tup [V.int IntKind.u64 (V.toI (cellAt (V.cells (cellAt (V.cs v2) 0)) 0)), V.int IntKind.u64 (V.toI (cellAt (V.cells (cellAt (V.cs v2) 1)) 0))]))
 none := by kernel_rfl


theorem F_ref04_Check (N : Nat) (n0 : Nat) (c1 : List V) : call cc (N + 1) n_ref04_Check [V.sl n0 c1] =
 cond (decide (((n0 : Nat) : Int) > (60 : Int)))
 (some (V.int IntKind.i64 (4 : Int)))
 ((call cc N n_ref04_Sizes [V.sl n0 c1]).bind fun v2 =>
  cond (okRes [(false, [CK.sl 1]), (false, [CK.sl 1]), (false, [CK.b])] v2)
  (cond (V.toB (cellAt (V.cells (cellAt (V.cs v2) 2)) 0))
  (cond (decide ((0 : Int) ≤ (IntKind.wrap IntKind.i64 (((n0 : Nat) : Int) - (1 : Int)))))
   (cond (decide ((IntKind.wrap IntKind.i64 (((n0 : Nat) : Int) - (1 : Int))) < ((V.slN (cellAt (V.cells (cellAt (V.cs v2) 1)) 0) : Nat) : Int)))
   (cond (okT [CK.i IntKind.i64] (V.slC (cellAt (V.cells (cellAt (V.cs v2) 1)) 0)) ((Int.toNat (IntKind.wrap IntKind.i64 (((n0 : Nat) : Int) - (1 : Int)))) * 1))
   (cond (decide ((V.toI (cellAt (V.slC (cellAt (V.cells (cellAt (V.cs v2) 1)) 0)) ((Int.toNat (IntKind.wrap IntKind.i64 (((n0 : Nat) : Int) - (1 : Int)))) * 1))) > (20 : Int)))
   (some (V.int IntKind.i64 (34 : Int)))
   (some (V.int IntKind.i64 (0 : Int))))
   none)
   none)
   none)
  (some (V.int IntKind.i64 (8 : Int))))
  none) := by kernel_rfl


noncomputable def S_ref08_Sources_6 (N : Nat) (n0 : Nat) (c1 : List V) (x2 : Int) : Option V := runAt cc N n_ref08_Sources 6 (envOf 60 [(0, V.sl n0 c1), (5, V.int IntKind.i64 x2)]) [] [] 0
noncomputable def S_ref08_Sources_11 (N : Nat) (n0 : Nat) (c1 : List V) (x2 : Int) : Option V := runAt cc N n_ref08_Sources 11 (envOf 60 [(0, V.sl n0 c1), (6, V.int IntKind.i64 x2)]) [] [] 0
noncomputable def S_ref08_Sources_14 (N : Nat) (n0 : Nat) (c1 : List V) (x2 : Int) (x3 : Int) : Option V := runAt cc N n_ref08_Sources 14 (envOf 60 [(0, V.sl n0 c1), (6, V.int IntKind.i64 x2), (7, V.int IntKind.i64 x3)]) [] [] 0
theorem F_ref08_Sources (N : Nat) (n0 : Nat) (c1 : List V) (b2 : Bool) : call cc (N + 1) n_ref08_Sources [V.sl n0 c1, V.bool b2] =
 cond (decide (((n0 : Nat) : Int) > (4 : Int)))
 (some (V.int IntKind.i64 (4 : Int)))
 (cond (((n0 : Nat) : Int) == (0 : Int))
  (some (V.int IntKind.i64 (8 : Int)))
  (cond b2
   (cond (((n0 : Nat) : Int) != (2 : Int))
    (some (V.int IntKind.i64 (8 : Int)))
    (S_ref08_Sources_6 N n0 c1 (0 : Int)))
   (S_ref08_Sources_6 N n0 c1 (0 : Int)))) := by kernel_rfl
theorem S_ref08_Sources_6_eq (N : Nat) (n0 : Nat) (c1 : List V) (x2 : Int) : S_ref08_Sources_6 (N + 1) n0 c1 x2 =
 cond (decide (x2 < ((n0 : Nat) : Int)))
 (cond (decide ((0 : Int) ≤ x2))
  (cond (decide (x2 < ((n0 : Nat) : Int)))
  (cond (okT [CK.i IntKind.i64] c1 ((Int.toNat x2) * 1))
  (cond (decide ((V.toI (cellAt c1 ((Int.toNat x2) * 1))) < (0 : Int)))
  (some (V.int IntKind.i64 (8 : Int)))
  (cond (decide ((0 : Int) ≤ x2))
   (cond (decide (x2 < ((n0 : Nat) : Int)))
   (cond (okT [CK.i IntKind.i64] c1 ((Int.toNat x2) * 1))
   (cond (decide ((V.toI (cellAt c1 ((Int.toNat x2) * 1))) > (3 : Int)))
   (some (V.int IntKind.i64 (8 : Int)))
   (S_ref08_Sources_6 N n0 c1 (IntKind.wrap IntKind.i64 (x2 + (1 : Int)))))
   none)
   none)
   none))
  none)
  none)
  none)
 (S_ref08_Sources_11 N n0 c1 (0 : Int)) := by kernel_rfl
theorem S_ref08_Sources_11_eq (N : Nat) (n0 : Nat) (c1 : List V) (x2 : Int) : S_ref08_Sources_11 (N + 1) n0 c1 x2 =
 cond (decide (x2 < ((n0 : Nat) : Int)))
 (S_ref08_Sources_14 N n0 c1 x2 (0 : Int))
 (some (V.int IntKind.i64 (0 : Int))) := by kernel_rfl
theorem S_ref08_Sources_14_eq (N : Nat) (n0 : Nat) (c1 : List V) (x2 : Int) (x3 : Int) : S_ref08_Sources_14 (N + 1) n0 c1 x2 x3 =
 cond (decide (x3 < x2))
 (cond (decide ((0 : Int) ≤ x3))
  (cond (decide (x3 < ((n0 : Nat) : Int)))
  (cond (okT [CK.i IntKind.i64] c1 ((Int.toNat x3) * 1))
  (cond (decide ((0 : Int) ≤ x2))
  (cond (decide (x2 < ((n0 : Nat) : Int)))
  (cond (okT [CK.i IntKind.i64] c1 ((Int.toNat x2) * 1))
  (cond ((V.toI (cellAt c1 ((Int.toNat x3) * 1))) == (V.toI (cellAt c1 ((Int.toNat x2) * 1))))
  (some (V.int IntKind.i64 (43 : Int)))
  (S_ref08_Sources_14 N n0 c1 x2 (IntKind.wrap IntKind.i64 (x3 + (1 : Int)))))
  none)
  none)
  none)
  none)
  none)
  none)
 (S_ref08_Sources_11 N n0 c1 (IntKind.wrap IntKind.i64 (x2 + (1 : Int)))) := by kernel_rfl


theorem F_ref08_Fits (N : Nat) (x0 : Int) (x1 : Int) (x2 : Int) : call cc (N + 1) n_ref08_Fits [V.agg [V.int IntKind.u8 x0, V.int IntKind.i64 x1, V.int IntKind.i64 x2]] =
 cond (decide (x1 < (1 : Int)))
 (some (V.bool false))
 (cond (decide (x1 > (1073741824 : Int)))
  (some (V.bool false))
  (cond (x0 == (2 : Int))
   (cond (decide (x2 ≥ (1 : Int)))
    (cond (decide (x2 ≤ x1))
     (cond (decide (x1 ≤ (IntKind.wrap IntKind.i64 ((16 : Int) * x2))))
      (some (V.bool true))
      (some (V.bool false)))
     (some (V.bool false)))
    (some (V.bool false)))
   (cond (x0 == (1 : Int))
    (cond (x2 == (0 : Int))
     (some (V.bool true))
     (some (V.bool false)))
    (cond (x0 == (3 : Int))
     (cond (x2 == (0 : Int))
      (some (V.bool true))
      (some (V.bool false)))
     (some (V.bool false)))))) := by kernel_rfl


theorem F_ref06_Want (N : Nat) (n0 : Nat) (c1 : List V) (b2 : Bool) : call cc (N + 1) n_ref06_Want [V.sl n0 c1, V.bool b2] =
 (call cc N n_ref06_Of [V.sl n0 c1]).bind fun v3 =>
 cond (okRes [(false, [CK.b]), (false, [CK.i IntKind.i64]), (false, [CK.i IntKind.i64])] v3)
 (cond (V.toB (cellAt (V.cells (cellAt (V.cs v3) 0)) 0))
 (cond ((V.toI (cellAt (V.cells (cellAt (V.cs v3) 2)) 0)) == (0 : Int))
  (cond b2
   (some (V.tup [V.int IntKind.i64 (V.toI (cellAt (V.cells (cellAt (V.cs v3) 1)) 0)), V.int IntKind.i64 (V.toI (cellAt (V.cells (cellAt (V.cs v3) 2)) 0))]))
   (some (V.tup [V.int IntKind.i64 (V.toI (cellAt (V.cells (cellAt (V.cs v3) 1)) 0)), V.int IntKind.i64 (42 : Int)])))
  (some (V.tup [V.int IntKind.i64 (V.toI (cellAt (V.cells (cellAt (V.cs v3) 1)) 0)), V.int IntKind.i64 (V.toI (cellAt (V.cells (cellAt (V.cs v3) 2)) 0))])))
 (cond ((V.toI (cellAt (V.cells (cellAt (V.cs v3) 2)) 0)) == (0 : Int))
  (cond b2
   (some (V.tup [V.int IntKind.i64 (V.toI (cellAt (V.cells (cellAt (V.cs v3) 1)) 0)), V.int IntKind.i64 (42 : Int)]))
   (some (V.tup [V.int IntKind.i64 (V.toI (cellAt (V.cells (cellAt (V.cs v3) 1)) 0)), V.int IntKind.i64 (V.toI (cellAt (V.cells (cellAt (V.cs v3) 2)) 0))])))
  (some (V.tup [V.int IntKind.i64 (V.toI (cellAt (V.cells (cellAt (V.cs v3) 1)) 0)), V.int IntKind.i64 (V.toI (cellAt (V.cells (cellAt (V.cs v3) 2)) 0))]))))
 none := by kernel_rfl


theorem F_ref13_Check (N : Nat) (x0 : Int) (x1 : Int) : call cc (N + 1) n_ref13_Check [V.int IntKind.i64 x0, V.int IntKind.i64 x1] =
 cond (decide (x1 < (1 : Int)))
 (some (V.int IntKind.i64 (2 : Int)))
 (cond (decide (x1 > (1073741824 : Int)))
  (some (V.int IntKind.i64 (2 : Int)))
  (cond (decide (x0 < (-(1099511627776 : Int))))
   (some (V.int IntKind.i64 (16 : Int)))
   (cond (decide (x0 > (1099511627776 : Int)))
    (some (V.int IntKind.i64 (16 : Int)))
    (some (V.int IntKind.i64 (0 : Int)))))) := by kernel_rfl


theorem F_ref25_Event (N : Nat) (b0 : Bool) (x1 : Int) (x2 : Int) (x3 : Int) (x4 : Int) : call cc (N + 1) n_ref25_Event [V.agg [V.bool b0, V.int IntKind.i64 x1, V.int IntKind.i64 x2, V.int IntKind.i64 x3, V.int IntKind.i64 x4]] =
 cond b0
 ((call cc N n_ref25_Mark [V.int IntKind.i64 x1]).bind fun v5 =>
  cond (okRes [(false, [CK.b])] v5)
  (cond (V.toB (cellAt (V.cells v5) 0))
  (cond ((x2 == (0 : Int)) && ((x3 == (0 : Int)) && ((x4 == (0 : Int)) && true)))
   (some (V.int IntKind.i64 (0 : Int)))
   (cond b0
    (some (V.int IntKind.i64 (8 : Int)))
    (cond (x1 == (0 : Int))
     ((call cc N n_ref25_Right [V.agg [V.int IntKind.i64 x2, V.int IntKind.i64 x3, V.int IntKind.i64 x4]]).bind fun v6 =>
      cond (okRes [(false, [CK.b])] v6)
      (cond (V.toB (cellAt (V.cells v6) 0))
      (some (V.int IntKind.i64 (0 : Int)))
      (some (V.int IntKind.i64 (8 : Int))))
      none)
     (some (V.int IntKind.i64 (8 : Int))))))
  (cond b0
   (some (V.int IntKind.i64 (8 : Int)))
   (cond (x1 == (0 : Int))
    ((call cc N n_ref25_Right [V.agg [V.int IntKind.i64 x2, V.int IntKind.i64 x3, V.int IntKind.i64 x4]]).bind fun v7 =>
     cond (okRes [(false, [CK.b])] v7)
     (cond (V.toB (cellAt (V.cells v7) 0))
     (some (V.int IntKind.i64 (0 : Int)))
     (some (V.int IntKind.i64 (8 : Int))))
     none)
    (some (V.int IntKind.i64 (8 : Int))))))
  none)
 (cond b0
  (some (V.int IntKind.i64 (8 : Int)))
  (cond (x1 == (0 : Int))
   ((call cc N n_ref25_Right [V.agg [V.int IntKind.i64 x2, V.int IntKind.i64 x3, V.int IntKind.i64 x4]]).bind fun v8 =>
    cond (okRes [(false, [CK.b])] v8)
    (cond (V.toB (cellAt (V.cells v8) 0))
    (some (V.int IntKind.i64 (0 : Int)))
    (some (V.int IntKind.i64 (8 : Int))))
    none)
   (some (V.int IntKind.i64 (8 : Int))))) := by kernel_rfl


noncomputable def S_ref31_New_5 (N : Nat) (x0 : Int) (n1 : Nat) (x2 : Int) (c3 : List V) : Option V := runAt cc N n_ref31_New 5 (envOf 21 [(0, V.int IntKind.i64 x0), (4, V.own 0 n1), (5, V.int IntKind.i64 x2)]) [⟨c3, 1, 0, false⟩] [] 0
theorem F_ref31_New (N : Nat) (x0 : Int) : call cc (N + 1) n_ref31_New [V.int IntKind.i64 x0] =
 cond (decide (x0 < (1 : Int)))
 (some (V.tup [V.sl 0 [], V.int IntKind.i64 (2 : Int)]))
 (cond (decide (x0 > (4 : Int)))
  (some (V.tup [V.sl 0 [], V.int IntKind.i64 (2 : Int)]))
  (S_ref31_New_5 N x0 0 (0 : Int) [])) := by kernel_rfl
theorem S_ref31_New_5_eq (N : Nat) (x0 : Int) (n1 : Nat) (x2 : Int) (c3 : List V) : S_ref31_New_5 (N + 1) x0 n1 x2 c3 =
 cond (decide (x2 < x0))
 (cond (decide ((n1 + 1) ≤ bound))
  (S_ref31_New_5 N x0 (n1 + 1) (IntKind.wrap IntKind.i64 (x2 + (1 : Int))) (c3 ++ [V.int IntKind.i64 (-(9223372036854775808 : Int))]))
  none)
 (some (V.tup [V.sl n1 c3, V.int IntKind.i64 (0 : Int)])) := by kernel_rfl


noncomputable def S_ref26_SameList_4 (N : Nat) (n0 : Nat) (c1 : List V) (n2 : Nat) (c3 : List V) (x4 : Int) : Option V := runAt cc N n_ref26_SameList 4 (envOf 26 [(0, V.sl n0 c1), (1, V.sl n2 c3), (5, V.int IntKind.i64 x4)]) [] [] 0
theorem F_ref26_SameList (N : Nat) (n0 : Nat) (c1 : List V) (n2 : Nat) (c3 : List V) : call cc (N + 1) n_ref26_SameList [V.sl n0 c1, V.sl n2 c3] =
 cond (((n0 : Nat) : Int) != ((n2 : Nat) : Int))
 (some (V.bool false))
 (S_ref26_SameList_4 N n0 c1 n2 c3 (0 : Int)) := by kernel_rfl
theorem S_ref26_SameList_4_eq (N : Nat) (n0 : Nat) (c1 : List V) (n2 : Nat) (c3 : List V) (x4 : Int) : S_ref26_SameList_4 (N + 1) n0 c1 n2 c3 x4 =
 cond (decide (x4 < ((n0 : Nat) : Int)))
 (cond (decide ((0 : Int) ≤ x4))
  (cond (decide (x4 < ((n0 : Nat) : Int)))
  (cond (okT [CK.i IntKind.u8, CK.i IntKind.i64, CK.i IntKind.i64, CK.i IntKind.i64, CK.i IntKind.i64, CK.i IntKind.i64, CK.i IntKind.i64, CK.i IntKind.i64, CK.i IntKind.i64, CK.i IntKind.i64] c1 ((Int.toNat x4) * 10))
  (cond (decide ((0 : Int) ≤ x4))
  (cond (decide (x4 < ((n2 : Nat) : Int)))
  (cond (okT [CK.i IntKind.u8, CK.i IntKind.i64, CK.i IntKind.i64, CK.i IntKind.i64, CK.i IntKind.i64, CK.i IntKind.i64, CK.i IntKind.i64, CK.i IntKind.i64, CK.i IntKind.i64, CK.i IntKind.i64] c3 ((Int.toNat x4) * 10))
  (cond (!(((V.toI (cellAt c1 ((Int.toNat x4) * 10))) == (V.toI (cellAt c3 ((Int.toNat x4) * 10)))) && ((((V.toI (cellAt c1 (((Int.toNat x4) * 10) + 1))) == (V.toI (cellAt c3 (((Int.toNat x4) * 10) + 1)))) && (((V.toI (cellAt c1 ((((Int.toNat x4) * 10) + 1) + 1))) == (V.toI (cellAt c3 ((((Int.toNat x4) * 10) + 1) + 1)))) && (((V.toI (cellAt c1 (((((Int.toNat x4) * 10) + 1) + 1) + 1))) == (V.toI (cellAt c3 (((((Int.toNat x4) * 10) + 1) + 1) + 1)))) && true))) && (((V.toI (cellAt c1 ((((((Int.toNat x4) * 10) + 1) + 1) + 1) + 1))) == (V.toI (cellAt c3 ((((((Int.toNat x4) * 10) + 1) + 1) + 1) + 1)))) && ((((V.toI (cellAt c1 (((((((Int.toNat x4) * 10) + 1) + 1) + 1) + 1) + 1))) == (V.toI (cellAt c3 (((((((Int.toNat x4) * 10) + 1) + 1) + 1) + 1) + 1)))) && ((((V.toI (cellAt c1 ((((((((Int.toNat x4) * 10) + 1) + 1) + 1) + 1) + 1) + 1))) == (V.toI (cellAt c3 ((((((((Int.toNat x4) * 10) + 1) + 1) + 1) + 1) + 1) + 1)))) && (((V.toI (cellAt c1 (((((((((Int.toNat x4) * 10) + 1) + 1) + 1) + 1) + 1) + 1) + 1))) == (V.toI (cellAt c3 (((((((((Int.toNat x4) * 10) + 1) + 1) + 1) + 1) + 1) + 1) + 1)))) && true)) && ((((V.toI (cellAt c1 ((((((((((Int.toNat x4) * 10) + 1) + 1) + 1) + 1) + 1) + 1) + 1) + 1))) == (V.toI (cellAt c3 ((((((((((Int.toNat x4) * 10) + 1) + 1) + 1) + 1) + 1) + 1) + 1) + 1)))) && (((V.toI (cellAt c1 (((((((((((Int.toNat x4) * 10) + 1) + 1) + 1) + 1) + 1) + 1) + 1) + 1) + 1))) == (V.toI (cellAt c3 (((((((((((Int.toNat x4) * 10) + 1) + 1) + 1) + 1) + 1) + 1) + 1) + 1) + 1)))) && true)) && true))) && true)))))
  (some (V.bool false))
  (S_ref26_SameList_4 N n0 c1 n2 c3 (IntKind.wrap IntKind.i64 (x4 + (1 : Int)))))
  none)
  none)
  none)
  none)
  none)
  none)
 (some (V.bool true)) := by kernel_rfl


noncomputable def S_nodes_tops_3 (N : Nat) (n0 : Nat) (n1 : Nat) (n2 : Nat) (c3 : List V) (x4 : Int) (x5 : Int) (c6 : List V) (c7 : List V) : Option V := runAt cc N n_nodes_tops 3 (envOf 105 [(4, V.own 0 n0), (5, V.own 1 n1), (15, V.sl n2 c3), (16, V.int IntKind.i64 x4), (17, V.int IntKind.i64 x5)]) [⟨c6, 3, 0, false⟩, ⟨c7, 3, 0, false⟩] [] 0
noncomputable def S_nodes_tops_13 (N : Nat) (n0 : Nat) (n1 : Nat) (n2 : Nat) (c3 : List V) (x4 : Int) (x5 : Int) (o6 : Nat) (n7 : Nat) (x8 : Int) (x9 : Int) (c10 : List V) (c11 : List V) (x12 : Int) (x13 : Int) (x14 : Int) (x15 : Int) (x16 : Int) (x17 : Int) (x18 : Int) (x19 : Int) (x20 : Int) (x21 : Int) (x22 : Int) (x23 : Int) (x24 : Int) : Option V := runAt cc N n_nodes_tops 13 (envOf 105 [(4, V.own 0 n0), (5, V.ref 1 0 n1), (7, V.ptr 2 0), (11, V.ptr 3 0), (12, V.ptr 4 0), (15, V.sl n2 c3), (16, V.int IntKind.i64 x4), (17, V.int IntKind.i64 x5), (52, V.ref 1 o6 n7), (53, V.int IntKind.i64 x8), (54, V.int IntKind.i64 x9)]) [⟨c10, 3, 0, false⟩, ⟨c11, 3, 0, false⟩, ⟨[V.int IntKind.u8 x12, V.int IntKind.i64 x13, V.int IntKind.i64 x14, V.int IntKind.i64 x15, V.int IntKind.i64 x16], 1, 0, true⟩, ⟨[V.int IntKind.u8 x17, V.int IntKind.i64 x18, V.int IntKind.i64 x19, V.int IntKind.i64 x20, V.int IntKind.i64 x21], 1, 0, true⟩, ⟨[V.int IntKind.i64 x22, V.int IntKind.i64 x23, V.int IntKind.i64 x24], 1, 0, true⟩] [] 0
theorem F_nodes_tops (N : Nat) (n0 : Nat) (c1 : List V) : call cc (N + 1) n_nodes_tops [V.sl n0 c1] =
 S_nodes_tops_3 N 0 0 n0 c1 ((n0 : Nat) : Int) (0 : Int) [] [] := by kernel_rfl
theorem S_nodes_tops_3_eq (N : Nat) (n0 : Nat) (n1 : Nat) (n2 : Nat) (c3 : List V) (x4 : Int) (x5 : Int) (c6 : List V) (c7 : List V) : S_nodes_tops_3 (N + 1) n0 n1 n2 c3 x4 x5 c6 c7 =
 cond (decide (x5 < x4))
 (cond (decide ((0 : Int) ≤ x5))
  (cond (decide (x5 < ((n2 : Nat) : Int)))
  (cond (okT [CK.i IntKind.u8, CK.i IntKind.i64, CK.i IntKind.i64, CK.i IntKind.i64, CK.i IntKind.i64] c3 ((Int.toNat x5) * 5))
  ((call cc N n_nodes_Parts [V.int IntKind.u8 (V.toI (cellAt c3 ((Int.toNat x5) * 5)))]).bind fun v8 =>
  cond (okRes [(false, [CK.i IntKind.i64]), (false, [CK.i IntKind.i64])] v8)
  (cond ((V.toI (cellAt (V.cells (cellAt (V.cs v8) 1)) 0)) != (0 : Int))
  (some (V.tup [V.sl n0 c6, V.bool false]))
  (cond (decide ((V.toI (cellAt (V.cells (cellAt (V.cs v8) 0)) 0)) > ((n1 : Nat) : Int)))
   (some (V.tup [V.sl n0 c6, V.bool false]))
   (cond (decide ((0 : Int) ≤ (IntKind.wrap IntKind.i64 (((n1 : Nat) : Int) - (V.toI (cellAt (V.cells (cellAt (V.cs v8) 0)) 0))))))
    (cond (decide ((IntKind.wrap IntKind.i64 (((n1 : Nat) : Int) - (V.toI (cellAt (V.cells (cellAt (V.cs v8) 0)) 0)))) ≤ ((n1 : Nat) : Int)))
    (cond (decide (((n1 : Nat) : Int) ≤ ((n1 : Nat) : Int)))
    (cond (decide ((0 : Int) ≤ (IntKind.wrap IntKind.i64 (((n1 : Nat) : Int) - (V.toI (cellAt (V.cells (cellAt (V.cs v8) 0)) 0))))))
    (cond (decide ((IntKind.wrap IntKind.i64 (((n1 : Nat) : Int) - (V.toI (cellAt (V.cells (cellAt (V.cs v8) 0)) 0)))) ≤ ((n1 : Nat) : Int)))
    (cond (decide (((n1 : Nat) : Int) ≤ ((n1 : Nat) : Int)))
    (cond (decide (((n1 : Nat) : Int) ≤ ((n1 : Nat) : Int)))
    (S_nodes_tops_13 N n0 ((Int.toNat (IntKind.wrap IntKind.i64 (((n1 : Nat) : Int) - (V.toI (cellAt (V.cells (cellAt (V.cs v8) 0)) 0))))) - 0) n2 c3 x4 x5 ((Int.toNat (IntKind.wrap IntKind.i64 (((n1 : Nat) : Int) - (V.toI (cellAt (V.cells (cellAt (V.cs v8) 0)) 0))))) * 3) (n1 - (Int.toNat (IntKind.wrap IntKind.i64 (((n1 : Nat) : Int) - (V.toI (cellAt (V.cells (cellAt (V.cs v8) 0)) 0)))))) ((n1 - (Int.toNat (IntKind.wrap IntKind.i64 (((n1 : Nat) : Int) - (V.toI (cellAt (V.cells (cellAt (V.cs v8) 0)) 0))))) : Nat) : Int) (0 : Int) c6 c7 (V.toI (cellAt c3 ((Int.toNat x5) * 5))) (V.toI (cellAt c3 (((Int.toNat x5) * 5) + 1))) (V.toI (cellAt c3 ((((Int.toNat x5) * 5) + 1) + 1))) (V.toI (cellAt c3 (((((Int.toNat x5) * 5) + 1) + 1) + 1))) (V.toI (cellAt c3 ((((((Int.toNat x5) * 5) + 1) + 1) + 1) + 1))) (V.toI (cellAt c3 ((Int.toNat x5) * 5))) (0 : Int) (0 : Int) (0 : Int) (ite ((400 : Int) < (ite ((0 : Int) > (V.toI (cellAt c3 ((((((Int.toNat x5) * 5) + 1) + 1) + 1) + 1)))) (0 : Int) (V.toI (cellAt c3 ((((((Int.toNat x5) * 5) + 1) + 1) + 1) + 1))))) (400 : Int) (ite ((0 : Int) > (V.toI (cellAt c3 ((((((Int.toNat x5) * 5) + 1) + 1) + 1) + 1)))) (0 : Int) (V.toI (cellAt c3 ((((((Int.toNat x5) * 5) + 1) + 1) + 1) + 1))))) x5 (1 : Int) (1 : Int))
    none)
    none)
    none)
    none)
    none)
    none)
    none)))
  none)
  none)
  none)
  none)
 (cond (((n1 : Nat) : Int) == (1 : Int))
  (some (V.tup [V.sl n0 c6, V.bool true]))
  (some (V.tup [V.sl n0 c6, V.bool false]))) := by kernel_rfl
theorem S_nodes_tops_13_eq (N : Nat) (n0 : Nat) (n1 : Nat) (n2 : Nat) (c3 : List V) (x4 : Int) (x5 : Int) (o6 : Nat) (n7 : Nat) (x8 : Int) (x9 : Int) (c10 : List V) (c11 : List V) (x12 : Int) (x13 : Int) (x14 : Int) (x15 : Int) (x16 : Int) (x17 : Int) (x18 : Int) (x19 : Int) (x20 : Int) (x21 : Int) (x22 : Int) (x23 : Int) (x24 : Int) : S_nodes_tops_13 (N + 1) n0 n1 n2 c3 x4 x5 o6 n7 x8 x9 c10 c11 x12 x13 x14 x15 x16 x17 x18 x19 x20 x21 x22 x23 x24 =
 cond (decide (x9 < x8))
 (cond (decide ((0 : Int) ≤ x9))
  (cond (decide (x9 < ((n7 : Nat) : Int)))
  (cond (okT [CK.i IntKind.i64, CK.i IntKind.i64, CK.i IntKind.i64] c11 (o6 + ((Int.toNat x9) * 3)))
  (cond (x9 == (0 : Int))
  (S_nodes_tops_13 N n0 n1 n2 c3 x4 x5 o6 n7 x8 (IntKind.wrap IntKind.i64 (x9 + (1 : Int))) c10 c11 x12 x13 x14 x15 x16 x17 x18 (V.toI (cellAt c11 (o6 + ((Int.toNat x9) * 3)))) x20 x21 x22 (IntKind.wrap IntKind.i64 (x23 + (V.toI (cellAt c11 ((o6 + ((Int.toNat x9) * 3)) + 1))))) (ite ((IntKind.wrap IntKind.i64 ((V.toI (cellAt c11 (((o6 + ((Int.toNat x9) * 3)) + 1) + 1))) + (1 : Int))) > x24) (IntKind.wrap IntKind.i64 ((V.toI (cellAt c11 (((o6 + ((Int.toNat x9) * 3)) + 1) + 1))) + (1 : Int))) x24))
  (S_nodes_tops_13 N n0 n1 n2 c3 x4 x5 o6 n7 x8 (IntKind.wrap IntKind.i64 (x9 + (1 : Int))) c10 c11 x12 x13 x14 x15 x16 x17 x18 x19 (V.toI (cellAt c11 (o6 + ((Int.toNat x9) * 3)))) x21 x22 (IntKind.wrap IntKind.i64 (x23 + (V.toI (cellAt c11 ((o6 + ((Int.toNat x9) * 3)) + 1))))) (ite ((IntKind.wrap IntKind.i64 ((V.toI (cellAt c11 (((o6 + ((Int.toNat x9) * 3)) + 1) + 1))) + (1 : Int))) > x24) (IntKind.wrap IntKind.i64 ((V.toI (cellAt c11 (((o6 + ((Int.toNat x9) * 3)) + 1) + 1))) + (1 : Int))) x24)))
  none)
  none)
  none)
 (cond (x12 == (1 : Int))
  (cond (!((x17 == x12) && (((ite ((0 : Int) > x13) (0 : Int) x13) == x13) && ((x19 == x14) && ((x20 == x15) && ((x21 == x16) && true))))))
   (some (V.tup [V.sl n0 c10, V.bool false]))
   (cond (decide ((n1 + 1) ≤ bound))
    (cond (decide ((n0 + 1) ≤ bound))
    (S_nodes_tops_3 N (n0 + 1) (n1 + 1) n2 c3 x4 (IntKind.wrap IntKind.i64 (x5 + (1 : Int))) (c10 ++ [V.int IntKind.i64 x22, V.int IntKind.i64 x23, V.int IntKind.i64 x24]) ((List.take (n1 * 3) c11) ++ [V.int IntKind.i64 x22, V.int IntKind.i64 x23, V.int IntKind.i64 x24]))
    none)
    none))
  (cond (!((x17 == x12) && ((x18 == x13) && ((x19 == x14) && ((x20 == x15) && ((x21 == x16) && true))))))
   (some (V.tup [V.sl n0 c10, V.bool false]))
   (cond (decide ((n1 + 1) ≤ bound))
    (cond (decide ((n0 + 1) ≤ bound))
    (S_nodes_tops_3 N (n0 + 1) (n1 + 1) n2 c3 x4 (IntKind.wrap IntKind.i64 (x5 + (1 : Int))) (c10 ++ [V.int IntKind.i64 x22, V.int IntKind.i64 x23, V.int IntKind.i64 x24]) ((List.take (n1 * 3) c11) ++ [V.int IntKind.i64 x22, V.int IntKind.i64 x23, V.int IntKind.i64 x24]))
    none)
    none))) := by kernel_rfl


noncomputable def S_slices_IndexFunc_int_int_a_2 (N : Nat) (n0 : Nat) (c1 : List V) (x2 : Int) (x3 : Int) : Option V := runAt cc N n_slices_IndexFunc_int_int 2 (envOf 19 [(0, V.sl n0 c1), (1, V.fn n_clauses_Sources_1 [] []), (7, V.int IntKind.i64 x2), (8, V.int IntKind.i64 x3)]) [] [] 0
theorem F_slices_IndexFunc_int_int_a (N : Nat) (n0 : Nat) (c1 : List V) : call cc (N + 1) n_slices_IndexFunc_int_int [V.sl n0 c1, V.fn n_clauses_Sources_1 [] []] =
 S_slices_IndexFunc_int_int_a_2 N n0 c1 ((n0 : Nat) : Int) (0 : Int) := by kernel_rfl
theorem S_slices_IndexFunc_int_int_a_2_eq (N : Nat) (n0 : Nat) (c1 : List V) (x2 : Int) (x3 : Int) : S_slices_IndexFunc_int_int_a_2 (N + 1) n0 c1 x2 x3 =
 cond (decide (x3 < x2))
 (cond (decide ((0 : Int) ≤ x3))
  (cond (decide (x3 < ((n0 : Nat) : Int)))
  (cond (okT [CK.i IntKind.i64] c1 ((Int.toNat x3) * 1))
  ((call cc N n_clauses_Sources_1 [V.int IntKind.i64 (V.toI (cellAt c1 ((Int.toNat x3) * 1)))]).bind fun v4 =>
  cond (okRes [(false, [CK.b])] v4)
  (cond (V.toB (cellAt (V.cells v4) 0))
  (some (V.int IntKind.i64 x3))
  (S_slices_IndexFunc_int_int_a_2 N n0 c1 x2 (IntKind.wrap IntKind.i64 (x3 + (1 : Int)))))
  none)
  none)
  none)
  none)
 (some (V.int IntKind.i64 (-(1 : Int)))) := by kernel_rfl


noncomputable def S_kinds_told_4 (N : Nat) (n0 : Nat) (c1 : List V) (n2 : Nat) (c3 : List V) (x4 : Int) (x5 : Int) (n6 : Nat) (c7 : List V) : Option V := runAt cc N n_kinds_told 4 (envOf 88 [(0, V.sl n0 c1), (4, V.ptr 0 0), (5, V.fn n_kinds_told_1 [] [V.ptr 0 0]), (12, V.sl n2 c3), (13, V.int IntKind.i64 x4), (14, V.int IntKind.i64 x5)]) [⟨[V.own 1 n6], 1, 0, true⟩, ⟨c7, 1, 0, false⟩] [] 0
theorem F_kinds_told (N : Nat) (n0 : Nat) (c1 : List V) : call cc (N + 1) n_kinds_told [V.sl n0 c1] =
 S_kinds_told_4 N n0 c1 n0 c1 ((n0 : Nat) : Int) (0 : Int) 0 [] := by kernel_rfl
theorem S_kinds_told_4_eq (N : Nat) (n0 : Nat) (c1 : List V) (n2 : Nat) (c3 : List V) (x4 : Int) (x5 : Int) (n6 : Nat) (c7 : List V) : S_kinds_told_4 (N + 1) n0 c1 n2 c3 x4 x5 n6 c7 =
 cond (decide (x5 < x4))
 (cond (decide ((0 : Int) ≤ x5))
  (cond (decide (x5 < ((n2 : Nat) : Int)))
  (cond (okT [CK.i IntKind.u8, CK.i IntKind.i64, CK.i IntKind.i64, CK.i IntKind.i64, CK.i IntKind.i64] c3 ((Int.toNat x5) * 5))
  (cond (decide ((V.toI (cellAt c3 ((Int.toNat x5) * 5))) ≤ (4 : Int)))
  (cond (decide ((n6 + 1) ≤ bound))
   (S_kinds_told_4 N n0 c1 n2 c3 x4 (IntKind.wrap IntKind.i64 (x5 + (1 : Int))) (n6 + 1) (c7 ++ [V.bool false]))
   none)
  (cond ((V.toI (cellAt c3 ((Int.toNat x5) * 5))) == (5 : Int))
   ((call cc N n_kinds_told_1 [V.bool false, V.sl 1 [V.int IntKind.i64 (V.toI (cellAt c3 ((((Int.toNat x5) * 5) + 1) + 1)))], V.rop [V.sl n6 c7] 0]).bind fun v8 =>
    cond (okRes [(false, [CK.b])] v8)
    (cond (V.toB (cellAt (V.cells v8) 0))
    (cond (decide ((n6 + 1) ≤ bound))
     (S_kinds_told_4 N n0 c1 n2 c3 x4 (IntKind.wrap IntKind.i64 (x5 + (1 : Int))) (n6 + 1) (c7 ++ [V.bool false]))
     none)
    (some (V.tup [V.sl 0 [], V.int IntKind.i64 x5])))
    none)
   (cond ((V.toI (cellAt c3 ((Int.toNat x5) * 5))) == (6 : Int))
    ((call cc N n_kinds_told_1 [V.bool true, V.sl 1 [V.int IntKind.i64 (V.toI (cellAt c3 ((((Int.toNat x5) * 5) + 1) + 1)))], V.rop [V.sl n6 c7] 0]).bind fun v9 =>
     cond (okRes [(false, [CK.b])] v9)
     (cond (V.toB (cellAt (V.cells v9) 0))
     (cond (decide ((n6 + 1) ≤ bound))
      (S_kinds_told_4 N n0 c1 n2 c3 x4 (IntKind.wrap IntKind.i64 (x5 + (1 : Int))) (n6 + 1) (c7 ++ [V.bool true]))
      none)
     (some (V.tup [V.sl 0 [], V.int IntKind.i64 x5])))
     none)
    (cond (decide ((V.toI (cellAt c3 ((Int.toNat x5) * 5))) ≤ (11 : Int)))
     ((call cc N n_kinds_told_1 [V.bool false, V.sl 2 [V.int IntKind.i64 (V.toI (cellAt c3 ((((Int.toNat x5) * 5) + 1) + 1))), V.int IntKind.i64 (V.toI (cellAt c3 (((((Int.toNat x5) * 5) + 1) + 1) + 1)))], V.rop [V.sl n6 c7] 0]).bind fun v10 =>
      cond (okRes [(false, [CK.b])] v10)
      (cond (V.toB (cellAt (V.cells v10) 0))
      (cond (decide ((n6 + 1) ≤ bound))
       (S_kinds_told_4 N n0 c1 n2 c3 x4 (IntKind.wrap IntKind.i64 (x5 + (1 : Int))) (n6 + 1) (c7 ++ [V.bool false]))
       none)
      (some (V.tup [V.sl 0 [], V.int IntKind.i64 x5])))
      none)
     (cond (decide ((V.toI (cellAt c3 ((Int.toNat x5) * 5))) ≤ (15 : Int)))
      ((call cc N n_kinds_told_1 [V.bool false, V.sl 2 [V.int IntKind.i64 (V.toI (cellAt c3 ((((Int.toNat x5) * 5) + 1) + 1))), V.int IntKind.i64 (V.toI (cellAt c3 (((((Int.toNat x5) * 5) + 1) + 1) + 1)))], V.rop [V.sl n6 c7] 0]).bind fun v11 =>
       cond (okRes [(false, [CK.b])] v11)
       (cond (V.toB (cellAt (V.cells v11) 0))
       (cond (decide ((n6 + 1) ≤ bound))
        (S_kinds_told_4 N n0 c1 n2 c3 x4 (IntKind.wrap IntKind.i64 (x5 + (1 : Int))) (n6 + 1) (c7 ++ [V.bool true]))
        none)
       (some (V.tup [V.sl 0 [], V.int IntKind.i64 x5])))
       none)
      (cond (decide ((V.toI (cellAt c3 ((Int.toNat x5) * 5))) ≤ (17 : Int)))
       ((call cc N n_kinds_told_1 [V.bool false, V.sl 2 [V.int IntKind.i64 (V.toI (cellAt c3 ((((Int.toNat x5) * 5) + 1) + 1))), V.int IntKind.i64 (V.toI (cellAt c3 (((((Int.toNat x5) * 5) + 1) + 1) + 1)))], V.rop [V.sl n6 c7] 0]).bind fun v12 =>
        cond (okRes [(false, [CK.b])] v12)
        (cond (V.toB (cellAt (V.cells v12) 0))
        (cond (decide ((n6 + 1) ≤ bound))
         (S_kinds_told_4 N n0 c1 n2 c3 x4 (IntKind.wrap IntKind.i64 (x5 + (1 : Int))) (n6 + 1) (c7 ++ [V.bool true]))
         none)
        ((call cc N n_kinds_told_1 [V.bool true, V.sl 2 [V.int IntKind.i64 (V.toI (cellAt c3 ((((Int.toNat x5) * 5) + 1) + 1))), V.int IntKind.i64 (V.toI (cellAt c3 (((((Int.toNat x5) * 5) + 1) + 1) + 1)))], V.rop [V.sl n6 c7] 0]).bind fun v13 =>
         cond (okRes [(false, [CK.b])] v13)
         (cond (V.toB (cellAt (V.cells v13) 0))
         (cond (decide ((n6 + 1) ≤ bound))
          (S_kinds_told_4 N n0 c1 n2 c3 x4 (IntKind.wrap IntKind.i64 (x5 + (1 : Int))) (n6 + 1) (c7 ++ [V.bool true]))
          none)
         (some (V.tup [V.sl 0 [], V.int IntKind.i64 x5])))
         none))
        none)
       ((call cc N n_kinds_told_1 [V.bool true, V.sl 2 [V.int IntKind.i64 (V.toI (cellAt c3 ((((Int.toNat x5) * 5) + 1) + 1))), V.int IntKind.i64 (V.toI (cellAt c3 (((((Int.toNat x5) * 5) + 1) + 1) + 1)))], V.rop [V.sl n6 c7] 0]).bind fun v14 =>
        cond (okRes [(false, [CK.b])] v14)
        (cond (V.toB (cellAt (V.cells v14) 0))
        (cond (decide ((n6 + 1) ≤ bound))
         (S_kinds_told_4 N n0 c1 n2 c3 x4 (IntKind.wrap IntKind.i64 (x5 + (1 : Int))) (n6 + 1) (c7 ++ [V.bool true]))
         none)
        (some (V.tup [V.sl 0 [], V.int IntKind.i64 x5])))
        none)))))))
  none)
  none)
  none)
 (some (V.tup [V.sl n6 c7, V.int IntKind.i64 ((n0 : Nat) : Int)])) := by kernel_rfl


theorem F_mathbits_Mul32 (N : Nat) (x0 : Int) (x1 : Int) : call cc (N + 1) n_mathbits_Mul32 [V.int IntKind.u32 x0, V.int IntKind.u32 x1] =
 some (V.tup [V.int IntKind.u32 (IntKind.wrap IntKind.u32 (Int.fdiv (IntKind.wrap IntKind.u64 ((IntKind.wrap IntKind.u64 x0) * (IntKind.wrap IntKind.u64 x1))) ((2 : Int) ^ 32))), V.int IntKind.u32 (IntKind.wrap IntKind.u32 (IntKind.wrap IntKind.u64 ((IntKind.wrap IntKind.u64 x0) * (IntKind.wrap IntKind.u64 x1))))]) := by kernel_rfl


theorem F_mathbits_Mul64 (N : Nat) (x0 : Int) (x1 : Int) : call cc (N + 1) n_mathbits_Mul64 [V.int IntKind.u64 x0, V.int IntKind.u64 x1] =
 some (V.tup [V.int IntKind.u64 (IntKind.wrap IntKind.u64 ((IntKind.wrap IntKind.u64 ((IntKind.wrap IntKind.u64 ((Int.fdiv x0 ((2 : Int) ^ 32)) * (Int.fdiv x1 ((2 : Int) ^ 32)))) + (Int.fdiv (IntKind.wrap IntKind.u64 ((IntKind.wrap IntKind.u64 ((Int.fdiv x0 ((2 : Int) ^ 32)) * (IntKind.wrap IntKind.u64 ((BitVec.toNat (HAnd.hAnd (BitVec.ofInt 64 x1) (BitVec.ofInt 64 (4294967295 : Int))) : Nat) : Int)))) + (Int.fdiv (IntKind.wrap IntKind.u64 ((IntKind.wrap IntKind.u64 ((BitVec.toNat (HAnd.hAnd (BitVec.ofInt 64 x0) (BitVec.ofInt 64 (4294967295 : Int))) : Nat) : Int)) * (IntKind.wrap IntKind.u64 ((BitVec.toNat (HAnd.hAnd (BitVec.ofInt 64 x1) (BitVec.ofInt 64 (4294967295 : Int))) : Nat) : Int)))) ((2 : Int) ^ 32)))) ((2 : Int) ^ 32)))) + (Int.fdiv (IntKind.wrap IntKind.u64 ((IntKind.wrap IntKind.u64 ((BitVec.toNat (HAnd.hAnd (BitVec.ofInt 64 (IntKind.wrap IntKind.u64 ((IntKind.wrap IntKind.u64 ((Int.fdiv x0 ((2 : Int) ^ 32)) * (IntKind.wrap IntKind.u64 ((BitVec.toNat (HAnd.hAnd (BitVec.ofInt 64 x1) (BitVec.ofInt 64 (4294967295 : Int))) : Nat) : Int)))) + (Int.fdiv (IntKind.wrap IntKind.u64 ((IntKind.wrap IntKind.u64 ((BitVec.toNat (HAnd.hAnd (BitVec.ofInt 64 x0) (BitVec.ofInt 64 (4294967295 : Int))) : Nat) : Int)) * (IntKind.wrap IntKind.u64 ((BitVec.toNat (HAnd.hAnd (BitVec.ofInt 64 x1) (BitVec.ofInt 64 (4294967295 : Int))) : Nat) : Int)))) ((2 : Int) ^ 32))))) (BitVec.ofInt 64 (4294967295 : Int))) : Nat) : Int)) + (IntKind.wrap IntKind.u64 ((IntKind.wrap IntKind.u64 ((BitVec.toNat (HAnd.hAnd (BitVec.ofInt 64 x0) (BitVec.ofInt 64 (4294967295 : Int))) : Nat) : Int)) * (Int.fdiv x1 ((2 : Int) ^ 32)))))) ((2 : Int) ^ 32)))), V.int IntKind.u64 (IntKind.wrap IntKind.u64 (x0 * x1))]) := by kernel_rfl


noncomputable def S_ref04_Sizes_3 (N : Nat) (n0 : Nat) (c1 : List V) (n2 : Nat) (n3 : Nat) (x4 : Int) (c5 : List V) (c6 : List V) : Option V := runAt cc N n_ref04_Sizes 3 (envOf 102 [(0, V.sl n0 c1), (5, V.own 0 n2), (6, V.own 1 n3), (7, V.int IntKind.i64 x4)]) [⟨c5, 1, 0, false⟩, ⟨c6, 1, 0, false⟩] [] 0
noncomputable def S_ref04_Sizes_5 (N : Nat) (n0 : Nat) (c1 : List V) (n2 : Nat) (n3 : Nat) (x4 : Int) (c5 : List V) (c6 : List V) : Option V := runAt cc N n_ref04_Sizes 5 (envOf 102 [(0, V.sl n0 c1), (5, V.own 0 n2), (6, V.own 1 n3), (7, V.int IntKind.i64 x4)]) [⟨c5, 1, 0, false⟩, ⟨c6, 1, 0, false⟩] [] 0
noncomputable def S_ref04_Sizes_25 (N : Nat) (n0 : Nat) (c1 : List V) (n2 : Nat) (n3 : Nat) (c4 : List V) (c5 : List V) : Option V := runAt cc N n_ref04_Sizes 25 (envOf 102 [(0, V.sl n0 c1), (5, V.own 0 n2), (6, V.own 1 n3)]) [⟨c4, 1, 0, false⟩, ⟨c5, 1, 0, false⟩] [] 0
noncomputable def S_ref04_Sizes_11 (N : Nat) (n0 : Nat) (c1 : List V) (n2 : Nat) (n3 : Nat) (x4 : Int) (x5 : Int) (x6 : Int) (x7 : Int) (x8 : Int) (c9 : List V) (c10 : List V) : Option V := runAt cc N n_ref04_Sizes 11 (envOf 102 [(0, V.sl n0 c1), (5, V.own 0 n2), (6, V.own 1 n3), (7, V.int IntKind.i64 x4), (9, V.int IntKind.i64 x5), (10, V.int IntKind.i64 x6), (12, V.int IntKind.i64 x7), (13, V.int IntKind.i64 x8)]) [⟨c9, 1, 0, false⟩, ⟨c10, 1, 0, false⟩] [] 0
noncomputable def S_ref04_Sizes_21 (N : Nat) (n0 : Nat) (c1 : List V) (n2 : Nat) (n3 : Nat) (x4 : Int) (x5 : Int) (x6 : Int) (x7 : Int) (x8 : Int) (c9 : List V) (c10 : List V) : Option V := runAt cc N n_ref04_Sizes 21 (envOf 102 [(0, V.sl n0 c1), (5, V.own 0 n2), (6, V.own 1 n3), (7, V.int IntKind.i64 x4), (8, V.int IntKind.i64 x5), (9, V.int IntKind.i64 x6), (10, V.int IntKind.i64 x7), (11, V.int IntKind.i64 x8)]) [⟨c9, 1, 0, false⟩, ⟨c10, 1, 0, false⟩] [] 0
noncomputable def S_ref04_Sizes_18 (N : Nat) (n0 : Nat) (c1 : List V) (n2 : Nat) (n3 : Nat) (x4 : Int) (x5 : Int) (x6 : Int) (x7 : Int) (x8 : Int) (c9 : List V) (c10 : List V) : Option V := runAt cc N n_ref04_Sizes 18 (envOf 102 [(0, V.sl n0 c1), (5, V.own 0 n2), (6, V.own 1 n3), (7, V.int IntKind.i64 x4), (10, V.int IntKind.i64 x5), (11, V.int IntKind.i64 x6), (13, V.int IntKind.i64 x7), (14, V.int IntKind.i64 x8)]) [⟨c9, 1, 0, false⟩, ⟨c10, 1, 0, false⟩] [] 0
noncomputable def S_ref04_Sizes_23 (N : Nat) (n0 : Nat) (c1 : List V) (n2 : Nat) (n3 : Nat) (x4 : Int) (x5 : Int) (x6 : Int) (c7 : List V) (c8 : List V) : Option V := runAt cc N n_ref04_Sizes 23 (envOf 102 [(0, V.sl n0 c1), (5, V.own 0 n2), (6, V.own 1 n3), (7, V.int IntKind.i64 x4), (10, V.int IntKind.i64 x5), (11, V.int IntKind.i64 x6)]) [⟨c7, 1, 0, false⟩, ⟨c8, 1, 0, false⟩] [] 0
noncomputable def S_ref04_Sizes_4 (N : Nat) (n0 : Nat) (c1 : List V) (n2 : Nat) (n3 : Nat) (x4 : Int) (c5 : List V) (c6 : List V) : Option V := runAt cc N n_ref04_Sizes 4 (envOf 102 [(0, V.sl n0 c1), (5, V.own 0 n2), (6, V.own 1 n3), (7, V.int IntKind.i64 x4)]) [⟨c5, 1, 0, false⟩, ⟨c6, 1, 0, false⟩] [] 0
theorem F_ref04_Sizes (N : Nat) (n0 : Nat) (c1 : List V) : call cc (N + 1) n_ref04_Sizes [V.sl n0 c1] =
 S_ref04_Sizes_3 N n0 c1 0 0 (0 : Int) [] [] := by kernel_rfl
theorem S_ref04_Sizes_3_eq (N : Nat) (n0 : Nat) (c1 : List V) (n2 : Nat) (n3 : Nat) (x4 : Int) (c5 : List V) (c6 : List V) : S_ref04_Sizes_3 (N + 1) n0 c1 n2 n3 x4 c5 c6 =
 cond (decide (x4 < ((n0 : Nat) : Int)))
 (S_ref04_Sizes_5 N n0 c1 n2 n3 x4 c5 c6)
 (S_ref04_Sizes_25 N n0 c1 n2 n3 c5 c6) := by kernel_rfl
theorem S_ref04_Sizes_5_eq (N : Nat) (n0 : Nat) (c1 : List V) (n2 : Nat) (n3 : Nat) (x4 : Int) (c5 : List V) (c6 : List V) : S_ref04_Sizes_5 (N + 1) n0 c1 n2 n3 x4 c5 c6 =
 cond (decide ((0 : Int) ≤ x4))
 (cond (decide (x4 < ((n0 : Nat) : Int)))
 (cond (okT [CK.i IntKind.u8] c1 (((Int.toNat x4) * 5) + 0))
 ((call cc N n_ref04_Count [V.int IntKind.u8 (V.toI (cellAt c1 (((Int.toNat x4) * 5) + 0)))]).bind fun v7 =>
 cond (okRes [(false, [CK.i IntKind.i64])] v7)
 (cond (decide ((V.toI (cellAt (V.cells v7) 0)) > (0 : Int)))
 (cond (decide ((IntKind.wrap IntKind.i64 (x4 - (1 : Int))) < (0 : Int)))
  (some (V.tup [V.sl 0 [], V.sl 0 [], V.bool false]))
  (S_ref04_Sizes_11 N n0 c1 n2 n3 x4 (0 : Int) (1 : Int) (V.toI (cellAt (V.cells v7) 0)) (IntKind.wrap IntKind.i64 (x4 - (1 : Int))) c5 c6))
 (S_ref04_Sizes_21 N n0 c1 n2 n3 x4 (0 : Int) (0 : Int) (1 : Int) (1 : Int) c5 c6))
 none)
 none)
 none)
 none := by kernel_rfl
theorem S_ref04_Sizes_25_eq (N : Nat) (n0 : Nat) (c1 : List V) (n2 : Nat) (n3 : Nat) (c4 : List V) (c5 : List V) : S_ref04_Sizes_25 (N + 1) n0 c1 n2 n3 c4 c5 =
 cond (decide (((n0 : Nat) : Int) > (0 : Int)))
 (cond (decide ((0 : Int) ≤ (IntKind.wrap IntKind.i64 (((n0 : Nat) : Int) - (1 : Int)))))
  (cond (decide ((IntKind.wrap IntKind.i64 (((n0 : Nat) : Int) - (1 : Int))) < ((n2 : Nat) : Int)))
  (cond (okT [CK.i IntKind.i64] c4 ((Int.toNat (IntKind.wrap IntKind.i64 (((n0 : Nat) : Int) - (1 : Int)))) * 1))
  (cond ((V.toI (cellAt c4 ((Int.toNat (IntKind.wrap IntKind.i64 (((n0 : Nat) : Int) - (1 : Int)))) * 1))) == ((n0 : Nat) : Int))
  (some (V.tup [V.sl n2 c4, V.sl n3 c5, V.bool true]))
  (some (V.tup [V.sl n2 c4, V.sl n3 c5, V.bool false])))
  none)
  none)
  none)
 (some (V.tup [V.sl n2 c4, V.sl n3 c5, V.bool false])) := by kernel_rfl
theorem S_ref04_Sizes_11_eq (N : Nat) (n0 : Nat) (c1 : List V) (n2 : Nat) (n3 : Nat) (x4 : Int) (x5 : Int) (x6 : Int) (x7 : Int) (x8 : Int) (c9 : List V) (c10 : List V) : S_ref04_Sizes_11 (N + 1) n0 c1 n2 n3 x4 x5 x6 x7 x8 c9 c10 =
 cond (decide ((0 : Int) ≤ x8))
 (cond (decide (x8 < ((n2 : Nat) : Int)))
 (cond (okT [CK.i IntKind.i64] c9 ((Int.toNat x8) * 1))
 (cond (decide ((0 : Int) ≤ x8))
 (cond (decide (x8 < ((n2 : Nat) : Int)))
 (cond (okT [CK.i IntKind.i64] c9 ((Int.toNat x8) * 1))
 (cond (decide ((0 : Int) ≤ x8))
 (cond (decide (x8 < ((n3 : Nat) : Int)))
 (cond (okT [CK.i IntKind.i64] c10 ((Int.toNat x8) * 1))
 (cond (x7 == (2 : Int))
 (cond (decide ((IntKind.wrap IntKind.i64 (x8 - (V.toI (cellAt c9 ((Int.toNat x8) * 1))))) < (0 : Int)))
  (some (V.tup [V.sl 0 [], V.sl 0 [], V.bool false]))
  (S_ref04_Sizes_18 N n0 c1 n2 n3 x4 (IntKind.wrap IntKind.i64 (x6 + (V.toI (cellAt c9 ((Int.toNat x8) * 1))))) (IntKind.wrap IntKind.i64 ((1 : Int) + (V.toI (cellAt c10 ((Int.toNat x8) * 1))))) x8 (IntKind.wrap IntKind.i64 (x8 - (V.toI (cellAt c9 ((Int.toNat x8) * 1))))) c9 c10))
 (S_ref04_Sizes_21 N n0 c1 n2 n3 x4 x8 x5 (IntKind.wrap IntKind.i64 (x6 + (V.toI (cellAt c9 ((Int.toNat x8) * 1))))) (IntKind.wrap IntKind.i64 ((1 : Int) + (V.toI (cellAt c10 ((Int.toNat x8) * 1))))) c9 c10))
 none)
 none)
 none)
 none)
 none)
 none)
 none)
 none)
 none := by kernel_rfl
theorem S_ref04_Sizes_21_eq (N : Nat) (n0 : Nat) (c1 : List V) (n2 : Nat) (n3 : Nat) (x4 : Int) (x5 : Int) (x6 : Int) (x7 : Int) (x8 : Int) (c9 : List V) (c10 : List V) : S_ref04_Sizes_21 (N + 1) n0 c1 n2 n3 x4 x5 x6 x7 x8 c9 c10 =
 cond (decide ((0 : Int) ≤ x4))
 (cond (decide (x4 < ((n0 : Nat) : Int)))
 (cond (okT [CK.i IntKind.u8, CK.i IntKind.i64, CK.i IntKind.i64, CK.i IntKind.i64, CK.i IntKind.i64] c1 ((Int.toNat x4) * 5))
 ((call cc N n_ref04_right [V.agg [V.int IntKind.u8 (V.toI (cellAt c1 ((Int.toNat x4) * 5))), V.int IntKind.i64 (V.toI (cellAt c1 (((Int.toNat x4) * 5) + 1))), V.int IntKind.i64 (V.toI (cellAt c1 ((((Int.toNat x4) * 5) + 1) + 1))), V.int IntKind.i64 (V.toI (cellAt c1 (((((Int.toNat x4) * 5) + 1) + 1) + 1))), V.int IntKind.i64 (V.toI (cellAt c1 ((((((Int.toNat x4) * 5) + 1) + 1) + 1) + 1)))], V.int IntKind.i64 x5, V.int IntKind.i64 x6]).bind fun v11 =>
 cond (okRes [(false, [CK.b])] v11)
 (cond (V.toB (cellAt (V.cells v11) 0))
 (S_ref04_Sizes_23 N n0 c1 n2 n3 x4 x7 x8 c9 c10)
 (some (V.tup [V.sl 0 [], V.sl 0 [], V.bool false])))
 none)
 none)
 none)
 none := by kernel_rfl
theorem S_ref04_Sizes_18_eq (N : Nat) (n0 : Nat) (c1 : List V) (n2 : Nat) (n3 : Nat) (x4 : Int) (x5 : Int) (x6 : Int) (x7 : Int) (x8 : Int) (c9 : List V) (c10 : List V) : S_ref04_Sizes_18 (N + 1) n0 c1 n2 n3 x4 x5 x6 x7 x8 c9 c10 =
 cond (decide ((0 : Int) ≤ x8))
 (cond (decide (x8 < ((n2 : Nat) : Int)))
 (cond (okT [CK.i IntKind.i64] c9 ((Int.toNat x8) * 1))
 (cond (decide ((0 : Int) ≤ x8))
 (cond (decide (x8 < ((n3 : Nat) : Int)))
 (cond (okT [CK.i IntKind.i64] c10 ((Int.toNat x8) * 1))
 (S_ref04_Sizes_21 N n0 c1 n2 n3 x4 x8 x7 (IntKind.wrap IntKind.i64 (x5 + (V.toI (cellAt c9 ((Int.toNat x8) * 1))))) (ite ((IntKind.wrap IntKind.i64 ((1 : Int) + (V.toI (cellAt c10 ((Int.toNat x8) * 1))))) > x6) (IntKind.wrap IntKind.i64 ((1 : Int) + (V.toI (cellAt c10 ((Int.toNat x8) * 1))))) x6) c9 c10)
 none)
 none)
 none)
 none)
 none)
 none := by kernel_rfl
theorem S_ref04_Sizes_23_eq (N : Nat) (n0 : Nat) (c1 : List V) (n2 : Nat) (n3 : Nat) (x4 : Int) (x5 : Int) (x6 : Int) (c7 : List V) (c8 : List V) : S_ref04_Sizes_23 (N + 1) n0 c1 n2 n3 x4 x5 x6 c7 c8 =
 cond (decide ((n2 + 1) ≤ bound))
 (cond (decide ((n3 + 1) ≤ bound))
 (S_ref04_Sizes_4 N n0 c1 (n2 + 1) (n3 + 1) x4 (c7 ++ [V.int IntKind.i64 x5]) (c8 ++ [V.int IntKind.i64 x6]))
 none)
 none := by kernel_rfl
theorem S_ref04_Sizes_4_eq (N : Nat) (n0 : Nat) (c1 : List V) (n2 : Nat) (n3 : Nat) (x4 : Int) (c5 : List V) (c6 : List V) : S_ref04_Sizes_4 (N + 1) n0 c1 n2 n3 x4 c5 c6 =
 S_ref04_Sizes_3 N n0 c1 n2 n3 (IntKind.wrap IntKind.i64 (x4 + (1 : Int))) c5 c6 := by kernel_rfl


theorem F_ref06_Of (N : Nat) (n0 : Nat) (c1 : List V) : call cc (N + 1) n_ref06_Of [V.sl n0 c1] =
 (call cc N n_ref04_Check [V.sl n0 c1]).bind fun v2 =>
 cond (okRes [(false, [CK.i IntKind.i64])] v2)
 (cond ((V.toI (cellAt (V.cells v2) 0)) != (0 : Int))
 ((call cc N n_ref04_Check [V.sl n0 c1]).bind fun v3 =>
  cond (okRes [(false, [CK.i IntKind.i64])] v3)
  (some (V.tup [V.bool false, V.int IntKind.i64 (0 : Int), V.int IntKind.i64 (V.toI (cellAt (V.cells v3) 0))]))
  none)
 ((call cc N n_ref06_Wrong [V.sl n0 c1]).bind fun v4 =>
  cond (okRes [(false, [CK.i IntKind.i64])] v4)
  (cond (decide ((V.toI (cellAt (V.cells v4) 0)) < ((n0 : Nat) : Int)))
  (some (V.tup [V.bool false, V.int IntKind.i64 (V.toI (cellAt (V.cells v4) 0)), V.int IntKind.i64 (42 : Int)]))
  (cond (decide ((0 : Int) ≤ (IntKind.wrap IntKind.i64 (((n0 : Nat) : Int) - (1 : Int)))))
   (cond (decide ((IntKind.wrap IntKind.i64 (((n0 : Nat) : Int) - (1 : Int))) < ((n0 : Nat) : Int)))
   (cond (okT [CK.i IntKind.u8] c1 (((Int.toNat (IntKind.wrap IntKind.i64 (((n0 : Nat) : Int) - (1 : Int)))) * 5) + 0))
   ((call cc N n_ref06_Gives [V.int IntKind.u8 (V.toI (cellAt c1 (((Int.toNat (IntKind.wrap IntKind.i64 (((n0 : Nat) : Int) - (1 : Int)))) * 5) + 0)))]).bind fun v5 =>
   cond (okRes [(false, [CK.b])] v5)
   (cond (V.toB (cellAt (V.cells v5) 0))
   (some (V.tup [V.bool true, V.int IntKind.i64 (IntKind.wrap IntKind.i64 (((n0 : Nat) : Int) - (1 : Int))), V.int IntKind.i64 (0 : Int)]))
   (some (V.tup [V.bool false, V.int IntKind.i64 (IntKind.wrap IntKind.i64 (((n0 : Nat) : Int) - (1 : Int))), V.int IntKind.i64 (0 : Int)])))
   none)
   none)
   none)
   none))
  none))
 none := by kernel_rfl


theorem F_ref25_Mark (N : Nat) (x0 : Int) : call cc (N + 1) n_ref25_Mark [V.int IntKind.i64 x0] =
 cond (decide (x0 ≥ (-(1099511627776 : Int))))
 (cond (decide (x0 ≤ (1099511627776 : Int)))
  (some (V.bool true))
  (cond (x0 == (9223372036854775807 : Int))
   (some (V.bool true))
   (some (V.bool false))))
 (cond (x0 == (9223372036854775807 : Int))
  (some (V.bool true))
  (some (V.bool false))) := by kernel_rfl


theorem F_ref25_Right (N : Nat) (x0 : Int) (x1 : Int) (x2 : Int) : call cc (N + 1) n_ref25_Right [V.agg [V.int IntKind.i64 x0, V.int IntKind.i64 x1, V.int IntKind.i64 x2]] =
 cond (decide (x1 ≥ (-(1099511627776 : Int))))
 (cond (decide (x1 ≤ (1099511627776 : Int)))
  (some (V.bool true))
  (some (V.bool false)))
 (some (V.bool false)) := by kernel_rfl


theorem F_nodes_Parts (N : Nat) (x0 : Int) : call cc (N + 1) n_nodes_Parts [V.int IntKind.u8 x0] =
 cond (decide (x0 ≥ (1 : Int)))
 (cond (decide (x0 ≤ (4 : Int)))
  (some (V.tup [V.int IntKind.i64 (0 : Int), V.int IntKind.i64 (0 : Int)]))
  (cond (x0 == (5 : Int))
   (some (V.tup [V.int IntKind.i64 (1 : Int), V.int IntKind.i64 (0 : Int)]))
   (cond (x0 == (6 : Int))
    (some (V.tup [V.int IntKind.i64 (1 : Int), V.int IntKind.i64 (0 : Int)]))
    (cond (decide (x0 ≥ (7 : Int)))
     (cond (decide (x0 ≤ (19 : Int)))
      (some (V.tup [V.int IntKind.i64 (2 : Int), V.int IntKind.i64 (0 : Int)]))
      (some (V.tup [V.int IntKind.i64 (0 : Int), V.int IntKind.i64 (2 : Int)])))
     (some (V.tup [V.int IntKind.i64 (0 : Int), V.int IntKind.i64 (2 : Int)]))))))
 (cond (x0 == (5 : Int))
  (some (V.tup [V.int IntKind.i64 (1 : Int), V.int IntKind.i64 (0 : Int)]))
  (cond (x0 == (6 : Int))
   (some (V.tup [V.int IntKind.i64 (1 : Int), V.int IntKind.i64 (0 : Int)]))
   (cond (decide (x0 ≥ (7 : Int)))
    (cond (decide (x0 ≤ (19 : Int)))
     (some (V.tup [V.int IntKind.i64 (2 : Int), V.int IntKind.i64 (0 : Int)]))
     (some (V.tup [V.int IntKind.i64 (0 : Int), V.int IntKind.i64 (2 : Int)])))
    (some (V.tup [V.int IntKind.i64 (0 : Int), V.int IntKind.i64 (2 : Int)]))))) := by kernel_rfl


noncomputable def S_kinds_told_1_2 (N : Nat) (b0 : Bool) (c1 : List V) (o2 : Nat) (n3 : Nat) (c4 : List V) (x5 : Int) (x6 : Int) : Option V := runAt cc N n_kinds_told_1 2 (envOf 21 [(0, V.bool b0), (2, V.rop c1 o2), (8, V.sl n3 c4), (9, V.int IntKind.i64 x5), (10, V.int IntKind.i64 x6)]) [] [] 0
theorem F_kinds_told_1 (N : Nat) (b0 : Bool) (n1 : Nat) (c2 : List V) (m3 : Nat) (d4 : List V) : call cc (N + 1) n_kinds_told_1 [V.bool b0, V.sl n1 c2, V.rop [V.sl m3 d4] 0] =
 S_kinds_told_1_2 N b0 [V.sl m3 d4] 0 n1 c2 ((n1 : Nat) : Int) (0 : Int) := by kernel_rfl
theorem S_kinds_told_1_2_eq (N : Nat) (b0 : Bool) (c1 : List V) (o2 : Nat) (n3 : Nat) (c4 : List V) (x5 : Int) (x6 : Int) : S_kinds_told_1_2 (N + 1) b0 c1 o2 n3 c4 x5 x6 =
 cond (decide (x6 < x5))
 (cond (decide ((0 : Int) ≤ x6))
  (cond (decide (x6 < ((n3 : Nat) : Int)))
  (cond (okT [CK.i IntKind.i64] c4 ((Int.toNat x6) * 1))
  (cond (okT [CK.sl 1] c1 o2)
  (cond (decide ((0 : Int) ≤ (V.toI (cellAt c4 ((Int.toNat x6) * 1)))))
  (cond (decide ((V.toI (cellAt c4 ((Int.toNat x6) * 1))) < ((V.slN (cellAt c1 o2) : Nat) : Int)))
  (cond (okT [CK.b] (V.slC (cellAt c1 o2)) ((Int.toNat (V.toI (cellAt c4 ((Int.toNat x6) * 1)))) * 1))
  (cond (V.toB (cellAt (V.slC (cellAt c1 o2)) ((Int.toNat (V.toI (cellAt c4 ((Int.toNat x6) * 1)))) * 1)))
  (cond b0
   (S_kinds_told_1_2 N b0 c1 o2 n3 c4 x5 (IntKind.wrap IntKind.i64 (x6 + (1 : Int))))
   (some (V.bool false)))
  (cond b0
   (some (V.bool false))
   (S_kinds_told_1_2 N b0 c1 o2 n3 c4 x5 (IntKind.wrap IntKind.i64 (x6 + (1 : Int))))))
  none)
  none)
  none)
  none)
  none)
  none)
  none)
 (some (V.bool true)) := by kernel_rfl


theorem F_ref04_Count (N : Nat) (x0 : Int) : call cc (N + 1) n_ref04_Count [V.int IntKind.u8 x0] =
 cond (decide (x0 ≤ (4 : Int)))
 (some (V.int IntKind.i64 (0 : Int)))
 (cond (decide (x0 ≤ (6 : Int)))
  (some (V.int IntKind.i64 (1 : Int)))
  (some (V.int IntKind.i64 (2 : Int)))) := by kernel_rfl


theorem F_ref04_right (N : Nat) (x0 : Int) (x1 : Int) (x2 : Int) (x3 : Int) (x4 : Int) (x5 : Int) (x6 : Int) : call cc (N + 1) n_ref04_right [V.agg [V.int IntKind.u8 x0, V.int IntKind.i64 x1, V.int IntKind.i64 x2, V.int IntKind.i64 x3, V.int IntKind.i64 x4], V.int IntKind.i64 x5, V.int IntKind.i64 x6] =
 cond (decide (x0 ≥ (1 : Int)))
 (cond (decide (x0 ≤ (19 : Int)))
  (cond (decide (x1 ≥ (0 : Int)))
   (cond (x1 == (0 : Int))
    (cond (decide (x4 ≥ (0 : Int)))
     (cond (decide (x4 ≤ (400 : Int)))
      (cond (x2 == x5)
       (cond (x3 == x6)
        (some (V.bool true))
        (some (V.bool false)))
       (some (V.bool false)))
      (some (V.bool false)))
     (some (V.bool false)))
    (cond (x0 == (1 : Int))
     (cond (decide (x4 ≥ (0 : Int)))
      (cond (decide (x4 ≤ (400 : Int)))
       (cond (x2 == x5)
        (cond (x3 == x6)
         (some (V.bool true))
         (some (V.bool false)))
        (some (V.bool false)))
       (some (V.bool false)))
      (some (V.bool false)))
     (some (V.bool false))))
   (some (V.bool false)))
  (some (V.bool false)))
 (some (V.bool false)) := by kernel_rfl


noncomputable def S_ref06_Wrong_2 (N : Nat) (n0 : Nat) (c1 : List V) (x2 : Int) : Option V := runAt cc N n_ref06_Wrong 2 (envOf 17 [(0, V.sl n0 c1), (3, V.int IntKind.i64 x2)]) [] [] 0
theorem F_ref06_Wrong (N : Nat) (n0 : Nat) (c1 : List V) : call cc (N + 1) n_ref06_Wrong [V.sl n0 c1] =
 S_ref06_Wrong_2 N n0 c1 (0 : Int) := by kernel_rfl
theorem S_ref06_Wrong_2_eq (N : Nat) (n0 : Nat) (c1 : List V) (x2 : Int) : S_ref06_Wrong_2 (N + 1) n0 c1 x2 =
 cond (decide (x2 < ((n0 : Nat) : Int)))
 ((call cc N n_ref06_fits [V.sl n0 c1, V.int IntKind.i64 x2]).bind fun v3 =>
  cond (okRes [(false, [CK.b])] v3)
  (cond (V.toB (cellAt (V.cells v3) 0))
  (S_ref06_Wrong_2 N n0 c1 (IntKind.wrap IntKind.i64 (x2 + (1 : Int))))
  (some (V.int IntKind.i64 x2)))
  none)
 (some (V.int IntKind.i64 ((n0 : Nat) : Int))) := by kernel_rfl


theorem F_ref06_Gives (N : Nat) (x0 : Int) : call cc (N + 1) n_ref06_Gives [V.int IntKind.u8 x0] =
 cond (x0 == (6 : Int))
 (some (V.bool true))
 (cond (decide (x0 ≥ (12 : Int)))
  (some (V.bool true))
  (some (V.bool false))) := by kernel_rfl


theorem F_ref06_fits (N : Nat) (n0 : Nat) (c1 : List V) (x2 : Int) : call cc (N + 1) n_ref06_fits [V.sl n0 c1, V.int IntKind.i64 x2] =
 cond (decide ((0 : Int) ≤ x2))
 (cond (decide (x2 < ((n0 : Nat) : Int)))
 (cond (okT [CK.i IntKind.u8, CK.i IntKind.i64, CK.i IntKind.i64, CK.i IntKind.i64, CK.i IntKind.i64] c1 ((Int.toNat x2) * 5))
 (cond (decide ((0 : Int) ≤ (V.toI (cellAt c1 ((((Int.toNat x2) * 5) + 1) + 1)))))
 (cond (decide ((V.toI (cellAt c1 ((((Int.toNat x2) * 5) + 1) + 1))) < ((n0 : Nat) : Int)))
 (cond (okT [CK.i IntKind.u8] c1 (((Int.toNat (V.toI (cellAt c1 ((((Int.toNat x2) * 5) + 1) + 1)))) * 5) + 0))
 ((call cc N n_ref06_Gives [V.int IntKind.u8 (V.toI (cellAt c1 (((Int.toNat (V.toI (cellAt c1 ((((Int.toNat x2) * 5) + 1) + 1)))) * 5) + 0)))]).bind fun v3 =>
 cond (okRes [(false, [CK.b])] v3)
 (cond (V.toB (cellAt (V.cells v3) 0))
 (cond (decide ((0 : Int) ≤ (V.toI (cellAt c1 (((((Int.toNat x2) * 5) + 1) + 1) + 1)))))
  (cond (decide ((V.toI (cellAt c1 (((((Int.toNat x2) * 5) + 1) + 1) + 1))) < ((n0 : Nat) : Int)))
  (cond (okT [CK.i IntKind.u8] c1 (((Int.toNat (V.toI (cellAt c1 (((((Int.toNat x2) * 5) + 1) + 1) + 1)))) * 5) + 0))
  ((call cc N n_ref06_Gives [V.int IntKind.u8 (V.toI (cellAt c1 (((Int.toNat (V.toI (cellAt c1 (((((Int.toNat x2) * 5) + 1) + 1) + 1)))) * 5) + 0)))]).bind fun v4 =>
  cond (okRes [(false, [CK.b])] v4)
  (cond (V.toB (cellAt (V.cells v4) 0))
  (cond (decide ((V.toI (cellAt c1 ((Int.toNat x2) * 5))) ≤ (4 : Int)))
   (some (V.bool true))
   (cond ((V.toI (cellAt c1 ((Int.toNat x2) * 5))) == (5 : Int))
    (some (V.bool false))
    (cond ((V.toI (cellAt c1 ((Int.toNat x2) * 5))) == (6 : Int))
     (some (V.bool true))
     (cond ((V.toI (cellAt c1 ((Int.toNat x2) * 5))) == (16 : Int))
      (some (V.bool true))
      (cond ((V.toI (cellAt c1 ((Int.toNat x2) * 5))) == (17 : Int))
       (some (V.bool true))
       (cond (decide ((V.toI (cellAt c1 ((Int.toNat x2) * 5))) ≥ (18 : Int)))
        (some (V.bool true))
        (some (V.bool false))))))))
  (cond (decide ((V.toI (cellAt c1 ((Int.toNat x2) * 5))) ≤ (4 : Int)))
   (some (V.bool true))
   (cond ((V.toI (cellAt c1 ((Int.toNat x2) * 5))) == (5 : Int))
    (some (V.bool false))
    (cond ((V.toI (cellAt c1 ((Int.toNat x2) * 5))) == (6 : Int))
     (some (V.bool true))
     (cond ((V.toI (cellAt c1 ((Int.toNat x2) * 5))) == (16 : Int))
      (some (V.bool false))
      (cond ((V.toI (cellAt c1 ((Int.toNat x2) * 5))) == (17 : Int))
       (some (V.bool false))
       (cond (decide ((V.toI (cellAt c1 ((Int.toNat x2) * 5))) ≥ (18 : Int)))
        (some (V.bool false))
        (some (V.bool false)))))))))
  none)
  none)
  none)
  none)
 (cond (decide ((0 : Int) ≤ (V.toI (cellAt c1 (((((Int.toNat x2) * 5) + 1) + 1) + 1)))))
  (cond (decide ((V.toI (cellAt c1 (((((Int.toNat x2) * 5) + 1) + 1) + 1))) < ((n0 : Nat) : Int)))
  (cond (okT [CK.i IntKind.u8] c1 (((Int.toNat (V.toI (cellAt c1 (((((Int.toNat x2) * 5) + 1) + 1) + 1)))) * 5) + 0))
  ((call cc N n_ref06_Gives [V.int IntKind.u8 (V.toI (cellAt c1 (((Int.toNat (V.toI (cellAt c1 (((((Int.toNat x2) * 5) + 1) + 1) + 1)))) * 5) + 0)))]).bind fun v5 =>
  cond (okRes [(false, [CK.b])] v5)
  (cond (V.toB (cellAt (V.cells v5) 0))
  (cond (decide ((V.toI (cellAt c1 ((Int.toNat x2) * 5))) ≤ (4 : Int)))
   (some (V.bool true))
   (cond ((V.toI (cellAt c1 ((Int.toNat x2) * 5))) == (5 : Int))
    (some (V.bool true))
    (cond ((V.toI (cellAt c1 ((Int.toNat x2) * 5))) == (6 : Int))
     (some (V.bool false))
     (cond ((V.toI (cellAt c1 ((Int.toNat x2) * 5))) == (16 : Int))
      (some (V.bool false))
      (cond ((V.toI (cellAt c1 ((Int.toNat x2) * 5))) == (17 : Int))
       (some (V.bool false))
       (cond (decide ((V.toI (cellAt c1 ((Int.toNat x2) * 5))) ≥ (18 : Int)))
        (some (V.bool false))
        (some (V.bool false))))))))
  (cond (decide ((V.toI (cellAt c1 ((Int.toNat x2) * 5))) ≤ (4 : Int)))
   (some (V.bool true))
   (cond ((V.toI (cellAt c1 ((Int.toNat x2) * 5))) == (5 : Int))
    (some (V.bool true))
    (cond ((V.toI (cellAt c1 ((Int.toNat x2) * 5))) == (6 : Int))
     (some (V.bool false))
     (cond ((V.toI (cellAt c1 ((Int.toNat x2) * 5))) == (16 : Int))
      (some (V.bool true))
      (cond ((V.toI (cellAt c1 ((Int.toNat x2) * 5))) == (17 : Int))
       (some (V.bool true))
       (cond (decide ((V.toI (cellAt c1 ((Int.toNat x2) * 5))) ≥ (18 : Int)))
        (some (V.bool false))
        (some (V.bool true)))))))))
  none)
  none)
  none)
  none))
 none)
 none)
 none)
 none)
 none)
 none)
 none := by kernel_rfl


end Go.Pv

/- Words for typed data, and how cells are read. -/
namespace Go.Pv

@[simp] theorem cs_tup (l : List V) : V.cs (.tup l) = l := rfl
@[simp] theorem cs_agg (l : List V) : V.cs (.agg l) = l := rfl
@[simp] theorem cells_agg (l : List V) : V.cells (.agg l) = l := rfl
@[simp] theorem cells_int (k : IntKind) (n : Int) : V.cells (.int k n) = [.int k n] := rfl
@[simp] theorem cells_bool (b : Bool) : V.cells (.bool b) = [.bool b] := rfl
@[simp] theorem cells_str (b : List UInt8) : V.cells (.str b) = [.str b] := rfl
@[simp] theorem cells_sl (n : Nat) (c : List V) : V.cells (.sl n c) = [.sl n c] := rfl
@[simp] theorem toI_int (k : IntKind) (n : Int) : V.toI (.int k n) = n := rfl
@[simp] theorem toB_bool (b : Bool) : V.toB (.bool b) = b := rfl
@[simp] theorem toS_str (b : List UInt8) : V.toS (.str b) = b := rfl
@[simp] theorem slN_sl (n : Nat) (c : List V) : V.slN (.sl n c) = n := rfl
@[simp] theorem slC_sl (n : Nat) (c : List V) : V.slC (.sl n c) = c := rfl
@[simp] theorem isCK_int (k k' : IntKind) (n : Int) : isCK (.i k) (.int k' n) = isK k k' := rfl
@[simp] theorem isCK_bool (b : Bool) : isCK .b (.bool b) = true := rfl
@[simp] theorem isCK_str (b : List UInt8) : isCK .s (.str b) = true := rfl
@[simp] theorem isCK_sl (e n : Nat) (c : List V) : isCK (.sl e) (.sl n c) = true := rfl
@[simp] theorem isK_u8 : isK .u8 .u8 = true := rfl
@[simp] theorem isK_i64 : isK .i64 .i64 = true := rfl
@[simp] theorem okT_nil (c : List V) (o : Nat) : okT [] c o = true := rfl
@[simp] theorem okRes1 (k : Bool × List CK) (v : V) : okRes [k] v = okComp k v := rfl
@[simp] theorem okRes2 (k k' : Bool × List CK) (ks : List (Bool × List CK)) (vs : List V) : okRes (k :: k' :: ks) (.tup vs) = ((vs.length == (k :: k' :: ks).length) && ((k :: k' :: ks).zip vs).all fun p => okComp p.1 p.2) := rfl
@[simp] theorem okComp_int (k k' : IntKind) (n : Int) : okComp (false, [.i k]) (.int k' n) = isK k k' := by simp [okComp, isAggV, okT]
@[simp] theorem okComp_bool (b : Bool) : okComp (false, [.b]) (.bool b) = true := rfl
@[simp] theorem okComp_sl (e n : Nat) (c : List V) : okComp (false, [.sl e]) (.sl n c) = true := rfl
@[simp] theorem okComp_str (b : List UInt8) : okComp (false, [.s]) (.str b) = true := rfl

/-- With enough fuel it answers so. -/
def Ev (f : Nat → Option V) (r : V) : Prop := ∃ N0, ∀ N, N0 ≤ N → f N = some r
theorem Ev.some (r : V) : Ev (fun _ => some r) r := ⟨0, fun _ _ => rfl⟩
theorem Ev.succ {f g : Nat → Option V} {r : V} (h : ∀ N, f (N + 1) = g N) (hg : Ev g r) : Ev f r := by
  obtain ⟨N0, h0⟩ := hg
  refine ⟨N0 + 1, fun N hN => ?_⟩
  obtain ⟨M, rfl⟩ : ∃ M, N = M + 1 := ⟨N - 1, by omega⟩
  rw [h, h0 M (by omega)]
theorem Ev.bind {f : Nat → Option V} {K : Nat → V → Option V} {v r : V} (hf : Ev f v) (hK : Ev (fun N => K N v) r) : Ev (fun N => (f N).bind (K N)) r := by
  obtain ⟨A, hA⟩ := hf
  obtain ⟨B, hB⟩ := hK
  exact ⟨max A B, fun N hN => by show (f N).bind (K N) = _; rw [hA N (by omega)]; exact hB N (by omega)⟩
theorem Ev.if_pos {p : Prop} [Decidable p] {f g : Nat → Option V} {r : V} (hp : p) (h : Ev f r) : Ev (fun N => if p then f N else g N) r := by
  simpa only [_root_.if_pos hp] using h
theorem Ev.if_neg {p : Prop} [Decidable p] {f g : Nat → Option V} {r : V} (hp : ¬p) (h : Ev g r) : Ev (fun N => if p then f N else g N) r := by
  simpa only [_root_.if_neg hp] using h
theorem Ev.cond_t {b : Bool} {f g : Nat → Option V} {r : V} (hp : b = true) (h : Ev f r) : Ev (fun N => cond b (f N) (g N)) r := by subst hp; exact h
theorem Ev.cond_f {b : Bool} {f g : Nat → Option V} {r : V} (hp : b = false) (h : Ev g r) : Ev (fun N => cond b (f N) (g N)) r := by subst hp; exact h

@[simp] theorem cellAt_zero (v : V) (l : List V) : cellAt (v :: l) 0 = v := rfl
@[simp] theorem cellAt_succ (v : V) (l : List V) (k : Nat) : cellAt (v :: l) (k + 1) = cellAt l k := rfl
theorem okT_cons (k : CK) (ks : List CK) (c : List V) (o : Nat) : okT (k :: ks) c o = (isCK k (cellAt c o) && okT ks c (o + 1)) := rfl

/-- Lists of values of one size. -/
theorem cellAt_flat {α : Type} [Inhabited α] (enc : α → List V) (es : Nat) (he : ∀ x, (enc x).length = es) : ∀ (l : List α) (i k : Nat), i < l.length → k < es → cellAt (l.flatMap enc) (i * es + k) = cellAt (enc (l[i]?.getD default)) k
  | [], i, k, hi, _ => by simp at hi
  | x :: l, 0, k, _, hk => by
    simp only [List.flatMap_cons, Nat.zero_mul, Nat.zero_add, cellAt, List.getD_eq_getElem?_getD]
    rw [List.getElem?_append_left (by rw [he]; exact hk)]
    simp
  | x :: l, i + 1, k, hi, hk => by
    have := cellAt_flat enc es he l i k (by simpa using hi) hk
    simp only [List.flatMap_cons, cellAt, List.getD_eq_getElem?_getD] at this ⊢
    rw [List.getElem?_append_right (by rw [he, Nat.add_mul]; omega), he]
    have e : (i + 1) * es + k - es = i * es + k := by rw [Nat.add_mul]; omega
    rw [e, this]
    simp

theorem length_flat {α : Type} (enc : α → List V) (es : Nat) (he : ∀ x, (enc x).length = es) (l : List α) : (l.flatMap enc).length = l.length * es := by
  induction l with
  | nil => simp
  | cons x l ih => simp [he, ih, Nat.add_mul]; omega

/-! Numbers. -/
def gi (l : List Int) (j : Nat) : Int := l[j]?.getD 0
def ints (l : List Int) : List V := l.map (V.int .i64)
theorem ints_at {l : List Int} {j : Nat} (h : j < l.length) : cellAt (ints l) j = .int .i64 (gi l j) := by
  simp [ints, cellAt, gi, h]
theorem ints_okT {l : List Int} {j : Nat} (h : j < l.length) : okT [.i .i64] (ints l) j = true := by
  simp only [okT_cons, ints_at h, isCK_int, isK_i64, okT_nil, Bool.and_self]
theorem ints_snoc (l : List Int) (x : Int) : ints l ++ [.int .i64 x] = ints (l ++ [x]) := by simp [ints]
theorem gi_snoc (l : List Int) (x : Int) (j : Nat) : gi (l ++ [x]) j = if j < l.length then gi l j else if j = l.length then x else 0 := by
  simp only [gi]
  by_cases h : j < l.length
  · rw [if_pos h, List.getElem?_append_left h]
  · rw [if_neg h]
    by_cases h' : j = l.length
    · subst h'; simp
    · rw [if_neg h', List.getElem?_eq_none (by simp; omega)]; rfl

theorem wrap_i64 {n : Int} (h : -9223372036854775808 ≤ n) (h' : n ≤ 9223372036854775807) : IntKind.wrap .i64 n = n := by
  have e : (2 : Int) ^ (64 - 1) = 9223372036854775808 := by decide
  have e' : (2 : Int) ^ 64 = 18446744073709551616 := by decide
  simp only [IntKind.wrap, IntKind.bits, IntKind.signed, Bool.true_and, decide_eq_true_eq, e, e']
  split <;> omega
theorem wrap_u8 {n : Int} (h : 0 ≤ n) (h' : n ≤ 255) : IntKind.wrap .u8 n = n := by
  have e' : (2 : Int) ^ 8 = 256 := by decide
  simp only [IntKind.wrap, IntKind.bits, IntKind.signed, Bool.false_and, Bool.false_eq_true, if_false, e']
  omega
theorem le_bound {n : Nat} (h : n ≤ 1000000000) : decide (n + 1 ≤ bound) = true := decide_eq_true (by unfold bound; omega)
theorem toNat_cast (n : Nat) : ((n : Int)).toNat = n := rfl

/-! Nodes. -/
structure Node where
  kind : Int
  n : Int
  a : Int
  b : Int
  at_ : Int
  deriving DecidableEq, Inhabited

def encNode (x : Node) : List V := [.int .u8 x.kind, .int .i64 x.n, .int .i64 x.a, .int .i64 x.b, .int .i64 x.at_]
def encNodes (l : List Node) : List V := l.flatMap encNode
theorem encNode_len (x : Node) : (encNode x).length = 5 := rfl
def nd (l : List Node) (i : Nat) : Node := l[i]?.getD default
theorem nd_mid (pre suf : List Node) (x : Node) : nd (pre ++ x :: suf) pre.length = x := by simp [nd]

theorem node_k {l : List Node} {i : Nat} (h : i < l.length) (k : Nat) (hk : k < 5) : cellAt (encNodes l) (i * 5 + k) = cellAt (encNode (nd l i)) k := cellAt_flat encNode 5 encNode_len l i k h hk
theorem node_0 {l : List Node} {i : Nat} (h : i < l.length) : cellAt (encNodes l) (i * 5) = .int .u8 (nd l i).kind := node_k h 0 (by omega)
theorem node_1 {l : List Node} {i : Nat} (h : i < l.length) : cellAt (encNodes l) (i * 5 + 1) = .int .i64 (nd l i).n := node_k h 1 (by omega)
theorem node_2 {l : List Node} {i : Nat} (h : i < l.length) : cellAt (encNodes l) (i * 5 + 1 + 1) = .int .i64 (nd l i).a := node_k h 2 (by omega)
theorem node_3 {l : List Node} {i : Nat} (h : i < l.length) : cellAt (encNodes l) (i * 5 + 1 + 1 + 1) = .int .i64 (nd l i).b := node_k h 3 (by omega)
theorem node_4 {l : List Node} {i : Nat} (h : i < l.length) : cellAt (encNodes l) (i * 5 + 1 + 1 + 1 + 1) = .int .i64 (nd l i).at_ := node_k h 4 (by omega)
theorem node_ok0 {l : List Node} {i : Nat} (h : i < l.length) : okT [CK.i IntKind.u8] (encNodes l) (i * 5) = true := by simp only [okT_cons, node_0 h]; rfl
theorem node_okT {l : List Node} {i : Nat} (h : i < l.length) : okT [CK.i IntKind.u8, CK.i IntKind.i64, CK.i IntKind.i64, CK.i IntKind.i64, CK.i IntKind.i64] (encNodes l) (i * 5) = true := by
  simp only [okT_cons, node_0 h, node_1 h, node_2 h, node_3 h, node_4 h]
  rfl

/-! ref04 -/
def countK (k : Int) : Int := if k ≤ 4 then 0 else if k ≤ 6 then 1 else 2
theorem ref04_Count (N : Nat) (k : Int) : call cc (N + 1) n_ref04_Count [.int .u8 k] = some (.int .i64 (countK k)) := by
  rw [F_ref04_Count]
  unfold countK
  by_cases h : k ≤ 4
  · simp [h]
  · by_cases h' : k ≤ 6 <;> simp [h, h']

def rightB (x : Node) (a b : Int) : Bool := decide (1 ≤ x.kind ∧ x.kind ≤ 19 ∧ 0 ≤ x.n ∧ (x.n = 0 ∨ x.kind = 1) ∧ 0 ≤ x.at_ ∧ x.at_ ≤ 400 ∧ x.a = a ∧ x.b = b)
theorem cond_beq {α : Type} (a b : Int) (x y : α) : cond (a == b) x y = if a = b then x else y := by
  by_cases h : a = b
  · simp [h]
  · rw [if_neg h, beq_eq_false_iff_ne.2 h]; rfl
theorem cond_bne {α : Type} (a b : Int) (x y : α) : cond (a != b) x y = if a = b then y else x := by
  by_cases h : a = b
  · simp [h]
  · rw [if_neg h, bne_iff_ne.2 h]; rfl

theorem ref04_right (N : Nat) (x : Node) (a b : Int) : call cc (N + 1) n_ref04_right [.agg (encNode x), .int .i64 a, .int .i64 b] = some (.bool (rightB x a b)) := by
  unfold encNode
  rw [F_ref04_right]
  unfold rightB
  simp only [Bool.cond_decide, cond_beq]
  repeat' split
  all_goals (congr 2; symm; simp only [decide_eq_true_eq, decide_eq_false_iff_not]; omega)

/-! slices.Clone -/
theorem slices_Clone_api_NodeN_0 (N : Nat) : call cc (N + 1) n_slices_Clone_api_NodeN [.sl 0 []] = some (.sl 0 []) := by kernel_rfl
theorem slices_Clone_api_NodeN_s (N m : Nat) (c : List V) : call cc (N + 1) n_slices_Clone_api_NodeN [.sl (m + 1) c] = cond (decide (c.length = (m + 1) * 5)) (cond (decide ((m + 1) ≤ bound)) (some (.sl (m + 1) c)) none) none := by kernel_rfl
theorem slices_Clone_api_NodeN_Ev {n : Nat} {c : List V} (hl : c.length = n * 5) (hn : n ≤ 1000000000) : Ev (fun N => call cc N n_slices_Clone_api_NodeN [.sl n c]) (.sl n c) := by
  cases n with
  | zero =>
    have : c = [] := List.eq_nil_of_length_eq_zero (by omega)
    subst this
    exact Ev.succ (fun N => slices_Clone_api_NodeN_0 N) (Ev.some _)
  | succ m => exact Ev.succ (fun N => slices_Clone_api_NodeN_s N m c) (Ev.cond_t (decide_eq_true hl) (Ev.cond_t (decide_eq_true (by unfold bound; omega)) (Ev.some _)))
theorem slices_Clone_int_int_0 (N : Nat) : call cc (N + 1) n_slices_Clone_int_int [.sl 0 []] = some (.sl 0 []) := by kernel_rfl
theorem slices_Clone_int_int_s (N m : Nat) (c : List V) : call cc (N + 1) n_slices_Clone_int_int [.sl (m + 1) c] = cond (decide (c.length = (m + 1) * 1)) (cond (decide ((m + 1) ≤ bound)) (some (.sl (m + 1) c)) none) none := by kernel_rfl
theorem slices_Clone_int_int_Ev {n : Nat} {c : List V} (hl : c.length = n * 1) (hn : n ≤ 1000000000) : Ev (fun N => call cc N n_slices_Clone_int_int [.sl n c]) (.sl n c) := by
  cases n with
  | zero =>
    have : c = [] := List.eq_nil_of_length_eq_zero (by omega)
    subst this
    exact Ev.succ (fun N => slices_Clone_int_int_0 N) (Ev.some _)
  | succ m => exact Ev.succ (fun N => slices_Clone_int_int_s N m c) (Ev.cond_t (decide_eq_true hl) (Ev.cond_t (decide_eq_true (by unfold bound; omega)) (Ev.some _)))
theorem slices_Clone_api_Event_api_Event_0 (N : Nat) : call cc (N + 1) n_slices_Clone_api_Event_api_Event [.sl 0 []] = some (.sl 0 []) := by kernel_rfl
theorem slices_Clone_api_Event_api_Event_s (N m : Nat) (c : List V) : call cc (N + 1) n_slices_Clone_api_Event_api_Event [.sl (m + 1) c] = cond (decide (c.length = (m + 1) * 5)) (cond (decide ((m + 1) ≤ bound)) (some (.sl (m + 1) c)) none) none := by kernel_rfl
theorem slices_Clone_api_Event_api_Event_Ev {n : Nat} {c : List V} (hl : c.length = n * 5) (hn : n ≤ 1000000000) : Ev (fun N => call cc N n_slices_Clone_api_Event_api_Event [.sl n c]) (.sl n c) := by
  cases n with
  | zero =>
    have : c = [] := List.eq_nil_of_length_eq_zero (by omega)
    subst this
    exact Ev.succ (fun N => slices_Clone_api_Event_api_Event_0 N) (Ev.some _)
  | succ m => exact Ev.succ (fun N => slices_Clone_api_Event_api_Event_s N m c) (Ev.cond_t (decide_eq_true hl) (Ev.cond_t (decide_eq_true (by unfold bound; omega)) (Ev.some _)))

/-! clauses.distinct -/
theorem intsB_ints : ∀ (l : List Int), (∀ x ∈ l, -9223372036854775808 ≤ x ∧ x ≤ 9223372036854775807) → intsB (ints l) = true
  | [], _ => rfl
  | x :: l, h => by
    have h1 := h x (List.mem_cons_self ..)
    have ih := intsB_ints l (fun y hy => h y (List.mem_cons_of_mem _ hy))
    simp only [ints, List.map_cons, intsB, intB, decide_eq_true h1.1, decide_eq_true h1.2, Bool.true_and]
    exact ih
theorem distinct_ext {l : List Int} (h : l.length ≤ 1000000) (hw : ∀ x ∈ l, -9223372036854775808 ≤ x ∧ x ≤ 9223372036854775807) : extFn n_clauses_distinct_int [.sl l.length (ints l)] = some (.int .i64 (((l).eraseDups.length : Nat) : Int)) := by
  have e : extFn n_clauses_distinct_int [.sl l.length (ints l)] = distinctV [.sl l.length (ints l)] := by kernel_rfl
  rw [e]
  show cond (Nat.beq l.length (ints l).length && (intsB (ints l) && decide (l.length ≤ 1000000))) (some (V.int .i64 (((ints l).map V.toI).eraseDups.length : Nat))) none = _
  have h1 : Nat.beq l.length (ints l).length = true := by simp [ints]
  have h2 : (ints l).map V.toI = l := by simp [ints, Function.comp_def]
  rw [h1, intsB_ints l hw, decide_eq_true h, h2]
  rfl

end Go.Pv

/- ref04.Sizes -/
namespace Go.Pv

def szNext (sz dp : List Int) (x : Node) : Option (Int × Int) :=
  let i : Int := sz.length
  if countK x.kind > 0 then
    if i = 0 then none else
    let s := gi sz (sz.length - 1)
    let d := gi dp (sz.length - 1)
    let first := i - 1 - s
    if countK x.kind = 2 then
      if first < 0 then none
      else if rightB x first (i - 1) then some (1 + s + gi sz first.toNat, max (1 + d) (1 + gi dp first.toNat)) else none
    else if rightB x (i - 1) 0 then some (1 + s, 1 + d) else none
  else if rightB x 0 0 then some (1, 1) else none

def szAll : List Node → List Int → List Int → Option (List Int × List Int)
  | [], sz, dp => some (sz, dp)
  | x :: l, sz, dp => match szNext sz dp x with
    | some (s, d) => szAll l (sz ++ [s]) (dp ++ [d])
    | none => none

structure SzOk (sz dp : List Int) : Prop where
  len : dp.length = sz.length
  szb : ∀ j, j < sz.length → 1 ≤ gi sz j ∧ gi sz j ≤ j + 1
  dpb : ∀ j, j < sz.length → 1 ≤ gi dp j ∧ gi dp j ≤ j + 1

theorem SzOk.next {sz dp : List Int} (h : SzOk sz dp) {x : Node} {s d : Int} (hn : szNext sz dp x = some (s, d)) : SzOk (sz ++ [s]) (dp ++ [d]) := by
  have key : 1 ≤ s ∧ s ≤ sz.length + 1 ∧ 1 ≤ d ∧ d ≤ sz.length + 1 := by
    unfold szNext at hn
    simp only at hn
    split at hn
    · split at hn
      · cases hn
      · rename_i h1 h2
        have a := h.szb (sz.length - 1) (by omega)
        have b := h.dpb (sz.length - 1) (by omega)
        split at hn
        · split at hn
          · cases hn
          · rename_i h3 h4
            split at hn
            · simp only [Option.some.injEq, Prod.mk.injEq] at hn
              have e := h.szb ((sz.length : Int) - 1 - gi sz (sz.length - 1)).toNat (by omega)
              have f := h.dpb ((sz.length : Int) - 1 - gi sz (sz.length - 1)).toNat (by omega)
              omega
            · cases hn
        · split at hn
          · simp only [Option.some.injEq, Prod.mk.injEq] at hn; omega
          · cases hn
    · split at hn
      · simp only [Option.some.injEq, Prod.mk.injEq] at hn; omega
      · cases hn
  refine ⟨by simp [h.len], fun j hj => ?_, fun j hj => ?_⟩
  · rw [gi_snoc]
    by_cases hjl : j < sz.length
    · rw [if_pos hjl]; exact h.szb j hjl
    · rw [if_neg hjl, if_pos (by simp at hj; omega)]; simp at hj; omega
  · rw [gi_snoc, h.len]
    by_cases hjl : j < sz.length
    · rw [if_pos hjl]; exact h.dpb j hjl
    · rw [if_neg hjl, if_pos (by simp at hj; omega)]; simp at hj; omega

/-- What Sizes returns. -/
def szRes (l : List Node) : V :=
  match szAll l [] [] with
  | some (sz, dp) => .tup [.sl sz.length (ints sz), .sl dp.length (ints dp), .bool (decide (l ≠ [] ∧ gi sz (l.length - 1) = l.length))]
  | none => .tup [.sl 0 [], .sl 0 [], .bool false]

def szFin (l : List Node) : Option (List Int × List Int) → V
  | some (sz, dp) => .tup [.sl sz.length (ints sz), .sl dp.length (ints dp), .bool (decide (l ≠ [] ∧ gi sz (l.length - 1) = l.length))]
  | none => .tup [.sl 0 [], .sl 0 [], .bool false]

theorem sizes_21 {l pre suf : List Node} {x : Node} (hl : l = pre ++ x :: suf) (hb : l.length ≤ 1000000000) {sz dp : List Int} (a b s d : Int) (r : V)
    (hfalse : rightB x a b = false → r = .tup [.sl 0 [], .sl 0 [], .bool false])
    (htrue : rightB x a b = true → Ev (fun N => S_ref04_Sizes_23 N l.length (encNodes l) sz.length dp.length pre.length s d (ints sz) (ints dp)) r) :
    Ev (fun N => S_ref04_Sizes_21 N l.length (encNodes l) sz.length dp.length pre.length a b s d (ints sz) (ints dp)) r := by
  have hi : pre.length < l.length := by rw [hl]; simp
  have hx : nd l pre.length = x := by rw [hl]; exact nd_mid pre suf x
  refine Ev.succ (fun N => S_ref04_Sizes_21_eq N _ _ _ _ _ _ _ _ _ _ _) ?_
  simp only [toNat_cast, node_0 hi, node_1 hi, node_2 hi, node_3 hi, node_4 hi, node_okT hi, hx, toI_int]
  refine Ev.cond_t (by simp) (Ev.cond_t (by simpa using hi) (Ev.cond_t rfl ?_))
  refine Ev.bind (v := .bool (rightB x a b)) (Ev.succ (fun N => ref04_right N x a b) (Ev.some _)) ?_
  refine Ev.cond_t (by simp) ?_
  cases hr : rightB x a b with
  | true => refine Ev.cond_t (by simp) (htrue hr)
  | false => refine Ev.cond_f (by simp) ?_; rw [hfalse hr]; exact Ev.some _

theorem sizes_23 {l pre suf : List Node} {x : Node} (hl : l = pre ++ x :: suf) (hb : l.length ≤ 1000000000) {sz dp : List Int} (h1 : sz.length = pre.length) (h2 : dp.length = pre.length) (s d : Int) (r : V)
    (h : Ev (fun N => S_ref04_Sizes_3 N l.length (encNodes l) (sz ++ [s]).length (dp ++ [d]).length ((pre ++ [x]).length : Nat) (ints (sz ++ [s])) (ints (dp ++ [d]))) r) :
    Ev (fun N => S_ref04_Sizes_23 N l.length (encNodes l) sz.length dp.length pre.length s d (ints sz) (ints dp)) r := by
  have hi : pre.length < l.length := by rw [hl]; simp
  refine Ev.succ (fun N => S_ref04_Sizes_23_eq N _ _ _ _ _ _ _ _ _) ?_
  refine Ev.cond_t (le_bound (by omega)) (Ev.cond_t (le_bound (by omega)) ?_)
  refine Ev.succ (fun N => S_ref04_Sizes_4_eq N _ _ _ _ _ _ _) ?_
  rw [wrap_i64 (by omega) (by omega)]
  simpa [ints_snoc] using h

theorem sizes_loop {l : List Node} (hb : l.length ≤ 1000000000) : ∀ (suf pre : List Node) (sz dp : List Int), l = pre ++ suf → sz.length = pre.length → SzOk sz dp →
    Ev (fun N => S_ref04_Sizes_3 N l.length (encNodes l) sz.length dp.length pre.length (ints sz) (ints dp)) (szFin l (szAll suf sz dp))
  | [], pre, sz, dp, hl, hsz, hok => by
    have hlen : pre.length = l.length := by rw [hl]; simp
    refine Ev.succ (fun N => S_ref04_Sizes_3_eq N _ _ _ _ _ _ _) (Ev.cond_f (by simp [hlen]) ?_)
    refine Ev.succ (fun N => S_ref04_Sizes_25_eq N _ _ _ _ _ _) ?_
    by_cases hpos : 0 < l.length
    case neg =>
      have h0 : l = [] := List.eq_nil_of_length_eq_zero (by omega)
      refine Ev.cond_f (by simp; omega) ?_
      have : szFin l (szAll [] sz dp) = .tup [.sl sz.length (ints sz), .sl dp.length (ints dp), .bool false] := by simp [szAll, szFin, h0]
      rw [this]; exact Ev.some _
    have e1 : IntKind.wrap .i64 ((l.length : Int) - 1) = ((l.length - 1 : Nat) : Int) := by rw [wrap_i64 (by omega) (by omega)]; omega
    simp only [e1, toNat_cast, Nat.mul_one]
    have hj : l.length - 1 < sz.length := by omega
    rw [ints_okT hj, ints_at hj]
    refine Ev.cond_t (by simp; omega) (Ev.cond_t (by simp) (Ev.cond_t (by simp; omega) (Ev.cond_t rfl ?_)))
    have hne' : l ≠ [] := by intro e; rw [e] at hpos; simp at hpos
    simp only [toI_int, cond_beq]
    by_cases he : gi sz (l.length - 1) = (l.length : Int)
    · refine Ev.if_pos he ?_
      have : szFin l (szAll [] sz dp) = .tup [.sl sz.length (ints sz), .sl dp.length (ints dp), .bool true] := by simp [szAll, szFin, he, hne']
      rw [this]; exact Ev.some _
    · refine Ev.if_neg he ?_
      have : szFin l (szAll [] sz dp) = .tup [.sl sz.length (ints sz), .sl dp.length (ints dp), .bool false] := by simp [szAll, szFin, he, hne']
      rw [this]; exact Ev.some _
  | x :: suf, pre, sz, dp, hl, hsz, hok => by
    have hi : pre.length < l.length := by rw [hl]; simp
    have hx : nd l pre.length = x := by rw [hl]; exact nd_mid pre suf x
    have hdp : dp.length = pre.length := by rw [hok.len, hsz]
    have hl' : l = (pre ++ [x]) ++ suf := by rw [hl]; simp
    have IH := fun s d (hn : szNext sz dp x = some (s, d)) => sizes_23 hl hb hsz hdp s d _ (sizes_loop hb suf (pre ++ [x]) (sz ++ [s]) (dp ++ [d]) hl' (by simp [hsz]) (hok.next hn))
    refine Ev.succ (fun N => S_ref04_Sizes_3_eq N _ _ _ _ _ _ _) (Ev.cond_t (by simpa using hi) ?_)
    refine Ev.succ (fun N => S_ref04_Sizes_5_eq N _ _ _ _ _ _ _) ?_
    simp only [toNat_cast, Nat.add_zero, node_0 hi, hx, toI_int]
    refine Ev.cond_t (by simp) (Ev.cond_t (by simpa using hi) (Ev.cond_t (node_ok0 hi) ?_))
    refine Ev.bind (Ev.succ (fun N => ref04_Count N x.kind) (Ev.some _)) ?_
    refine Ev.cond_t (by simp) ?_
    simp only [cells_int, cellAt_zero, toI_int]
    by_cases hc : countK x.kind > 0
    · refine Ev.cond_t (by simpa using hc) ?_
      rw [wrap_i64 (by omega) (by omega)]
      by_cases hpos : 0 < pre.length
      case neg =>
        refine Ev.cond_t (by simp; omega) ?_
        have hn : szNext sz dp x = none := by simp only [szNext, if_pos hc]; rw [if_pos (by omega)]
        simp only [szAll, hn, szFin]; exact Ev.some _
      have e1 : (pre.length : Int) - 1 = ((pre.length - 1 : Nat) : Int) := by omega
      rw [e1]
      refine Ev.cond_f (by simp) ?_
      refine Ev.succ (fun N => S_ref04_Sizes_11_eq N _ _ _ _ _ _ _ _ _ _ _) ?_
      have hj : pre.length - 1 < sz.length := by omega
      have hj' : pre.length - 1 < dp.length := by omega
      have bs := hok.szb _ hj
      have bd := hok.dpb _ (by omega : pre.length - 1 < sz.length)
      simp only [toNat_cast, Nat.mul_one, ints_okT hj, ints_okT hj', ints_at hj, ints_at hj', toI_int]
      have hn0 : ¬ ((sz.length : Int) = 0) := by omega
      have hsl : sz.length - 1 = pre.length - 1 := by omega
      have hsi : (sz.length : Int) - 1 = ((pre.length - 1 : Nat) : Int) := by omega
      refine Ev.cond_t (by simp) (Ev.cond_t (by simp; omega) (Ev.cond_t rfl (Ev.cond_t (by simp) (Ev.cond_t (by simp; omega) (Ev.cond_t rfl (Ev.cond_t (by simp) (Ev.cond_t (by simp; omega) (Ev.cond_t rfl ?_))))))))
      rw [wrap_i64 (n := 1 + gi sz (pre.length - 1)) (by omega) (by omega), wrap_i64 (n := 1 + gi dp (pre.length - 1)) (by omega) (by omega), wrap_i64 (n := ((pre.length - 1 : Nat) : Int) - gi sz (pre.length - 1)) (by omega) (by omega)]
      simp only [cond_beq]
      by_cases h2 : countK x.kind = 2
      · refine Ev.if_pos h2 ?_
        by_cases hf : ((pre.length - 1 : Nat) : Int) - gi sz (pre.length - 1) < 0
        · refine Ev.cond_t (by simpa using hf) ?_
          have hn : szNext sz dp x = none := by
            simp only [szNext, if_pos hc, if_neg hn0, if_pos h2, hsl, hsi, if_pos hf]
          have e : szFin l (szAll (x :: suf) sz dp) = .tup [.sl 0 [], .sl 0 [], .bool false] := by simp [szAll, hn, szFin]
          rw [e]; exact Ev.some _
        · refine Ev.cond_f (by simpa using hf) ?_
          have hk : (((pre.length - 1 : Nat) : Int) - gi sz (pre.length - 1)).toNat < sz.length := by omega
          have hk' : (((pre.length - 1 : Nat) : Int) - gi sz (pre.length - 1)).toNat < dp.length := by omega
          have es := hok.szb _ hk
          have ed := hok.dpb _ hk
          refine Ev.succ (fun N => S_ref04_Sizes_18_eq N _ _ _ _ _ _ _ _ _ _ _) ?_
          simp only [Nat.mul_one, ints_okT hk, ints_okT hk', ints_at hk, ints_at hk', toI_int]
          refine Ev.cond_t (by simp; omega) (Ev.cond_t (by simp; omega) (Ev.cond_t rfl (Ev.cond_t (by simp; omega) (Ev.cond_t (by simp; omega) (Ev.cond_t rfl ?_)))))
          rw [wrap_i64 (n := 1 + gi sz (pre.length - 1) + _) (by omega) (by omega), wrap_i64 (n := 1 + gi dp _) (by omega) (by omega)]
          have hn : szNext sz dp x = if rightB x (((pre.length - 1 : Nat) : Int) - gi sz (pre.length - 1)) ((pre.length - 1 : Nat) : Int) then some (1 + gi sz (pre.length - 1) + gi sz (((pre.length - 1 : Nat) : Int) - gi sz (pre.length - 1)).toNat, max (1 + gi dp (pre.length - 1)) (1 + gi dp (((pre.length - 1 : Nat) : Int) - gi sz (pre.length - 1)).toNat)) else none := by
            simp only [szNext, if_pos hc, if_neg hn0, if_pos h2, hsl, hsi, if_neg hf]
          have hmax : (if 1 + gi dp (((pre.length - 1 : Nat) : Int) - gi sz (pre.length - 1)).toNat > 1 + gi dp (pre.length - 1) then 1 + gi dp (((pre.length - 1 : Nat) : Int) - gi sz (pre.length - 1)).toNat else 1 + gi dp (pre.length - 1)) = max (1 + gi dp (pre.length - 1)) (1 + gi dp (((pre.length - 1 : Nat) : Int) - gi sz (pre.length - 1)).toNat) := by
            split <;> omega
          rw [hmax]
          refine sizes_21 hl hb _ _ _ _ _ (fun hr => ?_) (fun hr => ?_)
          · simp [szAll, hn, hr, szFin]
          · have := IH _ _ (by rw [hn, hr]; rfl)
            simp only [szAll, hn, hr, if_true]; exact this
      · refine Ev.if_neg h2 ?_
        have hn : szNext sz dp x = if rightB x ((pre.length - 1 : Nat) : Int) 0 then some (1 + gi sz (pre.length - 1), 1 + gi dp (pre.length - 1)) else none := by
          simp only [szNext, if_pos hc, if_neg hn0, if_neg h2, hsl, hsi]
        refine sizes_21 hl hb _ _ _ _ _ (fun hr => ?_) (fun hr => ?_)
        · simp [szAll, hn, hr, szFin]
        · have := IH _ _ (by rw [hn, hr]; rfl)
          simp only [szAll, hn, hr, if_true]; exact this
    · refine Ev.cond_f (by simpa using hc) ?_
      have hn : szNext sz dp x = if rightB x 0 0 then some (1, 1) else none := by simp [szNext, hc]
      refine sizes_21 hl hb 0 0 1 1 _ (fun hr => ?_) (fun hr => ?_)
      · simp [szAll, hn, hr, szFin]
      · have := IH 1 1 (by rw [hn, hr]; rfl)
        have e : szAll (x :: suf) sz dp = szAll suf (sz ++ [1]) (dp ++ [1]) := by simp [szAll, hn, hr]
        rw [e]; exact this

theorem ref04_Sizes {l : List Node} (hb : l.length ≤ 1000000000) : Ev (fun N => call cc N n_ref04_Sizes [.sl l.length (encNodes l)]) (szFin l (szAll l [] [])) := by
  refine Ev.succ (fun N => F_ref04_Sizes N _ _) ?_
  exact sizes_loop hb l [] [] [] rfl rfl ⟨rfl, fun j hj => by simp at hj, fun j hj => by simp at hj⟩

theorem szAll_len : ∀ (l : List Node) (sz dp sz' dp' : List Int), SzOk sz dp → szAll l sz dp = some (sz', dp') → sz'.length = sz.length + l.length ∧ SzOk sz' dp'
  | [], sz, dp, sz', dp', hok, h => by simp only [szAll, Option.some.injEq, Prod.mk.injEq] at h; obtain ⟨rfl, rfl⟩ := h; exact ⟨rfl, hok⟩
  | x :: l, sz, dp, sz', dp', hok, h => by
    simp only [szAll] at h
    cases hn : szNext sz dp x with
    | none => simp [hn] at h
    | some sd =>
      obtain ⟨s, d⟩ := sd
      simp only [hn] at h
      obtain ⟨h1, h2⟩ := szAll_len l _ _ _ _ (hok.next hn) h
      exact ⟨by rw [h1]; simp; omega, h2⟩

theorem SzOk.nil : SzOk [] [] := ⟨rfl, fun j hj => by simp at hj, fun j hj => by simp at hj⟩

/-- The error of an expression. -/
def exprErr (l : List Node) : Int :=
  if 60 < l.length then 4 else
  match szAll l [] [] with
  | some (sz, dp) => if l ≠ [] ∧ gi sz (l.length - 1) = l.length then (if 20 < gi dp (l.length - 1) then 34 else 0) else 8
  | none => 8

theorem ref04_Check {l : List Node} (hb : l.length ≤ 1000000000) : Ev (fun N => call cc N n_ref04_Check [.sl l.length (encNodes l)]) (.int .i64 (exprErr l)) := by
  refine Ev.succ (fun N => F_ref04_Check N _ _) ?_
  by_cases h60 : 60 < l.length
  · refine Ev.cond_t (by simp; omega) ?_
    simp only [exprErr, if_pos h60]; exact Ev.some _
  · refine Ev.cond_f (by simp; omega) ?_
    refine Ev.bind (ref04_Sizes hb) ?_
    simp only [exprErr, if_neg h60]
    cases hs : szAll l [] [] with
    | none => simp only [szFin]; exact Ev.some _
    | some sd =>
      obtain ⟨sz, dp⟩ := sd
      obtain ⟨h1, h2⟩ := szAll_len l _ _ _ _ SzOk.nil hs
      simp only [szFin]
      by_cases hr : l ≠ [] ∧ gi sz (l.length - 1) = l.length
      · have hpos : 0 < l.length := List.length_pos_iff.2 hr.1
        have hd : dp.length = l.length := by rw [h2.len, h1]; simp
        have hj : l.length - 1 < dp.length := by omega
        simp only [if_pos hr, decide_eq_true hr]
        have e1 : IntKind.wrap .i64 ((l.length : Int) - 1) = ((l.length - 1 : Nat) : Int) := by rw [wrap_i64 (by omega) (by omega)]; omega
        simp only [e1, cs_tup, cellAt_zero, cellAt_succ, cells_sl, cells_bool, slN_sl, slC_sl, toB_bool, toNat_cast, Nat.mul_one, ints_at hj, ints_okT hj, toI_int]
        refine Ev.cond_t rfl (Ev.cond_t rfl (Ev.cond_t (by simp) (Ev.cond_t (by simp; omega) (Ev.cond_t rfl ?_))))
        by_cases h20 : 20 < gi dp (l.length - 1)
        · refine Ev.cond_t (by simpa using h20) ?_; rw [if_pos h20]; exact Ev.some _
        · refine Ev.cond_f (by simpa using h20) ?_; rw [if_neg h20]; exact Ev.some _
      · simp only [if_neg hr, decide_eq_false hr]
        exact Ev.some _

end Go.Pv

/- nodes.tops, nodes.check, nodes.Check -/
namespace Go.Pv

theorem nodes_Parts (N : Nat) (k : Int) : call cc (N + 1) n_nodes_Parts [.int .u8 k] = some (.tup [.int .i64 (if 1 ≤ k ∧ k ≤ 19 then countK k else 0), .int .i64 (if 1 ≤ k ∧ k ≤ 19 then 0 else 2)]) := by
  rw [F_nodes_Parts]
  unfold countK
  simp only [Bool.cond_decide, cond_beq]
  repeat' split
  all_goals first | rfl | (exfalso; omega)

structure Top where
  at_ : Int
  size : Int
  depth : Int
  deriving Inhabited
def encTop (t : Top) : List V := [.int .i64 t.at_, .int .i64 t.size, .int .i64 t.depth]
def encTops (l : List Top) : List V := l.flatMap encTop
def tp (l : List Top) (i : Nat) : Top := l[i]?.getD default
theorem encTops_snoc (l : List Top) (t : Top) : encTops l ++ encTop t = encTops (l ++ [t]) := by simp [encTops]
theorem top_k {l : List Top} {i : Nat} (h : i < l.length) (k : Nat) (hk : k < 3) : cellAt (encTops l) (i * 3 + k) = cellAt (encTop (tp l i)) k := cellAt_flat encTop 3 (fun _ => rfl) l i k h hk
theorem top_0 {l : List Top} {i : Nat} (h : i < l.length) : cellAt (encTops l) (i * 3) = .int .i64 (tp l i).at_ := top_k h 0 (by omega)
theorem top_1 {l : List Top} {i : Nat} (h : i < l.length) : cellAt (encTops l) (i * 3 + 1) = .int .i64 (tp l i).size := top_k h 1 (by omega)
theorem top_2 {l : List Top} {i : Nat} (h : i < l.length) : cellAt (encTops l) (i * 3 + 1 + 1) = .int .i64 (tp l i).depth := top_k h 2 (by omega)
theorem top_2' {l : List Top} {i : Nat} (h : i < l.length) : cellAt (encTops l) (i * 3 + 2) = .int .i64 (tp l i).depth := top_k h 2 (by omega)
theorem top_okT {l : List Top} {i : Nat} (h : i < l.length) : okT [CK.i IntKind.i64, CK.i IntKind.i64, CK.i IntKind.i64] (encTops l) (i * 3) = true := by
  simp only [okT_cons, top_0 h, top_1 h, top_2 h]
  rfl
theorem take_tops (l : List Top) (n : Nat) : (encTops l).take (n * 3) = encTops (l.take n) := by
  induction l generalizing n with
  | nil => simp [encTops]
  | cons t l ih =>
    cases n with
    | zero => simp [encTops]
    | succ n =>
      have := ih n
      simp only [encTops, List.flatMap_cons, List.take_succ_cons] at this ⊢
      have e : (n + 1) * 3 = (encTop t).length + n * 3 := by simp [encTop]; omega
      rw [e, List.take_length_add_append, this]

def clampAt (a : Int) : Int := if 400 < (if 0 > a then 0 else a) then 400 else if 0 > a then 0 else a

theorem tops_tail {l pre suf : List Node} {x : Node} (hl : l = pre ++ x :: suf) (hb : l.length ≤ 1000000000) (all stk : List Top) (ha : all.length = pre.length) (n1 o6 n7 : Nat) (hn1 : n1 ≤ pre.length) (a b s d : Int) (r : V) (hv : 1 ≤ x.kind ∧ x.kind ≤ 19)
    (hfalse : rightB x a b = false → r = .tup [.sl all.length (encTops all), .bool false])
    (htrue : rightB x a b = true → Ev (fun N => S_nodes_tops_3 N (all.length + 1) (n1 + 1) l.length (encNodes l) l.length ((pre.length + 1 : Nat) : Int) (encTops (all ++ [⟨pre.length, s, d⟩])) (encTops (stk.take n1 ++ [⟨pre.length, s, d⟩]))) r) :
    Ev (fun N => S_nodes_tops_13 N all.length n1 l.length (encNodes l) l.length pre.length o6 n7 n7 n7 (encTops all) (encTops stk) x.kind x.n x.a x.b x.at_ x.kind 0 a b (clampAt x.at_) pre.length s d) r := by
  have hi : pre.length < l.length := by rw [hl]; simp
  refine Ev.succ (fun N => S_nodes_tops_13_eq N _ _ _ _ _ _ _ _ _ _ _ _ _ _ _ _ _ _ _ _ _ _ _ _ _) (Ev.cond_f (by simp) ?_)
  have e1 : ((pre.length : Int) + 1) = ((pre.length + 1 : Nat) : Int) := by simp
  have fin : rightB x a b = true → Ev (fun N => cond (decide ((n1 + 1) ≤ bound)) (cond (decide ((all.length + 1) ≤ bound)) (S_nodes_tops_3 N (all.length + 1) (n1 + 1) l.length (encNodes l) l.length (IntKind.wrap IntKind.i64 ((pre.length : Int) + 1)) (encTops all ++ [.int .i64 (pre.length : Int), .int .i64 s, .int .i64 d]) ((encTops stk).take (n1 * 3) ++ [.int .i64 (pre.length : Int), .int .i64 s, .int .i64 d])) none) none) r := by
    intro hr
    refine Ev.cond_t (le_bound (by omega)) (Ev.cond_t (le_bound (by omega)) ?_)
    rw [wrap_i64 (by omega) (by omega), e1, take_tops]
    have := htrue hr
    rw [← encTops_snoc, ← encTops_snoc] at this
    exact this
  have hat : (clampAt x.at_ == x.at_) = decide (0 ≤ x.at_ ∧ x.at_ ≤ 400) := by
    unfold clampAt
    rw [Bool.eq_iff_iff]
    simp only [beq_iff_eq, decide_eq_true_eq]
    repeat' split
    all_goals omega
  rw [hat]
  by_cases h1 : x.kind = 1
  · refine Ev.cond_t (by simpa using h1) ?_
    have key : ((x.kind == x.kind) && (((ite ((0 : Int) > x.n) (0 : Int) x.n) == x.n) && ((a == x.a) && ((b == x.b) && (decide (0 ≤ x.at_ ∧ x.at_ ≤ 400) && true))))) = rightB x a b := by
      unfold rightB
      rw [Bool.eq_iff_iff]
      simp only [Bool.and_eq_true, beq_iff_eq, decide_eq_true_eq, Bool.and_true, true_and]
      constructor
      · rintro ⟨h2, rfl, rfl, h3⟩; split at h2 <;> omega
      · rintro ⟨_, _, h2, _, h3, h4, h5, h6⟩; refine ⟨?_, h5.symm, h6.symm, h3, h4⟩; rw [if_neg (by omega)]
    rw [key]
    cases hr : rightB x a b with
    | false => refine Ev.cond_t rfl ?_; rw [hfalse hr]; exact Ev.some _
    | true => refine Ev.cond_f rfl ?_; exact fin hr
  · refine Ev.cond_f (by simpa using h1) ?_
    have key : ((x.kind == x.kind) && (((0 : Int) == x.n) && ((a == x.a) && ((b == x.b) && (decide (0 ≤ x.at_ ∧ x.at_ ≤ 400) && true))))) = rightB x a b := by
      unfold rightB
      rw [Bool.eq_iff_iff]
      simp only [Bool.and_eq_true, beq_iff_eq, decide_eq_true_eq, Bool.and_true, true_and]
      omega
    rw [key]
    cases hr : rightB x a b with
    | false => refine Ev.cond_t rfl ?_; rw [hfalse hr]; exact Ev.some _
    | true => refine Ev.cond_f rfl ?_; exact fin hr

theorem tops_part {l pre suf : List Node} {x : Node} (hl : l = pre ++ x :: suf) (hb : l.length ≤ 1000000000) (all stk : List Top) (n1 q k n7 : Nat) (hk : k < n7) (hq : q + k < stk.length) (hn : n7 ≤ 10) (K17 K18 a b cl s d : Int) (r : V)
    (hs : 0 ≤ s ∧ s ≤ 10000000000) (ht : 0 ≤ (tp stk (q + k)).size ∧ (tp stk (q + k)).size ≤ 1000000000 ∧ 0 ≤ (tp stk (q + k)).depth ∧ (tp stk (q + k)).depth ≤ 1000000000)
    (h : Ev (fun N => S_nodes_tops_13 N all.length n1 l.length (encNodes l) l.length pre.length (q * 3) n7 n7 ((k + 1 : Nat) : Int) (encTops all) (encTops stk) x.kind x.n x.a x.b x.at_ K17 K18 (if k = 0 then (tp stk (q + k)).at_ else a) (if k = 0 then b else (tp stk (q + k)).at_) cl pre.length (s + (tp stk (q + k)).size) (if (tp stk (q + k)).depth + 1 > d then (tp stk (q + k)).depth + 1 else d)) r) :
    Ev (fun N => S_nodes_tops_13 N all.length n1 l.length (encNodes l) l.length pre.length (q * 3) n7 n7 (k : Int) (encTops all) (encTops stk) x.kind x.n x.a x.b x.at_ K17 K18 a b cl pre.length s d) r := by
  have e3 : q * 3 + k * 3 = (q + k) * 3 := by omega
  refine Ev.succ (fun N => S_nodes_tops_13_eq N _ _ _ _ _ _ _ _ _ _ _ _ _ _ _ _ _ _ _ _ _ _ _ _ _) (Ev.cond_t (by simpa using hk) ?_)
  simp only [toNat_cast, e3, top_0 hq, top_1 hq, top_2 hq, top_okT hq, toI_int]
  refine Ev.cond_t (by simp) (Ev.cond_t (by simpa using hk) (Ev.cond_t rfl ?_))
  rw [wrap_i64 (n := (k : Int) + 1) (by omega) (by omega), wrap_i64 (n := s + _) (by omega) (by omega), wrap_i64 (n := _ + 1) (by omega) (by omega)]
  have e1 : ((k : Int) + 1) = ((k + 1 : Nat) : Int) := by simp
  rw [e1]
  by_cases h0 : k = 0
  · refine Ev.cond_t (by simp [h0]) ?_
    simpa only [if_pos h0] using h
  · refine Ev.cond_f (by simp; omega) ?_
    simpa only [if_neg h0] using h

def topsOf (sz dp : List Int) : List Top := (List.range sz.length).map fun (j : Nat) => ⟨(j : Int), gi sz j, gi dp j⟩
theorem topsOf_len (sz dp : List Int) : (topsOf sz dp).length = sz.length := by simp [topsOf]
theorem topsOf_tp {sz dp : List Int} {j : Nat} (h : j < sz.length) : tp (topsOf sz dp) j = ⟨j, gi sz j, gi dp j⟩ := by
  simp [tp, topsOf, h]
theorem topsOf_snoc {sz dp : List Int} (hlen : dp.length = sz.length) (s d : Int) : topsOf (sz ++ [s]) (dp ++ [d]) = topsOf sz dp ++ [⟨sz.length, s, d⟩] := by
  simp only [topsOf, List.length_append, List.length_singleton, List.range_succ, List.map_append, List.map_cons, List.map_nil]
  congr 1
  · refine List.map_congr_left (fun j hj => ?_)
    have hj := List.mem_range.1 hj
    rw [gi_snoc, if_pos hj, gi_snoc, if_pos (by omega)]
  · rw [gi_snoc, if_neg (by omega), if_pos rfl, gi_snoc, if_neg (by omega), if_pos hlen.symm]

/-- The roots, the last one first. -/
def Chain (sz dp : List Int) : Int → List Top → Prop
  | p, [] => p = -1
  | p, t :: ts => 0 ≤ p ∧ p < sz.length ∧ t = ⟨p, gi sz p.toNat, gi dp p.toNat⟩ ∧ Chain sz dp (p - gi sz p.toNat) ts

theorem Chain.mono {sz dp : List Int} (hlen : dp.length = sz.length) (s d : Int) : ∀ {p : Int} {ts : List Top}, Chain sz dp p ts → Chain (sz ++ [s]) (dp ++ [d]) p ts
  | p, [], h => h
  | p, t :: ts, ⟨h1, h2, h3, h4⟩ => by
    have e1 : gi (sz ++ [s]) p.toNat = gi sz p.toNat := by rw [gi_snoc, if_pos (by omega)]
    have e2 : gi (dp ++ [d]) p.toNat = gi dp p.toNat := by rw [gi_snoc, if_pos (by omega)]
    exact ⟨h1, by simp; omega, by rw [e1, e2]; exact h3, by rw [e1]; exact h4.mono hlen s d⟩

def TopsRes (l : List Node) (r : V) : Option (List Int × List Int) → Prop
  | some (sz, dp) => r = .tup [.sl sz.length (encTops (topsOf sz dp)), .bool (decide (l ≠ [] ∧ gi sz (l.length - 1) = l.length))]
  | none => ∃ n c, r = .tup [.sl n c, .bool false]

theorem szNext_bad {sz dp : List Int} {x : Node} (h : ¬ (1 ≤ x.kind ∧ x.kind ≤ 19)) : szNext sz dp x = none := by
  have hr : ∀ a b, rightB x a b = false := fun a b => by
    unfold rightB
    exact decide_eq_false (fun h' => h ⟨h'.1, h'.2.1⟩)
  unfold szNext
  simp only [hr]
  repeat' split
  all_goals first | rfl | contradiction | (rename_i h'; cases h')

theorem countK_cases (k : Int) : countK k = 0 ∨ countK k = 1 ∨ countK k = 2 := by
  unfold countK
  repeat' split
  all_goals simp

theorem tp_snoc_last (s : List Top) (t : Top) : tp (s ++ [t]) s.length = t := by simp [tp]
theorem tp_snoc_lt (s u : List Top) {j : Nat} (h : j < s.length) : tp (s ++ u) j = tp s j := by simp only [tp, List.getElem?_append_left h]

theorem tops_loop {l : List Node} (hb : l.length ≤ 1000000000) : ∀ (suf pre : List Node) (sz dp : List Int) (stk : List Top), l = pre ++ suf → sz.length = pre.length → SzOk sz dp → Chain sz dp ((sz.length : Int) - 1) stk.reverse → stk.length ≤ pre.length →
    ∃ r, Ev (fun N => S_nodes_tops_3 N (topsOf sz dp).length stk.length l.length (encNodes l) l.length pre.length (encTops (topsOf sz dp)) (encTops stk)) r ∧ TopsRes l r (szAll suf sz dp)
  | [], pre, sz, dp, stk, hl, hsz, hok, hch, hsl => by
    have hlen : pre.length = l.length := by rw [hl]; simp
    refine ⟨_, Ev.succ (fun N => S_nodes_tops_3_eq N _ _ _ _ _ _ _ _) (Ev.cond_f (by simp [hlen]) ?_), rfl⟩
    have key : ((stk.length : Int) = 1) ↔ (l ≠ [] ∧ gi sz (l.length - 1) = l.length) := by
      have hrev : stk.reverse.length = stk.length := by simp
      have e0 : ((sz.length : Int) - 1).toNat = l.length - 1 := by omega
      cases hs : stk.reverse with
      | nil =>
        rw [hs] at hch hrev
        have h0 : (sz.length : Int) - 1 = -1 := hch
        have : l = [] := List.eq_nil_of_length_eq_zero (by omega)
        simp only [List.length_nil] at hrev
        constructor
        · intro h; omega
        · rintro ⟨h, _⟩; exact absurd this h
      | cons t ts =>
        rw [hs] at hch hrev
        obtain ⟨h1, h2, h3, h4⟩ := hch
        rw [e0] at h4
        have hne : l ≠ [] := by intro e; have : l.length = 0 := by rw [e]; rfl
                                omega
        simp only [List.length_cons] at hrev
        cases ts with
        | nil =>
          have h5 : (sz.length : Int) - 1 - gi sz (l.length - 1) = -1 := h4
          constructor
          · intro _; exact ⟨hne, by omega⟩
          · intro _; simp at hrev; omega
        | cons t' ts' =>
          have h5 : 0 ≤ (sz.length : Int) - 1 - gi sz (l.length - 1) := h4.1
          simp only [List.length_cons] at hrev
          constructor
          · intro _; omega
          · rintro ⟨_, h6⟩; omega
    simp only [szAll, TopsRes, topsOf_len, cond_beq]
    by_cases hk : (stk.length : Int) = 1
    · refine Ev.if_pos hk ?_
      rw [decide_eq_true (key.1 hk)]; exact Ev.some _
    · refine Ev.if_neg hk ?_
      rw [decide_eq_false (fun h => hk (key.2 h))]; exact Ev.some _
  | x :: suf, pre, sz, dp, stk, hl, hsz, hok, hch, hsl => by
    have hi : pre.length < l.length := by rw [hl]; simp
    have hx : nd l pre.length = x := by rw [hl]; exact nd_mid pre suf x
    have hl' : l = (pre ++ [x]) ++ suf := by rw [hl]; simp
    have hdp : dp.length = sz.length := hok.len
    have bad : szNext sz dp x = none → Ev (fun N => S_nodes_tops_3 N (topsOf sz dp).length stk.length l.length (encNodes l) l.length pre.length (encTops (topsOf sz dp)) (encTops stk)) (.tup [.sl (topsOf sz dp).length (encTops (topsOf sz dp)), .bool false]) →
        ∃ r, Ev (fun N => S_nodes_tops_3 N (topsOf sz dp).length stk.length l.length (encNodes l) l.length pre.length (encTops (topsOf sz dp)) (encTops stk)) r ∧ TopsRes l r (szAll (x :: suf) sz dp) := by
      intro hn h
      refine ⟨_, h, ?_⟩
      simp only [szAll, hn, TopsRes]
      exact ⟨_, _, rfl⟩
    -- the head of a round
    have head : ∀ r, (∀ (hv : 1 ≤ x.kind ∧ x.kind ≤ 19) (hc : countK x.kind ≤ stk.length), Ev (fun N => S_nodes_tops_13 N (topsOf sz dp).length (stk.length - (countK x.kind).toNat) l.length (encNodes l) l.length pre.length ((stk.length - (countK x.kind).toNat) * 3) (countK x.kind).toNat (countK x.kind).toNat ((0 : Nat) : Int) (encTops (topsOf sz dp)) (encTops stk) x.kind x.n x.a x.b x.at_ x.kind 0 0 0 (clampAt x.at_) pre.length 1 1) r) →
        (¬ (1 ≤ x.kind ∧ x.kind ≤ 19 ∧ countK x.kind ≤ stk.length) → r = .tup [.sl (topsOf sz dp).length (encTops (topsOf sz dp)), .bool false]) →
        Ev (fun N => S_nodes_tops_3 N (topsOf sz dp).length stk.length l.length (encNodes l) l.length pre.length (encTops (topsOf sz dp)) (encTops stk)) r := by
      intro r h1 h2
      refine Ev.succ (fun N => S_nodes_tops_3_eq N _ _ _ _ _ _ _ _) (Ev.cond_t (by simpa using hi) ?_)
      simp only [toNat_cast, node_0 hi, node_1 hi, node_2 hi, node_3 hi, node_4 hi, node_okT hi, hx, toI_int]
      refine Ev.cond_t (by simp) (Ev.cond_t (by simpa using hi) (Ev.cond_t rfl ?_))
      refine Ev.bind (Ev.succ (fun N => nodes_Parts N x.kind) (Ev.some _)) ?_
      simp only [cs_tup, cellAt_zero, cellAt_succ, cells_int, toI_int]
      refine Ev.cond_t rfl ?_
      have hcc := countK_cases x.kind
      by_cases hv : 1 ≤ x.kind ∧ x.kind ≤ 19
      · simp only [if_pos hv]
        refine Ev.cond_f rfl ?_
        by_cases hc : countK x.kind ≤ stk.length
        · refine Ev.cond_f (by simpa using hc) ?_
          have e1 : IntKind.wrap .i64 ((stk.length : Int) - countK x.kind) = ((stk.length - (countK x.kind).toNat : Nat) : Int) := by rw [wrap_i64 (by omega) (by omega)]; omega
          have e2 : stk.length - (stk.length - (countK x.kind).toNat) = (countK x.kind).toNat := by omega
          simp only [e1, toNat_cast, e2, Nat.sub_zero]
          have c1 : decide (((stk.length - (countK x.kind).toNat : Nat) : Int) ≤ (stk.length : Int)) = true := decide_eq_true (by omega)
          have c2 : decide ((0 : Int) ≤ ((stk.length - (countK x.kind).toNat : Nat) : Int)) = true := decide_eq_true (by omega)
          have c3 : decide ((stk.length : Int) ≤ (stk.length : Int)) = true := decide_eq_true (Int.le_refl _)
          refine Ev.cond_t c2 (Ev.cond_t c1 (Ev.cond_t c3 (Ev.cond_t c2 (Ev.cond_t c1 (Ev.cond_t c3 (Ev.cond_t c3 ?_))))))
          exact h1 hv hc
        · refine Ev.cond_t (by simpa using hc) ?_
          rw [h2 (fun h => hc h.2.2)]; exact Ev.some _
      · simp only [if_neg hv]
        refine Ev.cond_t rfl ?_
        rw [h2 (fun h => hv ⟨h.1, h.2.1⟩)]; exact Ev.some _
    -- what the next one does
    have next : ∀ s d (stk' : List Top), szNext sz dp x = some (s, d) → Chain (sz ++ [s]) (dp ++ [d]) (sz.length : Int) (stk' ++ [({ at_ := sz.length, size := s, depth := d } : Top)]).reverse → stk'.length ≤ pre.length →
        ∃ r, Ev (fun N => S_nodes_tops_3 N ((topsOf sz dp).length + 1) (stk'.length + 1) l.length (encNodes l) l.length ((pre.length + 1 : Nat) : Int) (encTops (topsOf sz dp ++ [⟨pre.length, s, d⟩])) (encTops (stk' ++ [⟨pre.length, s, d⟩]))) r ∧ TopsRes l r (szAll (x :: suf) sz dp) := by
      intro s d stk' hn hch' hsl'
      have e9 : (((sz ++ [s]).length : Nat) : Int) - 1 = sz.length := by simp
      obtain ⟨r, h1, h2⟩ := tops_loop hb suf (pre ++ [x]) (sz ++ [s]) (dp ++ [d]) (stk' ++ [⟨sz.length, s, d⟩]) hl' (by simp [hsz]) (hok.next hn) (by rw [e9]; exact hch') (by simp; omega)
      refine ⟨r, ?_, by simp only [szAll, hn]; exact h2⟩
      rw [topsOf_snoc hdp] at h1
      simpa [hsz] using h1
    have hrev : stk = stk.reverse.reverse := by simp
    rcases countK_cases x.kind with hc | hc | hc
    · -- no parts
      have hn : szNext sz dp x = if rightB x 0 0 then some (1, 1) else none := by simp [szNext, hc]
      by_cases hv : 1 ≤ x.kind ∧ x.kind ≤ 19
      · cases hr : rightB x 0 0 with
        | true =>
          have hn' : szNext sz dp x = some (1, 1) := by rw [hn, hr]; rfl
          obtain ⟨r, h1, h2⟩ := next 1 1 stk hn' (by
            have e1 : gi (sz ++ [1]) sz.length = 1 := by rw [gi_snoc, if_neg (by omega), if_pos rfl]
            have e2 : gi (dp ++ [1]) sz.length = 1 := by rw [gi_snoc, if_neg (by omega), if_pos hdp.symm]
            simp only [List.reverse_append, List.reverse_cons, List.reverse_nil, List.nil_append, List.cons_append, Chain, toNat_cast, e1, e2]
            exact ⟨by omega, (by simp only [List.length_append, List.length_singleton]; omega), trivial, hch.mono hdp 1 1⟩) hsl
          refine ⟨r, head r (fun _ _ => ?_) (fun h => absurd ⟨hv.1, hv.2, by omega⟩ h), h2⟩
          rw [hc]
          refine tops_tail hl hb _ _ (by rw [topsOf_len, hsz]) _ _ _ (by omega) 0 0 1 1 _ hv (fun h => by rw [hr] at h; cases h) (fun _ => ?_)
          simpa using h1
        | false =>
          refine bad (by rw [hn, hr]; rfl) (head _ (fun _ _ => ?_) (fun _ => rfl))
          rw [hc]
          exact tops_tail hl hb _ _ (by rw [topsOf_len, hsz]) _ _ _ (by omega) 0 0 1 1 _ hv (fun _ => rfl) (fun h => by rw [hr] at h; cases h)
      · exact bad (szNext_bad hv) (head _ (fun h => absurd h hv) (fun _ => rfl))
    · -- one part
      by_cases hv : 1 ≤ x.kind ∧ x.kind ≤ 19
      case neg => exact bad (szNext_bad hv) (head _ (fun h => absurd h hv) (fun _ => rfl))
      cases hs : stk.reverse with
      | nil =>
        rw [hs] at hch
        have h0 : (sz.length : Int) - 1 = -1 := hch
        have hl0 : stk.length = 0 := by rw [hrev, hs]; rfl
        refine bad ?_ (head _ (fun _ h => by rw [hc, hl0] at h; omega) (fun _ => rfl))
        simp only [szNext, hc]
        rw [if_pos (by omega), if_pos (by omega)]
      | cons t ts =>
        rw [hs] at hch
        obtain ⟨p1, p2, p3, p4⟩ := hch
        have hst : stk = ts.reverse ++ [t] := by rw [hrev, hs]; simp
        have hq : stk.length = ts.reverse.length + 1 := by rw [hst]; simp
        have ep : ((sz.length : Int) - 1).toNat = sz.length - 1 := by omega
        rw [ep] at p3 p4
        have bs := hok.szb (sz.length - 1) (by omega)
        have bd := hok.dpb (sz.length - 1) (by omega)
        have htp : tp stk (ts.reverse.length + 0) = t := by rw [hst]; exact tp_snoc_last _ _
        have hn : szNext sz dp x = if rightB x ((sz.length : Int) - 1) 0 then some (1 + gi sz (sz.length - 1), 1 + gi dp (sz.length - 1)) else none := by
          simp only [szNext, hc]
          rw [if_pos (by omega), if_neg (by omega), if_neg (by omega)]
        have hd1 : (if t.depth + 1 > 1 then t.depth + 1 else 1) = 1 + gi dp (sz.length - 1) := by
          rw [p3]; show (if gi dp (sz.length - 1) + 1 > 1 then gi dp (sz.length - 1) + 1 else 1) = _
          rw [if_pos (by omega)]; omega
        have ht1 : t.at_ = (sz.length : Int) - 1 := by rw [p3]
        have ht2 : t.size = gi sz (sz.length - 1) := by rw [p3]
        have ht3 : t.depth = gi dp (sz.length - 1) := by rw [p3]
        have part : ∀ r, (rightB x ((sz.length : Int) - 1) 0 = false → r = .tup [.sl (topsOf sz dp).length (encTops (topsOf sz dp)), .bool false]) →
            (rightB x ((sz.length : Int) - 1) 0 = true → Ev (fun N => S_nodes_tops_3 N ((topsOf sz dp).length + 1) (ts.reverse.length + 1) l.length (encNodes l) l.length ((pre.length + 1 : Nat) : Int) (encTops (topsOf sz dp ++ [⟨pre.length, 1 + gi sz (sz.length - 1), 1 + gi dp (sz.length - 1)⟩])) (encTops (ts.reverse ++ [⟨pre.length, 1 + gi sz (sz.length - 1), 1 + gi dp (sz.length - 1)⟩]))) r) →
            Ev (fun N => S_nodes_tops_13 N (topsOf sz dp).length (stk.length - (countK x.kind).toNat) l.length (encNodes l) l.length pre.length ((stk.length - (countK x.kind).toNat) * 3) (countK x.kind).toNat (countK x.kind).toNat ((0 : Nat) : Int) (encTops (topsOf sz dp)) (encTops stk) x.kind x.n x.a x.b x.at_ x.kind 0 0 0 (clampAt x.at_) pre.length 1 1) r := by
          intro r hf htr
          rw [hc]
          have e1 : stk.length - (1 : Int).toNat = ts.reverse.length := by rw [hq]; rfl
          rw [e1]
          refine tops_part hl hb _ _ _ ts.reverse.length 0 1 (by omega) (by rw [hq]; omega) (by omega) _ _ 0 0 _ 1 1 r (by omega) (by rw [htp, ht2, ht3]; omega) ?_
          rw [htp, if_pos rfl, if_pos rfl, hd1, ht1, ht2]
          have htake : stk.take ts.reverse.length = ts.reverse := by rw [hst]; simp
          refine tops_tail hl hb _ _ (by rw [topsOf_len, hsz]) _ _ _ (by omega) _ _ _ _ _ hv hf (fun h => ?_)
          rw [htake]; exact htr h
        cases hr : rightB x ((sz.length : Int) - 1) 0 with
        | true =>
          obtain ⟨r, h1, h2⟩ := next _ _ ts.reverse (by rw [hn, hr]; rfl) (by
            have e1 : gi (sz ++ [1 + gi sz (sz.length - 1)]) sz.length = 1 + gi sz (sz.length - 1) := by rw [gi_snoc, if_neg (by omega), if_pos rfl]
            have e2 : gi (dp ++ [1 + gi dp (sz.length - 1)]) sz.length = 1 + gi dp (sz.length - 1) := by rw [gi_snoc, if_neg (by omega), if_pos hdp.symm]
            have e3 : (sz.length : Int) - (1 + gi sz (sz.length - 1)) = (sz.length : Int) - 1 - gi sz (sz.length - 1) := by omega
            simp only [List.reverse_append, List.reverse_reverse, List.reverse_cons, List.reverse_nil, List.nil_append, List.cons_append, Chain, toNat_cast, e1, e2, e3]
            exact ⟨by omega, (by simp only [List.length_append, List.length_singleton]; omega), trivial, p4.mono hdp _ _⟩) (by omega)
          exact ⟨r, head r (fun _ _ => part r (fun h => by rw [hr] at h; cases h) (fun _ => h1)) (fun h => absurd ⟨hv.1, hv.2, by omega⟩ h), h2⟩
        | false =>
          exact bad (by rw [hn, hr]; rfl) (head _ (fun _ _ => part _ (fun _ => rfl) (fun h => by rw [hr] at h; cases h)) (fun _ => rfl))
    · -- two parts
      by_cases hv : 1 ≤ x.kind ∧ x.kind ≤ 19
      case neg => exact bad (szNext_bad hv) (head _ (fun h => absurd h hv) (fun _ => rfl))
      cases hs : stk.reverse with
      | nil =>
        rw [hs] at hch
        have h0 : (sz.length : Int) - 1 = -1 := hch
        have hl0 : stk.length = 0 := by rw [hrev, hs]; rfl
        refine bad ?_ (head _ (fun _ h => by rw [hc, hl0] at h; omega) (fun _ => rfl))
        simp only [szNext, hc]
        rw [if_pos (by omega), if_pos (by omega)]
      | cons t ts0 =>
        rw [hs] at hch
        obtain ⟨p1, p2, p3, p4⟩ := hch
        have ep : ((sz.length : Int) - 1).toNat = sz.length - 1 := by omega
        rw [ep] at p3 p4
        have bs := hok.szb (sz.length - 1) (by omega)
        have bd := hok.dpb (sz.length - 1) (by omega)
        cases ts0 with
        | nil =>
          have h0 : (sz.length : Int) - 1 - gi sz (sz.length - 1) = -1 := p4
          have hl1 : stk.length = 1 := by rw [hrev, hs]; rfl
          refine bad ?_ (head _ (fun _ h => by rw [hc, hl1] at h; omega) (fun _ => rfl))
          simp only [szNext, hc]
          rw [if_pos (by omega), if_neg (by omega), if_pos trivial, if_pos (by omega)]
        | cons u ts =>
          obtain ⟨q1, q2, q3, q4⟩ := p4
          generalize hfirst : (sz.length : Int) - 1 - gi sz (sz.length - 1) = first at q1 q2 q3 q4
          have cs := hok.szb first.toNat (by omega)
          have cd := hok.dpb first.toNat (by omega)
          have hst : stk = ts.reverse ++ [u, t] := by rw [hrev, hs]; simp
          have hq : stk.length = ts.reverse.length + 2 := by rw [hst]; simp
          have htp0 : tp stk (ts.reverse.length + 0) = u := by rw [hst]; simp [tp]
          have htp1 : tp stk (ts.reverse.length + 1) = t := by rw [hst]; simp [tp]
          have hn : szNext sz dp x = if rightB x first ((sz.length : Int) - 1) then some (1 + gi sz (sz.length - 1) + gi sz first.toNat, max (1 + gi dp (sz.length - 1)) (1 + gi dp first.toNat)) else none := by
            simp only [szNext, hc, hfirst]
            rw [if_pos (by omega), if_neg (by omega), if_pos trivial, if_neg (by omega)]
          have ht1 : t.at_ = (sz.length : Int) - 1 := by rw [p3]
          have ht2 : t.size = gi sz (sz.length - 1) := by rw [p3]
          have ht3 : t.depth = gi dp (sz.length - 1) := by rw [p3]
          have hu1 : u.at_ = first := by rw [q3]
          have hu2 : u.size = gi sz first.toNat := by rw [q3]
          have hu3 : u.depth = gi dp first.toNat := by rw [q3]
          have hd1 : (if u.depth + 1 > 1 then u.depth + 1 else 1) = u.depth + 1 := if_pos (by omega)
          have hd2 : (if t.depth + 1 > u.depth + 1 then t.depth + 1 else u.depth + 1) = max (1 + gi dp (sz.length - 1)) (1 + gi dp first.toNat) := by
            rw [ht3, hu3]; split <;> omega
          have hs2 : 1 + u.size + t.size = 1 + gi sz (sz.length - 1) + gi sz first.toNat := by omega
          have part : ∀ r, (rightB x first ((sz.length : Int) - 1) = false → r = .tup [.sl (topsOf sz dp).length (encTops (topsOf sz dp)), .bool false]) →
              (rightB x first ((sz.length : Int) - 1) = true → Ev (fun N => S_nodes_tops_3 N ((topsOf sz dp).length + 1) (ts.reverse.length + 1) l.length (encNodes l) l.length ((pre.length + 1 : Nat) : Int) (encTops (topsOf sz dp ++ [⟨pre.length, 1 + gi sz (sz.length - 1) + gi sz first.toNat, max (1 + gi dp (sz.length - 1)) (1 + gi dp first.toNat)⟩])) (encTops (ts.reverse ++ [⟨pre.length, 1 + gi sz (sz.length - 1) + gi sz first.toNat, max (1 + gi dp (sz.length - 1)) (1 + gi dp first.toNat)⟩]))) r) →
              Ev (fun N => S_nodes_tops_13 N (topsOf sz dp).length (stk.length - (countK x.kind).toNat) l.length (encNodes l) l.length pre.length ((stk.length - (countK x.kind).toNat) * 3) (countK x.kind).toNat (countK x.kind).toNat ((0 : Nat) : Int) (encTops (topsOf sz dp)) (encTops stk) x.kind x.n x.a x.b x.at_ x.kind 0 0 0 (clampAt x.at_) pre.length 1 1) r := by
            intro r hf htr
            rw [hc]
            have e1 : stk.length - (2 : Int).toNat = ts.reverse.length := by rw [hq]; rfl
            rw [e1]
            refine tops_part hl hb _ _ _ ts.reverse.length 0 2 (by omega) (by rw [hq]; omega) (by omega) _ _ 0 0 _ 1 1 r (by omega) (by rw [htp0, hu2, hu3]; omega) ?_
            refine tops_part hl hb _ _ _ ts.reverse.length 1 2 (by omega) (by rw [hq]; omega) (by omega) _ _ _ _ _ _ _ r (by rw [htp0, hu2]; omega) (by rw [htp1, ht2, ht3]; omega) ?_
            rw [htp0, htp1, if_pos rfl, if_pos rfl, if_neg (by omega), if_neg (by omega), hd1, hd2, hs2, ht1, hu1]
            have htake : stk.take ts.reverse.length = ts.reverse := by rw [hst]; simp
            refine tops_tail hl hb _ _ (by rw [topsOf_len, hsz]) _ _ _ (by omega) _ _ _ _ _ hv hf (fun h => ?_)
            rw [htake]; exact htr h
          cases hr : rightB x first ((sz.length : Int) - 1) with
          | true =>
            obtain ⟨r, h1, h2⟩ := next _ _ ts.reverse (by rw [hn, hr]; rfl) (by
              generalize hS : 1 + gi sz (sz.length - 1) + gi sz first.toNat = S
              generalize hD : max (1 + gi dp (sz.length - 1)) (1 + gi dp first.toNat) = D
              have e1 : gi (sz ++ [S]) sz.length = S := by rw [gi_snoc, if_neg (by omega), if_pos rfl]
              have e2 : gi (dp ++ [D]) sz.length = D := by rw [gi_snoc, if_neg (by omega), if_pos hdp.symm]
              have e3 : (sz.length : Int) - S = first - gi sz first.toNat := by omega
              simp only [List.reverse_append, List.reverse_reverse, List.reverse_cons, List.reverse_nil, List.nil_append, List.cons_append, Chain, toNat_cast, e1, e2, e3]
              exact ⟨by omega, (by simp only [List.length_append, List.length_singleton]; omega), trivial, q4.mono hdp _ _⟩) (by omega)
            exact ⟨r, head r (fun _ _ => part r (fun h => by rw [hr] at h; cases h) (fun _ => h1)) (fun h => absurd ⟨hv.1, hv.2, by omega⟩ h), h2⟩
          | false =>
            exact bad (by rw [hn, hr]; rfl) (head _ (fun _ _ => part _ (fun _ => rfl) (fun h => by rw [hr] at h; cases h)) (fun _ => rfl))

theorem nodes_tops {l : List Node} (hb : l.length ≤ 1000000000) : ∃ r, Ev (fun N => call cc N n_nodes_tops [.sl l.length (encNodes l)]) r ∧ TopsRes l r (szAll l [] []) := by
  obtain ⟨r, h1, h2⟩ := tops_loop hb l [] [] [] [] rfl rfl SzOk.nil rfl (Nat.le_refl _)
  exact ⟨r, Ev.succ (fun N => F_nodes_tops N _ _) h1, h2⟩

/-- What nodes.check tells. -/
theorem nodes_check {l : List Node} (hb : l.length ≤ 1000000000) : ∃ n c, Ev (fun N => call cc N n_nodes_check [.sl l.length (encNodes l)]) (.tup [.sl n c, .int .i64 (exprErr l)]) ∧
    (exprErr l = 0 → ∃ sz dp, szAll l [] [] = some (sz, dp) ∧ n = sz.length ∧ c = encTops (topsOf sz dp)) := by
  by_cases h60 : 60 < l.length
  · have he : exprErr l = 4 := by simp only [exprErr, if_pos h60]
    rw [he]
    exact ⟨0, [], Ev.succ (fun N => F_nodes_check N _ _) (Ev.cond_t (by simp; omega) (Ev.some _)), fun h => by cases h⟩
  · obtain ⟨r, h1, h2⟩ := nodes_tops hb
    cases hs : szAll l [] [] with
    | none =>
      rw [hs] at h2
      obtain ⟨n, c, rfl⟩ := h2
      have he : exprErr l = 8 := by simp only [exprErr, if_neg h60, hs]
      rw [he]
      refine ⟨0, [], Ev.succ (fun N => F_nodes_check N _ _) (Ev.cond_f (by simp; omega) (Ev.bind h1 ?_)), fun h => by cases h⟩
      simp only [cs_tup, cellAt_zero, cellAt_succ, cells_sl, cells_bool, toB_bool]
      exact Ev.cond_t rfl (Ev.cond_f rfl (Ev.some _))
    | some sd =>
      obtain ⟨sz, dp⟩ := sd
      rw [hs] at h2
      obtain ⟨k1, k2⟩ := szAll_len l _ _ _ _ SzOk.nil hs
      by_cases hr : l ≠ [] ∧ gi sz (l.length - 1) = l.length
      · have hpos : 0 < l.length := List.length_pos_iff.2 hr.1
        have hsz : sz.length = l.length := by rw [k1]; simp
        have hj : l.length - 1 < (topsOf sz dp).length := by rw [topsOf_len]; omega
        have hd : (tp (topsOf sz dp) (l.length - 1)).depth = gi dp (l.length - 1) := by rw [topsOf_tp (by omega)]
        have hrr : r = .tup [.sl l.length (encTops (topsOf sz dp)), .bool true] := by rw [h2, decide_eq_true hr, hsz]
        rw [hrr] at h1
        have e1 : IntKind.wrap .i64 ((l.length : Int) - 1) = ((l.length - 1 : Nat) : Int) := by rw [wrap_i64 (by omega) (by omega)]; omega
        have walk : ∀ v, Ev (fun N => cond (decide (gi dp (l.length - 1) > (20 : Int))) (some (V.tup [V.sl 0 [], V.int IntKind.i64 (34 : Int)])) (some (V.tup [V.sl l.length (encTops (topsOf sz dp)), V.int IntKind.i64 (0 : Int)]))) v →
            Ev (fun N => call cc N n_nodes_check [.sl l.length (encNodes l)]) v := by
          intro v hv
          refine Ev.succ (fun N => F_nodes_check N _ _) (Ev.cond_f (by simp; omega) (Ev.bind h1 ?_))
          simp only [cs_tup, cellAt_zero, cellAt_succ, cells_sl, cells_bool, toB_bool, slN_sl, slC_sl, e1, toNat_cast, top_2' hj, toI_int, hd]
          refine Ev.cond_t rfl (Ev.cond_t rfl (Ev.cond_t (by simp) (Ev.cond_t (by simp; omega) (Ev.cond_t ?_ hv))))
          simp only [okT_cons, top_2' hj]; rfl
        by_cases h20 : 20 < gi dp (l.length - 1)
        · have he : exprErr l = 34 := by simp only [exprErr, if_neg h60, hs, if_pos hr, if_pos h20]
          rw [he]
          exact ⟨0, [], walk _ (Ev.cond_t (by simpa using h20) (Ev.some _)), fun h => by cases h⟩
        · have he : exprErr l = 0 := by simp only [exprErr, if_neg h60, hs, if_pos hr, if_neg h20]
          rw [he]
          exact ⟨_, _, walk _ (Ev.cond_f (by simpa using h20) (Ev.some _)), fun _ => ⟨sz, dp, rfl, hsz.symm, rfl⟩⟩
      · have he : exprErr l = 8 := by simp only [exprErr, if_neg h60, hs, if_neg hr]
        have hrr : r = .tup [.sl sz.length (encTops (topsOf sz dp)), .bool false] := by rw [h2, decide_eq_false hr]
        rw [hrr] at h1
        rw [he]
        refine ⟨0, [], Ev.succ (fun N => F_nodes_check N _ _) (Ev.cond_f (by simp; omega) (Ev.bind h1 ?_)), fun h => by cases h⟩
        simp only [cs_tup, cellAt_zero, cellAt_succ, cells_sl, cells_bool, toB_bool]
        exact Ev.cond_t rfl (Ev.cond_f rfl (Ev.some _))

theorem nodes_Check {l : List Node} (hb : l.length ≤ 1000000000) : Ev (fun N => call cc N n_nodes_Check [.sl l.length (encNodes l)]) (.int .i64 (exprErr l)) := by
  obtain ⟨n, c, h1, _⟩ := nodes_check hb
  refine Ev.succ (fun N => F_nodes_Check N _ _) (Ev.bind h1 ?_)
  exact Ev.cond_t rfl (Ev.some _)

end Go.Pv

/- kinds, ref06 -/
namespace Go.Pv

/-- Does a kind give a truth value. -/
def givesB (k : Int) : Bool := decide (k = 6 ∨ 12 ≤ k)
theorem ref06_Gives (N : Nat) (k : Int) : call cc (N + 1) n_ref06_Gives [.int .u8 k] = some (.bool (givesB k)) := by
  rw [F_ref06_Gives]
  unfold givesB
  simp only [Bool.cond_decide, cond_beq]
  repeat' split
  all_goals (congr 2; symm; simp only [decide_eq_true_eq, decide_eq_false_iff_not]; omega)

/-- Does a node fit, by what its parts give. -/
def fitsB (k : Int) (a b : Bool) : Bool :=
  if k ≤ 4 then true else if k = 5 then !a else if k = 6 then a else if k = 16 ∨ k = 17 then a == b else if 18 ≤ k then a && b else !a && !b

def fitAt (l : List Node) (i : Nat) : Bool := fitsB (nd l i).kind (givesB (nd l (nd l i).a.toNat).kind) (givesB (nd l (nd l i).b.toNat).kind)

theorem ref06_fits {l : List Node} {i : Nat} (hi : i < l.length) (ha : 0 ≤ (nd l i).a ∧ (nd l i).a < l.length) (hb : 0 ≤ (nd l i).b ∧ (nd l i).b < l.length) :
    Ev (fun N => call cc N n_ref06_fits [.sl l.length (encNodes l), .int .i64 (i : Int)]) (.bool (fitAt l i)) := by
  have ha' : (nd l i).a.toNat < l.length := by omega
  have hb' : (nd l i).b.toNat < l.length := by omega
  refine Ev.succ (fun N => F_ref06_fits N _ _ _) ?_
  simp only [toNat_cast, Nat.add_zero, node_0 hi, node_2 hi, node_3 hi, node_okT hi, toI_int, node_0 ha', node_0 hb', node_ok0 ha', node_ok0 hb']
  refine Ev.cond_t (by simp) (Ev.cond_t (by simpa using hi) (Ev.cond_t rfl (Ev.cond_t (by simpa using ha.1) (Ev.cond_t (by simpa using ha.2) (Ev.cond_t rfl ?_)))))
  refine Ev.bind (Ev.succ (fun N => ref06_Gives N _) (Ev.some _)) (Ev.cond_t rfl ?_)
  unfold fitAt fitsB
  cases givesB (nd l (nd l i).a.toNat).kind
  · refine Ev.cond_f rfl (Ev.cond_t (by simpa using hb.1) (Ev.cond_t (by simpa using hb.2) (Ev.cond_t rfl ?_)))
    refine Ev.bind (Ev.succ (fun N => ref06_Gives N _) (Ev.some _)) (Ev.cond_t rfl ?_)
    cases givesB (nd l (nd l i).b.toNat).kind
    all_goals
      first | refine Ev.cond_f rfl ?_ | refine Ev.cond_t rfl ?_
      simp only [Bool.cond_decide, cond_beq]
      repeat' split
      all_goals first | exact Ev.some _ | (exfalso; omega)
  · refine Ev.cond_t rfl (Ev.cond_t (by simpa using hb.1) (Ev.cond_t (by simpa using hb.2) (Ev.cond_t rfl ?_)))
    refine Ev.bind (Ev.succ (fun N => ref06_Gives N _) (Ev.some _)) (Ev.cond_t rfl ?_)
    cases givesB (nd l (nd l i).b.toNat).kind
    all_goals
      first | refine Ev.cond_f rfl ?_ | refine Ev.cond_t rfl ?_
      simp only [Bool.cond_decide, cond_beq]
      repeat' split
      all_goals first | exact Ev.some _ | (exfalso; omega)

end Go.Pv

/- ref06.Wrong, Of, Want -/
namespace Go.Pv

/-- Where the parts of a node lie. -/
def PartsIn (l : List Node) : Prop := ∀ i, i < l.length → 0 ≤ (nd l i).a ∧ (nd l i).a < l.length ∧ 0 ≤ (nd l i).b ∧ (nd l i).b < l.length ∧ 1 ≤ (nd l i).kind ∧ (nd l i).kind ≤ 19 ∧
  (countK (nd l i).kind ≠ 0 → (nd l i).a < i) ∧ (countK (nd l i).kind = 2 → (nd l i).b < i)

theorem rightB_ab {x : Node} {a b : Int} (h : rightB x a b = true) : x.a = a ∧ x.b = b ∧ 1 ≤ x.kind ∧ x.kind ≤ 19 := by
  have := of_decide_eq_true h
  omega

theorem szNext_parts {sz dp : List Int} (hok : SzOk sz dp) {x : Node} {s d : Int} (hn : szNext sz dp x = some (s, d)) :
    0 ≤ x.a ∧ x.a ≤ sz.length ∧ 0 ≤ x.b ∧ x.b ≤ sz.length ∧ 1 ≤ x.kind ∧ x.kind ≤ 19 ∧ (countK x.kind ≠ 0 → x.a < sz.length) ∧ (countK x.kind = 2 → x.b < sz.length) := by
  have hcc := countK_cases x.kind
  unfold szNext at hn
  simp only at hn
  split at hn
  · split at hn
    · cases hn
    · split at hn
      · split at hn
        · cases hn
        · have a := hok.szb (sz.length - 1) (by omega)
          split at hn
          · rename_i hr; have := rightB_ab hr; omega
          · cases hn
      · split at hn
        · rename_i hr; have := rightB_ab hr; omega
        · cases hn
  · split at hn
    · rename_i hr; have := rightB_ab hr; omega
    · cases hn

theorem partsIn_of : ∀ (suf pre : List Node) (sz dp : List Int) (r : List Int × List Int), sz.length = pre.length → SzOk sz dp → szAll suf sz dp = some r →
    (∀ i, i < pre.length → 0 ≤ (nd pre i).a ∧ (nd pre i).a < (pre ++ suf).length ∧ 0 ≤ (nd pre i).b ∧ (nd pre i).b < (pre ++ suf).length ∧ 1 ≤ (nd pre i).kind ∧ (nd pre i).kind ≤ 19 ∧ (countK (nd pre i).kind ≠ 0 → (nd pre i).a < i) ∧ (countK (nd pre i).kind = 2 → (nd pre i).b < i)) → PartsIn (pre ++ suf)
  | [], pre, sz, dp, r, hsz, hok, h, hp => by simpa [PartsIn] using hp
  | x :: suf, pre, sz, dp, r, hsz, hok, h, hp => by
    simp only [szAll] at h
    cases hn : szNext sz dp x with
    | none => simp [hn] at h
    | some sd =>
      obtain ⟨s, d⟩ := sd
      simp only [hn] at h
      have hx := szNext_parts hok hn
      have e : pre ++ x :: suf = (pre ++ [x]) ++ suf := by simp
      rw [e] at hp ⊢
      refine partsIn_of suf (pre ++ [x]) _ _ r (by simp [hsz]) (hok.next hn) h (fun i hi => ?_)
      by_cases hlt : i < pre.length
      · have e2 : nd (pre ++ [x]) i = nd pre i := by simp only [nd, List.getElem?_append_left hlt]
        rw [e2]; exact hp i hlt
      · have hi' : i = pre.length := by simp at hi; omega
        subst hi'
        rw [nd_mid pre [] x]
        have hl : ((pre ++ [x]) ++ suf).length = pre.length + 1 + suf.length := by simp; omega
        rw [hl]
        omega

theorem partsIn {l : List Node} {sz dp : List Int} (h : szAll l [] [] = some (sz, dp)) : PartsIn l := by
  simpa using partsIn_of l [] [] [] (sz, dp) rfl SzOk.nil h (fun i hi => by simp at hi)

theorem exprErr_0 {l : List Node} (h : exprErr l = 0) : ∃ sz dp, szAll l [] [] = some (sz, dp) ∧ l ≠ [] ∧ l.length ≤ 60 ∧ PartsIn l := by
  unfold exprErr at h
  split at h
  · cases h
  · cases hs : szAll l [] [] with
    | none => simp [hs] at h
    | some sd =>
      obtain ⟨sz, dp⟩ := sd
      simp only [hs] at h
      split at h
      · rename_i h1 h2
        exact ⟨sz, dp, rfl, h2.1, by omega, partsIn hs⟩
      · cases h

/-- The first node from i on that does not fit (k nodes are left). -/
def wrongFrom (l : List Node) : Nat → Nat → Nat
  | 0, i => i
  | k + 1, i => if fitAt l i then wrongFrom l k (i + 1) else i
def wrong (l : List Node) : Nat := wrongFrom l l.length 0

theorem wrongFrom_le (l : List Node) : ∀ k i, i ≤ wrongFrom l k i ∧ wrongFrom l k i ≤ i + k
  | 0, i => ⟨Nat.le_refl _, Nat.le_refl _⟩
  | k + 1, i => by
    have := wrongFrom_le l k (i + 1)
    simp only [wrongFrom]
    split <;> omega

theorem Wrong_loop {l : List Node} (hb : l.length ≤ 1000000000) (hp : PartsIn l) : ∀ k i, i + k = l.length → Ev (fun N => S_ref06_Wrong_2 N l.length (encNodes l) (i : Int)) (.int .i64 (wrongFrom l k i : Nat))
  | 0, i, h => by
    refine Ev.succ (fun N => S_ref06_Wrong_2_eq N _ _ _) (Ev.cond_f (by simp; omega) ?_)
    have e : l.length = i := by omega
    simp only [wrongFrom, e]; exact Ev.some _
  | k + 1, i, h => by
    have hi : i < l.length := by omega
    obtain ⟨a1, a2, b1, b2, _⟩ := hp i hi
    refine Ev.succ (fun N => S_ref06_Wrong_2_eq N _ _ _) (Ev.cond_t (by simpa using hi) (Ev.bind (ref06_fits hi ⟨a1, a2⟩ ⟨b1, b2⟩) (Ev.cond_t rfl ?_)))
    simp only [cells_bool, cellAt_zero, toB_bool, wrongFrom]
    cases hf : fitAt l i with
    | true =>
      refine Ev.cond_t rfl ?_
      rw [wrap_i64 (by omega) (by omega)]
      have := Wrong_loop hb hp k (i + 1) (by omega)
      simpa using this
    | false => exact Ev.cond_f rfl (Ev.some _)

theorem ref06_Wrong {l : List Node} (hb : l.length ≤ 1000000000) (hp : PartsIn l) : Ev (fun N => call cc N n_ref06_Wrong [.sl l.length (encNodes l)]) (.int .i64 (wrong l : Nat)) :=
  Ev.succ (fun N => F_ref06_Wrong N _ _) (Wrong_loop hb hp l.length 0 (by omega))

/-- What Of returns: a truth value, a place, an error. -/
def ofRes (l : List Node) : Bool × Int × Int :=
  if exprErr l ≠ 0 then (false, 0, exprErr l)
  else if wrong l < l.length then (false, (wrong l : Nat), 42)
  else (givesB (nd l (l.length - 1)).kind, (l.length - 1 : Nat), 0)

theorem ref06_Of {l : List Node} (hb : l.length ≤ 1000000000) : Ev (fun N => call cc N n_ref06_Of [.sl l.length (encNodes l)]) (.tup [.bool (ofRes l).1, .int .i64 (ofRes l).2.1, .int .i64 (ofRes l).2.2]) := by
  refine Ev.succ (fun N => F_ref06_Of N _ _) (Ev.bind (ref04_Check hb) (Ev.cond_t rfl ?_))
  simp only [cells_int, cellAt_zero, toI_int, cond_bne]
  by_cases he : exprErr l = 0
  · refine Ev.if_pos he ?_
    obtain ⟨sz, dp, hs, hne, h60, hp⟩ := exprErr_0 he
    have hpos : 0 < l.length := List.length_pos_iff.2 hne
    refine Ev.bind (ref06_Wrong hb hp) (Ev.cond_t rfl ?_)
    simp only [cells_int, cellAt_zero, toI_int]
    by_cases hw : wrong l < l.length
    · refine Ev.cond_t (by simpa using hw) ?_
      simp only [ofRes, he, ne_eq, not_true, if_false, if_pos hw]; exact Ev.some _
    · refine Ev.cond_f (by simpa using hw) ?_
      have e1 : IntKind.wrap .i64 ((l.length : Int) - 1) = ((l.length - 1 : Nat) : Int) := by rw [wrap_i64 (by omega) (by omega)]; omega
      have hj : l.length - 1 < l.length := by omega
      simp only [e1, toNat_cast, Nat.add_zero, node_0 hj, node_ok0 hj, toI_int]
      refine Ev.cond_t (by simp) (Ev.cond_t (by simp; omega) (Ev.cond_t rfl ?_))
      refine Ev.bind (Ev.succ (fun N => ref06_Gives N _) (Ev.some _)) (Ev.cond_t rfl ?_)
      simp only [cells_bool, cellAt_zero, toB_bool, ofRes, he, ne_eq, not_true, if_false, if_neg hw]
      cases givesB (nd l (l.length - 1)).kind
      · exact Ev.cond_f rfl (Ev.some _)
      · exact Ev.cond_t rfl (Ev.some _)
  · refine Ev.if_neg he (Ev.bind (ref04_Check hb) (Ev.cond_t rfl ?_))
    simp only [ofRes, ne_eq, he, not_false_eq_true, if_true]; exact Ev.some _

/-- What Want returns: a place and an error. -/
def wantRes (l : List Node) (truth : Bool) : Int × Int :=
  if (ofRes l).2.2 = 0 ∧ (ofRes l).1 ≠ truth then ((ofRes l).2.1, 42) else ((ofRes l).2.1, (ofRes l).2.2)

theorem ref06_Want {l : List Node} (hb : l.length ≤ 1000000000) (t : Bool) : Ev (fun N => call cc N n_ref06_Want [.sl l.length (encNodes l), .bool t]) (.tup [.int .i64 (wantRes l t).1, .int .i64 (wantRes l t).2]) := by
  refine Ev.succ (fun N => F_ref06_Want N _ _ _) (Ev.bind (ref06_Of hb) (Ev.cond_t rfl ?_))
  simp only [cs_tup, cells_bool, cells_int, cellAt_zero, cellAt_succ, toB_bool, toI_int, cond_beq, wantRes]
  cases h1 : (ofRes l).1 <;> cases t <;> simp only [cond_true, cond_false] <;> by_cases h2 : (ofRes l).2.2 = 0 <;> simp [h2] <;> exact Ev.some _

end Go.Pv

/- kinds.told, Of, want, Number, Truth -/
namespace Go.Pv

def bools (l : List Bool) : List V := l.map V.bool
def gb (l : List Bool) (i : Nat) : Bool := l[i]?.getD false
theorem bools_at {l : List Bool} {j : Nat} (h : j < l.length) : cellAt (bools l) j = .bool (gb l j) := by simp [bools, cellAt, gb, h]
theorem bools_okT {l : List Bool} {j : Nat} (h : j < l.length) : okT [.b] (bools l) j = true := by simp only [okT_cons, bools_at h, isCK_bool, okT_nil, Bool.and_self]
theorem bools_snoc (l : List Bool) (x : Bool) : bools l ++ [.bool x] = bools (l ++ [x]) := by simp [bools]

def gsTo (l : List Node) (i : Nat) : List Bool := (List.range i).map fun j => givesB (nd l j).kind
theorem gsTo_len (l : List Node) (i : Nat) : (gsTo l i).length = i := by simp [gsTo]
theorem gsTo_at {l : List Node} {i j : Nat} (h : j < i) : gb (gsTo l i) j = givesB (nd l j).kind := by simp [gb, gsTo, h]
theorem gsTo_snoc (l : List Node) (i : Nat) : gsTo l i ++ [givesB (nd l i).kind] = gsTo l (i + 1) := by simp [gsTo, List.range_succ]

theorem told_1_step {t : Bool} {gs : List Bool} {ps : List Int} {j : Nat} (hj : j < ps.length) (hp : 0 ≤ gi ps j ∧ gi ps j < gs.length) (hb : ps.length ≤ 1000) (r : V)
    (hne : gb gs (gi ps j).toNat ≠ t → r = .bool false)
    (h : gb gs (gi ps j).toNat = t → Ev (fun N => S_kinds_told_1_2 N t [.sl gs.length (bools gs)] 0 ps.length (ints ps) ps.length ((j + 1 : Nat) : Int)) r) :
    Ev (fun N => S_kinds_told_1_2 N t [.sl gs.length (bools gs)] 0 ps.length (ints ps) ps.length (j : Int)) r := by
  have hg : (gi ps j).toNat < gs.length := by omega
  refine Ev.succ (fun N => S_kinds_told_1_2_eq N _ _ _ _ _ _ _) ?_
  simp only [toNat_cast, Nat.mul_one, ints_at hj, ints_okT hj, toI_int, cellAt_zero, slN_sl, slC_sl, bools_at hg, bools_okT hg, toB_bool]
  refine Ev.cond_t (by simpa using hj) (Ev.cond_t (by simp) (Ev.cond_t (by simpa using hj) (Ev.cond_t rfl (Ev.cond_t rfl (Ev.cond_t (by simpa using hp.1) (Ev.cond_t (by simpa using hp.2) (Ev.cond_t rfl ?_)))))))
  have e1 : IntKind.wrap .i64 ((j : Int) + 1) = ((j + 1 : Nat) : Int) := by rw [wrap_i64 (by omega) (by omega)]; simp
  rw [e1]
  cases hgb : gb gs (gi ps j).toNat <;> cases t
  · exact Ev.cond_f rfl (Ev.cond_f rfl (h hgb))
  · refine Ev.cond_f rfl (Ev.cond_t rfl ?_); rw [hne (by rw [hgb]; simp)]; exact Ev.some _
  · refine Ev.cond_t rfl (Ev.cond_f rfl ?_); rw [hne (by rw [hgb]; simp)]; exact Ev.some _
  · exact Ev.cond_t rfl (Ev.cond_t rfl (h hgb))

theorem told_1_end (t : Bool) (gs : List Bool) (ps : List Int) : Ev (fun N => S_kinds_told_1_2 N t [.sl gs.length (bools gs)] 0 ps.length (ints ps) ps.length (ps.length : Int)) (.bool true) :=
  Ev.succ (fun N => S_kinds_told_1_2_eq N _ _ _ _ _ _ _) (Ev.cond_f (by simp) (Ev.some _))

theorem told_1_one (t : Bool) (gs : List Bool) (p : Int) (hp : 0 ≤ p ∧ p < gs.length) :
    Ev (fun N => call cc N n_kinds_told_1 [.bool t, .sl 1 [.int .i64 p], .rop [.sl gs.length (bools gs)] 0]) (.bool (gb gs p.toNat == t)) := by
  refine Ev.succ (fun N => F_kinds_told_1 N _ _ _ _ _) ?_
  refine told_1_step (ps := [p]) (j := 0) (by simp) hp (by simp) _ (fun h => ?_) (fun h => ?_)
  · have h : gb gs p.toNat ≠ t := h
    rw [beq_eq_false_iff_ne.2 h]
  · have h : gb gs p.toNat = t := h
    rw [h, beq_self_eq_true]; exact told_1_end t gs [p]

theorem told_1_two (t : Bool) (gs : List Bool) (p q : Int) (hp : 0 ≤ p ∧ p < gs.length) (hq : 0 ≤ q ∧ q < gs.length) :
    Ev (fun N => call cc N n_kinds_told_1 [.bool t, .sl 2 [.int .i64 p, .int .i64 q], .rop [.sl gs.length (bools gs)] 0]) (.bool (gb gs p.toNat == t && gb gs q.toNat == t)) := by
  refine Ev.succ (fun N => F_kinds_told_1 N _ _ _ _ _) ?_
  refine told_1_step (ps := [p, q]) (j := 0) (by simp) hp (by simp) _ (fun h => ?_) (fun h => ?_)
  · have h : gb gs p.toNat ≠ t := h
    rw [beq_eq_false_iff_ne.2 h]; rfl
  · have h : gb gs p.toNat = t := h
    rw [h, beq_self_eq_true, Bool.true_and]
    refine told_1_step (ps := [p, q]) (j := 1) (by simp) hq (by simp) _ (fun h => ?_) (fun h => ?_)
    · have h : gb gs q.toNat ≠ t := h
      rw [beq_eq_false_iff_ne.2 h]
    · have h : gb gs q.toNat = t := h
      rw [h, beq_self_eq_true]; exact told_1_end t gs [p, q]

def toldRes (l : List Node) (w : Nat) : V := if w < l.length then .tup [.sl 0 [], .int .i64 (w : Nat)] else .tup [.sl l.length (bools (gsTo l l.length)), .int .i64 (l.length : Nat)]

theorem told_loop {l : List Node} (hb : l.length ≤ 1000000000) (hp : PartsIn l) : ∀ k i, i + k = l.length →
    Ev (fun N => S_kinds_told_4 N l.length (encNodes l) l.length (encNodes l) l.length (i : Int) i (bools (gsTo l i))) (toldRes l (wrongFrom l k i))
  | 0, i, h => by
    have hil : i = l.length := by omega
    refine Ev.succ (fun N => S_kinds_told_4_eq N _ _ _ _ _ _ _ _) (Ev.cond_f (by simp; omega) ?_)
    simp only [wrongFrom, toldRes, hil, Nat.lt_irrefl, if_false]; exact Ev.some _
  | k + 1, i, h => by
    have hi : i < l.length := by omega
    obtain ⟨a1, a2, b1, b2, k1, k2, a3, b3⟩ := hp i hi
    have IH := told_loop hb hp k (i + 1) (by omega)
    have e1 : IntKind.wrap .i64 ((i : Int) + 1) = ((i + 1 : Nat) : Int) := by rw [wrap_i64 (by omega) (by omega)]; simp
    have glen := gsTo_len l i
    have good : fitAt l i = true → ∀ b, b = givesB (nd l i).kind → Ev (fun N => cond (decide ((i + 1) ≤ bound)) (S_kinds_told_4 N l.length (encNodes l) l.length (encNodes l) l.length (IntKind.wrap IntKind.i64 ((i : Int) + 1)) (i + 1) (bools (gsTo l i) ++ [.bool b])) none) (toldRes l (wrongFrom l (k + 1) i)) := by
      intro hf b hbb
      refine Ev.cond_t (le_bound (by omega)) ?_
      rw [e1, hbb, bools_snoc, gsTo_snoc]
      simp only [wrongFrom, hf, if_true]; exact IH
    have badr : fitAt l i = false → toldRes l (wrongFrom l (k + 1) i) = .tup [.sl 0 [], .int .i64 (i : Int)] := by
      intro hf
      simp [wrongFrom, hf, toldRes, hi]
    have one := fun t (hc : countK (nd l i).kind ≠ 0) => told_1_one t (gsTo l i) (nd l i).a ⟨a1, by rw [glen]; exact a3 hc⟩
    have two := fun t (hc : countK (nd l i).kind = 2) => told_1_two t (gsTo l i) (nd l i).a (nd l i).b ⟨a1, by rw [glen]; exact a3 (by omega)⟩ ⟨b1, by rw [glen]; exact b3 hc⟩
    have ga : countK (nd l i).kind ≠ 0 → gb (gsTo l i) (nd l i).a.toNat = givesB (nd l (nd l i).a.toNat).kind := fun hc => gsTo_at (by have := a3 hc; omega)
    have gbb : countK (nd l i).kind = 2 → gb (gsTo l i) (nd l i).b.toNat = givesB (nd l (nd l i).b.toNat).kind := fun hc => gsTo_at (by have := b3 hc; omega)
    rw [glen] at one two
    refine Ev.succ (fun N => S_kinds_told_4_eq N _ _ _ _ _ _ _ _) ?_
    simp only [toNat_cast, node_0 hi, node_2 hi, node_3 hi, node_okT hi, toI_int]
    refine Ev.cond_t (by simpa using hi) (Ev.cond_t (by simp) (Ev.cond_t (by simpa using hi) (Ev.cond_t rfl ?_)))
    generalize hA : givesB (nd l (nd l i).a.toNat).kind = A at ga
    generalize hB : givesB (nd l (nd l i).b.toNat).kind = B at gbb
    have hfit : fitAt l i = fitsB (nd l i).kind A B := by rw [fitAt, hA, hB]
    generalize hK : (nd l i).kind = K at *
    by_cases c4 : K ≤ 4
    · refine Ev.cond_t (by simpa using c4) ?_
      exact good (by rw [hfit]; simp [fitsB, c4]) _ (by simp [givesB]; omega)
    · refine Ev.cond_f (by simpa using c4) ?_
      have hc0 : countK K ≠ 0 := by unfold countK; rw [if_neg c4]; split <;> omega
      by_cases c5 : K = 5
      · refine Ev.cond_t (by simpa using c5) (Ev.bind (one false hc0) (Ev.cond_t rfl ?_))
        simp only [cells_bool, cellAt_zero, toB_bool, ga hc0]
        cases A
        · exact Ev.cond_t rfl (good (by rw [hfit]; simp [fitsB, c5]) _ (by simp [givesB]; omega))
        · refine Ev.cond_f rfl ?_; rw [badr (by rw [hfit]; simp [fitsB, c5])]; exact Ev.some _
      · refine Ev.cond_f (by simpa using c5) ?_
        by_cases c6 : K = 6
        · refine Ev.cond_t (by simpa using c6) (Ev.bind (one true hc0) (Ev.cond_t rfl ?_))
          simp only [cells_bool, cellAt_zero, toB_bool, ga hc0]
          cases A
          · refine Ev.cond_f rfl ?_; rw [badr (by rw [hfit]; simp [fitsB, c6])]; exact Ev.some _
          · exact Ev.cond_t rfl (good (by rw [hfit]; simp [fitsB, c6]) _ (by simp [givesB, c6]))
        · refine Ev.cond_f (by simpa using c6) ?_
          have hc2 : countK K = 2 := by unfold countK; rw [if_neg c4, if_neg (by omega)]
          have two0 := two false hc2
          have two1 := two true hc2
          simp only [ga hc0, gbb hc2] at two0 two1
          by_cases c11 : K ≤ 11
          · have hf : fitsB K A B = (!A && !B) := by simp only [fitsB, if_neg c4, if_neg c5, if_neg c6]; rw [if_neg (by omega), if_neg (by omega)]
            refine Ev.cond_t (by simpa using c11) (Ev.bind two0 (Ev.cond_t rfl ?_))
            simp only [cells_bool, cellAt_zero, toB_bool]
            cases A <;> cases B
            · exact Ev.cond_t rfl (good (by rw [hfit, hf]; rfl) _ (by simp [givesB]; omega))
            all_goals (refine Ev.cond_f rfl ?_; rw [badr (by rw [hfit, hf]; rfl)]; exact Ev.some _)
          · refine Ev.cond_f (by simpa using c11) ?_
            have hg : true = givesB K := by simp [givesB]; omega
            by_cases c15 : K ≤ 15
            · have hf : fitsB K A B = (!A && !B) := by simp only [fitsB, if_neg c4, if_neg c5, if_neg c6]; rw [if_neg (by omega), if_neg (by omega)]
              refine Ev.cond_t (by simpa using c15) (Ev.bind two0 (Ev.cond_t rfl ?_))
              simp only [cells_bool, cellAt_zero, toB_bool]
              cases A <;> cases B
              · exact Ev.cond_t rfl (good (by rw [hfit, hf]; rfl) _ hg)
              all_goals (refine Ev.cond_f rfl ?_; rw [badr (by rw [hfit, hf]; rfl)]; exact Ev.some _)
            · refine Ev.cond_f (by simpa using c15) ?_
              by_cases c17 : K ≤ 17
              · have hf : fitsB K A B = (A == B) := by simp only [fitsB, if_neg c4, if_neg c5, if_neg c6]; rw [if_pos (by omega)]
                refine Ev.cond_t (by simpa using c17) (Ev.bind two0 (Ev.cond_t rfl ?_))
                simp only [cells_bool, cellAt_zero, toB_bool]
                cases A <;> cases B
                · exact Ev.cond_t rfl (good (by rw [hfit, hf]; rfl) _ hg)
                · refine Ev.cond_f rfl (Ev.bind two1 (Ev.cond_t rfl (Ev.cond_f rfl ?_))); rw [badr (by rw [hfit, hf]; rfl)]; exact Ev.some _
                · refine Ev.cond_f rfl (Ev.bind two1 (Ev.cond_t rfl (Ev.cond_f rfl ?_))); rw [badr (by rw [hfit, hf]; rfl)]; exact Ev.some _
                · exact Ev.cond_f rfl (Ev.bind two1 (Ev.cond_t rfl (Ev.cond_t rfl (good (by rw [hfit, hf]; rfl) _ hg))))
              · have hf : fitsB K A B = (A && B) := by simp only [fitsB, if_neg c4, if_neg c5, if_neg c6]; rw [if_neg (by omega), if_pos (by omega)]
                refine Ev.cond_f (by simpa using c17) (Ev.bind two1 (Ev.cond_t rfl ?_))
                simp only [cells_bool, cellAt_zero, toB_bool]
                cases A <;> cases B
                · refine Ev.cond_f rfl ?_; rw [badr (by rw [hfit, hf]; rfl)]; exact Ev.some _
                · refine Ev.cond_f rfl ?_; rw [badr (by rw [hfit, hf]; rfl)]; exact Ev.some _
                · refine Ev.cond_f rfl ?_; rw [badr (by rw [hfit, hf]; rfl)]; exact Ev.some _
                · exact Ev.cond_t rfl (good (by rw [hfit, hf]; rfl) _ hg)

theorem kinds_told {l : List Node} (hb : l.length ≤ 1000000000) (hne : l ≠ []) (hp : PartsIn l) : Ev (fun N => call cc N n_kinds_told [.sl l.length (encNodes l)]) (toldRes l (wrong l)) := by
  refine Ev.succ (fun N => F_kinds_told N _ _) ?_
  have := told_loop hb hp l.length 0 (by omega)
  exact this

theorem kinds_Of {l : List Node} (hb : l.length ≤ 1000000000) : Ev (fun N => call cc N n_kinds_Of [.sl l.length (encNodes l)]) (.tup [.bool (ofRes l).1, .int .i64 (ofRes l).2.1, .int .i64 (ofRes l).2.2]) := by
  refine Ev.succ (fun N => F_kinds_Of N _ _) (Ev.bind (nodes_Check hb) (Ev.cond_t rfl ?_))
  simp only [cells_int, cellAt_zero, toI_int, cond_bne]
  by_cases he : exprErr l = 0
  · refine Ev.if_pos he ?_
    obtain ⟨sz, dp, hs, hne, h60, hp⟩ := exprErr_0 he
    have hpos : 0 < l.length := List.length_pos_iff.2 hne
    by_cases hw : wrong l < l.length
    · refine Ev.bind (kinds_told hb hne hp) ?_
      simp only [toldRes, if_pos hw, cs_tup, cellAt_succ, cellAt_zero, cells_int, toI_int]
      refine Ev.cond_t rfl (Ev.cond_t (by simpa using hw) ?_)
      simp only [ofRes, he, ne_eq, not_true, if_false, if_pos hw]; exact Ev.some _
    · refine Ev.bind (kinds_told hb hne hp) ?_
      have e1 : IntKind.wrap .i64 ((l.length : Int) - 1) = ((l.length - 1 : Nat) : Int) := by rw [wrap_i64 (by omega) (by omega)]; omega
      have hj : l.length - 1 < (gsTo l l.length).length := by rw [gsTo_len]; omega
      have hg : gb (gsTo l l.length) (l.length - 1) = givesB (nd l (l.length - 1)).kind := gsTo_at (by omega)
      simp only [toldRes, if_neg hw, cs_tup, cellAt_succ, cellAt_zero, cells_int, cells_sl, slN_sl, slC_sl, toI_int, e1, toNat_cast, Nat.mul_one, bools_at hj, bools_okT hj, toB_bool, hg]
      refine Ev.cond_t rfl (Ev.cond_f (by simp) (Ev.cond_t (by simp) (Ev.cond_t (by simp; omega) (Ev.cond_t rfl ?_))))
      simp only [ofRes, he, ne_eq, not_true, if_false, if_neg hw]
      cases givesB (nd l (l.length - 1)).kind
      · exact Ev.cond_f rfl (Ev.some _)
      · exact Ev.cond_t rfl (Ev.some _)
  · refine Ev.if_neg he ?_
    simp only [ofRes, ne_eq, he, not_false_eq_true, if_true]; exact Ev.some _

theorem kinds_want {l : List Node} (hb : l.length ≤ 1000000000) (t : Bool) : Ev (fun N => call cc N n_kinds_want [.sl l.length (encNodes l), .bool t]) (.tup [.int .i64 (wantRes l t).1, .int .i64 (wantRes l t).2]) := by
  refine Ev.succ (fun N => F_kinds_want N _ _ _) (Ev.bind (kinds_Of hb) (Ev.cond_t rfl ?_))
  simp only [cs_tup, cells_bool, cells_int, cellAt_zero, cellAt_succ, toB_bool, toI_int, cond_beq, wantRes]
  cases h1 : (ofRes l).1 <;> cases t <;> simp only [cond_true, cond_false] <;> by_cases h2 : (ofRes l).2.2 = 0 <;> simp [h2] <;> exact Ev.some _

theorem kinds_Number {l : List Node} (hb : l.length ≤ 1000000000) : Ev (fun N => call cc N n_kinds_Number [.sl l.length (encNodes l)]) (.tup [.int .i64 (wantRes l false).1, .int .i64 (wantRes l false).2]) :=
  Ev.succ (fun N => F_kinds_Number N _ _) (Ev.bind (kinds_want hb false) (Ev.cond_t rfl (Ev.some _)))
theorem kinds_Truth {l : List Node} (hb : l.length ≤ 1000000000) : Ev (fun N => call cc N n_kinds_Truth [.sl l.length (encNodes l)]) (.tup [.int .i64 (wantRes l true).1, .int .i64 (wantRes l true).2]) :=
  Ev.succ (fun N => F_kinds_Truth N _ _) (Ev.bind (kinds_want hb true) (Ev.cond_t rfl (Ev.some _)))

end Go.Pv

/- clauses and ref08: sources, windows -/
namespace Go.Pv

theorem eraseDups_le : ∀ (n : Nat) (l : List Int), l.length ≤ n → l.eraseDups.length ≤ l.length
  | _, [], _ => by simp
  | 0, a :: l, h => by simp at h
  | n + 1, a :: l, h => by
    rw [List.eraseDups_cons]
    have h1 := List.length_filter_le (fun b => !b == a) l
    have h2 := eraseDups_le n (l.filter fun b => !b == a) (by simp at h; omega)
    simp only [List.length_cons]; omega

theorem eraseDups_lt : ∀ (n : Nat) (l : List Int), l.length ≤ n → (l.eraseDups.length < l.length ↔ ¬ l.Nodup)
  | _, [], _ => by simp
  | 0, a :: l, h => by simp at h
  | n + 1, a :: l, h => by
    rw [List.eraseDups_cons, List.nodup_cons]
    simp only [List.length_cons] at h ⊢
    by_cases hm : a ∈ l
    · have h1 : (l.filter fun b => !b == a).length < l.length := by
        rw [List.length_filter_lt_length_iff_exists]
        exact ⟨a, hm, by simp⟩
      have h2 := eraseDups_le l.length (l.filter fun b => !b == a) (by omega)
      constructor
      · intro _ h3; exact h3.1 hm
      · intro _; omega
    · have h1 : (l.filter fun b => !b == a) = l := by
        rw [List.filter_eq_self]
        intro b hb
        have : b ≠ a := fun e => hm (e ▸ hb)
        simp [this]
      rw [h1]
      have := eraseDups_lt n l (by omega)
      constructor
      · intro h2 h3; exact this.1 (by omega) h3.2
      · intro h2
        have := this.2 (fun h3 => h2 ⟨hm, h3⟩)
        omega

def outB (x : Int) : Bool := decide (x < 0 ∨ 4 ≤ x)
/-- The error of a list of sources. -/
def srcErr (l : List Int) (join : Bool) : Int :=
  if 4 < l.length then 4 else if l.length = 0 then 8 else if join = true ∧ l.length ≠ 2 then 8 else if l.any outB then 8 else if l.Nodup then 0 else 43

theorem any_from (l : List Int) (i : Nat) (h : i < l.length) : (l.drop i).any outB = (outB (gi l i) || (l.drop (i + 1)).any outB) := by
  rw [List.drop_eq_getElem_cons h, List.any_cons]
  simp [gi, h]

theorem clauses_Sources_1 (N : Nat) (x : Int) : call cc (N + 1) n_clauses_Sources_1 [.int .i64 x] = some (.bool (outB x)) := by
  rw [F_clauses_Sources_1]
  unfold outB
  simp only [Bool.cond_decide]
  repeat' split
  all_goals (congr 2; symm; simp only [decide_eq_true_eq, decide_eq_false_iff_not]; omega)

theorem IndexFunc_loop {l : List Int} (hb : l.length ≤ 1000000000) : ∀ k i, i + k = l.length → ∃ r : Int, (decide (0 ≤ r) = (l.drop i).any outB) ∧ Ev (fun N => S_slices_IndexFunc_int_int_a_2 N l.length (ints l) l.length (i : Int)) (.int .i64 r)
  | 0, i, h => by
    refine ⟨-1, ?_, Ev.succ (fun N => S_slices_IndexFunc_int_int_a_2_eq N _ _ _ _) (Ev.cond_f (by simp; omega) (Ev.some _))⟩
    rw [List.drop_eq_nil_of_le (by omega)]; rfl
  | k + 1, i, h => by
    have hi : i < l.length := by omega
    have step : ∀ r, Ev (fun N => cond (outB (gi l i)) (some (V.int IntKind.i64 (i : Int))) (S_slices_IndexFunc_int_int_a_2 N l.length (ints l) l.length ((i + 1 : Nat) : Int))) r → Ev (fun N => S_slices_IndexFunc_int_int_a_2 N l.length (ints l) l.length (i : Int)) r := by
      intro r hr
      refine Ev.succ (fun N => S_slices_IndexFunc_int_int_a_2_eq N _ _ _ _) ?_
      simp only [toNat_cast, Nat.mul_one, ints_at hi, ints_okT hi, toI_int]
      refine Ev.cond_t (by simpa using hi) (Ev.cond_t (by simp) (Ev.cond_t (by simpa using hi) (Ev.cond_t rfl ?_)))
      refine Ev.bind (Ev.succ (fun N => clauses_Sources_1 N _) (Ev.some _)) (Ev.cond_t rfl ?_)
      have e1 : IntKind.wrap .i64 ((i : Int) + 1) = ((i + 1 : Nat) : Int) := by rw [wrap_i64 (by omega) (by omega)]; simp
      rw [e1]; exact hr
    rw [any_from l i hi]
    cases ho : outB (gi l i) with
    | true =>
      refine ⟨i, by simp, step _ ?_⟩
      rw [ho]; exact Ev.some _
    | false =>
      obtain ⟨r, h1, h2⟩ := IndexFunc_loop hb k (i + 1) (by omega)
      refine ⟨r, by simpa using h1, step _ ?_⟩
      rw [ho]; exact h2

theorem ContainsFunc_out {l : List Int} (hb : l.length ≤ 1000000000) : Ev (fun N => call cc N n_slices_ContainsFunc_int_int [.sl l.length (ints l), .fn n_clauses_Sources_1 [] []]) (.bool (l.any outB)) := by
  obtain ⟨r, h1, h2⟩ := IndexFunc_loop hb l.length 0 (by omega)
  refine Ev.succ (fun N => F_slices_ContainsFunc_int_int_a N _ _) (Ev.bind (Ev.succ (fun N => F_slices_IndexFunc_int_int_a N _ _) h2) (Ev.cond_t rfl ?_))
  simp only [List.drop_zero] at h1
  simp only [cells_int, cellAt_zero, toI_int]
  rw [← h1]
  by_cases hr : 0 ≤ r
  · refine Ev.cond_t (by simpa using hr) ?_; rw [decide_eq_true hr]; exact Ev.some _
  · refine Ev.cond_f (by simpa using hr) ?_; rw [decide_eq_false hr]; exact Ev.some _

theorem ints_toI (l : List Int) : (ints l).map V.toI = l := by simp [ints, Function.comp_def]

theorem clauses_Sources {l : List Int} (hb : l.length ≤ 1000000000) (j : Bool) : Ev (fun N => call cc N n_clauses_Sources [.sl l.length (ints l), .bool j]) (.int .i64 (srcErr l j)) := by
  refine Ev.succ (fun N => F_clauses_Sources N _ _ _) ?_
  simp only [ints_toI, cond_beq, cond_bne]
  by_cases h4 : 4 < l.length
  · refine Ev.cond_t (by simp; omega) ?_; simp only [srcErr, if_pos h4]; exact Ev.some _
  · refine Ev.cond_f (by simp; omega) ?_
    by_cases h0 : l.length = 0
    · refine Ev.if_pos (by omega) ?_; simp only [srcErr, if_neg h4, if_pos h0]; exact Ev.some _
    · refine Ev.if_neg (by omega) ?_
      have tail : (¬ (j = true ∧ l.length ≠ 2)) → ∀ f : Nat → V → Option V, (∀ N v, f N v = cond (okRes [(false, [CK.b])] v) (cond (V.toB (cellAt (V.cells v) 0)) (some (V.int IntKind.i64 (8 : Int))) ((extFn n_clauses_distinct_int [V.sl l.length (ints l)]).bind fun v4 => cond (okRes [(false, [CK.i IntKind.i64])] v4) (cond (decide ((V.toI (cellAt (V.cells v4) 0)) < ((l.length : Nat) : Int))) (some (V.int IntKind.i64 (43 : Int))) (some (V.int IntKind.i64 (0 : Int)))) none)) none) →
          Ev (fun N => (call cc N n_slices_ContainsFunc_int_int [.sl l.length (ints l), .fn n_clauses_Sources_1 [] []]).bind (f N)) (.int .i64 (srcErr l j)) := by
        intro hj f hf
        refine Ev.bind (ContainsFunc_out hb) ?_
        simp only [hf, cells_bool, cellAt_zero, toB_bool]
        refine Ev.cond_t rfl ?_
        simp only [srcErr, if_neg h4, if_neg h0, if_neg hj]
        cases ha : l.any outB with
        | true => exact Ev.cond_t rfl (Ev.some _)
        | false =>
          have hx := distinct_ext (l := l) (by omega) (fun x hx => by
            have := List.any_eq_false.1 ha x hx
            unfold outB at this
            simp only [decide_eq_true_eq] at this
            omega)
          simp only [hx, Option.bind_some, cells_int, cellAt_zero, toI_int]
          refine Ev.cond_f rfl ?_
          have hd := eraseDups_lt l.length l (Nat.le_refl _)
          by_cases hn : l.Nodup
          · refine Ev.cond_t rfl (Ev.cond_f (decide_eq_false (fun h => by have h' : ((l.eraseDups.length : Nat) : Int) < (l.length : Nat) := h; exact hd.1 (by omega) hn)) ?_)
            simp only [if_pos hn]; exact Ev.some _
          · refine Ev.cond_t rfl (Ev.cond_t (decide_eq_true (show ((l.eraseDups.length : Nat) : Int) < (l.length : Nat) by have := hd.2 hn; omega)) ?_)
            simp only [if_neg hn]; exact Ev.some _
      cases j with
      | true =>
        refine Ev.cond_t rfl ?_
        by_cases h2 : (l.length : Int) = 2
        · refine Ev.if_pos h2 ?_
          exact tail (fun h => h.2 (by omega)) _ (fun N v => rfl)
        · refine Ev.if_neg h2 ?_
          simp only [srcErr, if_neg h4, if_neg h0]
          rw [if_pos ⟨trivial, by omega⟩]; exact Ev.some _
      | false =>
        refine Ev.cond_f rfl ?_
        exact tail (fun h => by cases h.1) _ (fun N v => rfl)

structure Win where
  kind : Int
  size : Int
  every : Int
  deriving DecidableEq, Inhabited
def encWin (w : Win) : List V := [.int .u8 w.kind, .int .i64 w.size, .int .i64 w.every]
def winB (w : Win) : Bool := decide (1 ≤ w.size ∧ w.size ≤ 1073741824 ∧ ((w.kind = 2 ∧ 1 ≤ w.every ∧ w.every ≤ w.size ∧ w.size ≤ IntKind.wrap .i64 (16 * w.every)) ∨ (w.kind = 1 ∧ w.every = 0) ∨ (w.kind = 3 ∧ w.every = 0)))
theorem clauses_Window (N : Nat) (w : Win) : call cc (N + 1) n_clauses_Window [.agg (encWin w)] = some (.int .i64 (if winB w then 0 else 8)) := by
  unfold encWin
  rw [F_clauses_Window]
  unfold winB
  simp only [Bool.cond_decide, cond_beq]
  repeat' split
  all_goals first | rfl | (exfalso; simp only [decide_eq_true_eq, decide_eq_false_iff_not] at *; omega)
theorem ref08_Fits (N : Nat) (w : Win) : call cc (N + 1) n_ref08_Fits [.agg (encWin w)] = some (.bool (winB w)) := by
  unfold encWin
  rw [F_ref08_Fits]
  unfold winB
  simp only [Bool.cond_decide, cond_beq]
  repeat' split
  all_goals (congr 2; symm; simp only [decide_eq_true_eq, decide_eq_false_iff_not]; omega)

theorem nodup_gi (l : List Int) : l.Nodup ↔ ∀ a b, a < b → b < l.length → gi l a ≠ gi l b := by
  unfold List.Nodup
  rw [List.pairwise_iff_getElem]
  constructor
  · intro h a b hab hb
    have := h a b (by omega) hb hab
    simpa [gi, hb, Nat.lt_trans hab hb] using this
  · intro h a b ha hb hab
    have := h a b hab hb
    simpa [gi, hb, ha] using this

theorem Sources_14 {l : List Int} (hb : l.length ≤ 1000000000) {i : Nat} (hi : i < l.length) : ∀ j k (r : V), k + j = i → ((∃ m, k ≤ m ∧ m < i ∧ gi l m = gi l i) → r = .int .i64 43) →
    ((∀ m, k ≤ m → m < i → gi l m ≠ gi l i) → Ev (fun N => S_ref08_Sources_11 N l.length (ints l) ((i + 1 : Nat) : Int)) r) → Ev (fun N => S_ref08_Sources_14 N l.length (ints l) (i : Int) (k : Int)) r
  | 0, k, r, h, h1, h2 => by
    refine Ev.succ (fun N => S_ref08_Sources_14_eq N _ _ _ _) (Ev.cond_f (by simp; omega) ?_)
    have e1 : IntKind.wrap .i64 ((i : Int) + 1) = ((i + 1 : Nat) : Int) := by rw [wrap_i64 (by omega) (by omega)]; simp
    rw [e1]
    exact h2 (fun m hm hmi => by omega)
  | j + 1, k, r, h, h1, h2 => by
    have hk : k < l.length := by omega
    refine Ev.succ (fun N => S_ref08_Sources_14_eq N _ _ _ _) (Ev.cond_t (by simp; omega) ?_)
    simp only [toNat_cast, Nat.mul_one, ints_at hi, ints_at hk, ints_okT hi, ints_okT hk, toI_int, cond_beq]
    refine Ev.cond_t (by simp) (Ev.cond_t (by simpa using hk) (Ev.cond_t rfl (Ev.cond_t (by simp) (Ev.cond_t (by simpa using hi) (Ev.cond_t rfl ?_)))))
    by_cases he : gi l k = gi l i
    · refine Ev.if_pos he ?_
      rw [h1 ⟨k, Nat.le_refl _, by omega, he⟩]; exact Ev.some _
    · refine Ev.if_neg he ?_
      have e1 : IntKind.wrap .i64 ((k : Int) + 1) = ((k + 1 : Nat) : Int) := by rw [wrap_i64 (by omega) (by omega)]; simp
      rw [e1]
      refine Sources_14 hb hi j (k + 1) r (by omega) (fun ⟨m, a, b, c⟩ => h1 ⟨m, by omega, b, c⟩) (fun hn => h2 (fun m a b => ?_))
      by_cases hmk : m = k
      · subst hmk; exact he
      · exact hn m (by omega) b

theorem Sources_11 {l : List Int} (hb : l.length ≤ 1000000000) : ∀ j i, i + j = l.length → (∀ a b, a < b → b < i → gi l a ≠ gi l b) → Ev (fun N => S_ref08_Sources_11 N l.length (ints l) (i : Int)) (.int .i64 (if l.Nodup then 0 else 43))
  | 0, i, h, hn => by
    refine Ev.succ (fun N => S_ref08_Sources_11_eq N _ _ _) (Ev.cond_f (by simp; omega) ?_)
    rw [if_pos ((nodup_gi l).2 (fun a b hab hbl => hn a b hab (by omega)))]; exact Ev.some _
  | j + 1, i, h, hn => by
    have hi : i < l.length := by omega
    refine Ev.succ (fun N => S_ref08_Sources_11_eq N _ _ _) (Ev.cond_t (by simpa using hi) ?_)
    refine Sources_14 hb hi i 0 _ (by omega) (fun ⟨m, _, a, b⟩ => ?_) (fun hno => ?_)
    · rw [if_neg (fun hnd => (nodup_gi l).1 hnd m i a hi b)]
    · refine Sources_11 hb j (i + 1) (by omega) (fun a b hab hbi => ?_)
      by_cases hbi' : b = i
      · subst hbi'; exact hno a (Nat.zero_le _) hab
      · exact hn a b hab (by omega)

theorem Sources_6 {l : List Int} (hb : l.length ≤ 1000000000) : ∀ j i, i + j = l.length → Ev (fun N => S_ref08_Sources_6 N l.length (ints l) (i : Int)) (.int .i64 (if (l.drop i).any outB then 8 else if l.Nodup then 0 else 43))
  | 0, i, h => by
    refine Ev.succ (fun N => S_ref08_Sources_6_eq N _ _ _) (Ev.cond_f (by simp; omega) ?_)
    rw [List.drop_eq_nil_of_le (by omega)]
    simpa using Sources_11 hb l.length 0 (by omega) (fun a b _ hb0 => by omega)
  | j + 1, i, h => by
    have hi : i < l.length := by omega
    refine Ev.succ (fun N => S_ref08_Sources_6_eq N _ _ _) (Ev.cond_t (by simpa using hi) ?_)
    simp only [toNat_cast, Nat.mul_one, ints_at hi, ints_okT hi, toI_int]
    rw [any_from l i hi]
    refine Ev.cond_t (by simp) (Ev.cond_t (by simpa using hi) (Ev.cond_t rfl ?_))
    by_cases h0 : gi l i < 0
    · refine Ev.cond_t (by simpa using h0) ?_
      have : outB (gi l i) = true := decide_eq_true (.inl h0)
      simp only [this, Bool.true_or, if_true]; exact Ev.some _
    · refine Ev.cond_f (by simpa using h0) (Ev.cond_t (by simp) (Ev.cond_t (by simpa using hi) (Ev.cond_t rfl ?_)))
      by_cases h3 : 3 < gi l i
      · refine Ev.cond_t (by simpa using h3) ?_
        have : outB (gi l i) = true := decide_eq_true (.inr (by omega))
        simp only [this, Bool.true_or, if_true]; exact Ev.some _
      · refine Ev.cond_f (by simpa using h3) ?_
        have : outB (gi l i) = false := decide_eq_false (by omega)
        have e1 : IntKind.wrap .i64 ((i : Int) + 1) = ((i + 1 : Nat) : Int) := by rw [wrap_i64 (by omega) (by omega)]; simp
        simp only [this, Bool.false_or, e1]
        exact Sources_6 hb j (i + 1) (by omega)

theorem ref08_Sources {l : List Int} (hb : l.length ≤ 1000000000) (j : Bool) : Ev (fun N => call cc N n_ref08_Sources [.sl l.length (ints l), .bool j]) (.int .i64 (srcErr l j)) := by
  refine Ev.succ (fun N => F_ref08_Sources N _ _ _) ?_
  simp only [cond_beq, cond_bne]
  by_cases h4 : 4 < l.length
  · refine Ev.cond_t (by simp; omega) ?_; simp only [srcErr, if_pos h4]; exact Ev.some _
  · refine Ev.cond_f (by simp; omega) ?_
    by_cases h0 : l.length = 0
    · refine Ev.if_pos (by omega) ?_; simp only [srcErr, if_neg h4, if_pos h0]; exact Ev.some _
    · refine Ev.if_neg (by omega) ?_
      have h6 := Sources_6 hb l.length 0 (by omega)
      rw [List.drop_zero] at h6
      cases j with
      | true =>
        refine Ev.cond_t rfl ?_
        by_cases h2 : (l.length : Int) = 2
        · refine Ev.if_pos h2 ?_
          simp only [srcErr, if_neg h4, if_neg h0]
          rw [if_neg (fun h => h.2 (by omega))]; exact h6
        · refine Ev.if_neg h2 ?_
          simp only [srcErr, if_neg h4, if_neg h0]
          rw [if_pos ⟨trivial, by omega⟩]; exact Ev.some _
      | false =>
        refine Ev.cond_f rfl ?_
        simp only [srcErr, if_neg h4, if_neg h0]
        rw [if_neg (fun h => by cases h.1)]; exact h6

end Go.Pv

/- queries: clauses.Check, ref08.Check, checks.Check, ref10.Check -/
namespace Go.Pv

structure Query where
  agg : Int
  arg : List Node
  sources : List Int
  join : Bool
  where_ : List Node
  win : Win
  byKey : Bool
  late : Int
  deriving Inhabited
def encQ (q : Query) : List V := [.int .u8 q.agg, .sl q.arg.length (encNodes q.arg), .sl q.sources.length (ints q.sources), .bool q.join, .sl q.where_.length (encNodes q.where_), .int .u8 q.win.kind, .int .i64 q.win.size, .int .i64 q.win.every, .bool q.byKey, .int .u8 q.late]

/-- The error of a query's clauses. -/
def clausesErr (q : Query) : Int :=
  if q.agg < 1 ∨ 4 < q.agg ∨ (q.late ≠ 1 ∧ q.late ≠ 2) then 8
  else if q.agg ≠ 1 ∧ exprErr q.arg ≠ 0 then exprErr q.arg
  else if q.agg = 1 ∧ 0 < q.arg.length then 8
  else if 0 < q.where_.length ∧ exprErr q.where_ ≠ 0 then exprErr q.where_
  else if srcErr q.sources q.join ≠ 0 then srcErr q.sources q.join
  else if q.join = true ∧ q.win.kind ≠ 1 then 8
  else if winB q.win then 0 else 8

/-- Where a query's kinds are wrong, and the error. -/
def rightRes (q : Query) : Int × Int :=
  if 0 < q.arg.length ∧ (wantRes q.arg false).2 ≠ 0 then ((nd q.arg (wantRes q.arg false).1.toNat).at_, (wantRes q.arg false).2)
  else if 0 < q.where_.length ∧ (wantRes q.where_ true).2 ≠ 0 then ((nd q.where_ (wantRes q.where_ true).1.toNat).at_, (wantRes q.where_ true).2)
  else (0, 0)
def checkRes (q : Query) : Int × Int := if clausesErr q ≠ 0 then (0, clausesErr q) else rightRes q

structure QOk (q : Query) : Prop where
  arg : q.arg.length ≤ 1000000000
  sources : q.sources.length ≤ 1000000000
  where_ : q.where_.length ≤ 1000000000

theorem clausesErr_0 {q : Query} (h : clausesErr q = 0) : (1 ≤ q.agg ∧ q.agg ≤ 4) ∧ (q.late = 1 ∨ q.late = 2) ∧ (0 < q.arg.length → exprErr q.arg = 0) ∧ (0 < q.where_.length → exprErr q.where_ = 0) ∧ srcErr q.sources q.join = 0 ∧ (q.join = true → q.win.kind = 1) ∧ winB q.win = true := by
  unfold clausesErr at h
  repeat' split at h
  all_goals try (exfalso; omega)
  rename_i h1 h2 h3 h4 h5 h6 h7
  refine ⟨by omega, by omega, fun h => ?_, fun h => ?_, by omega, fun h => ?_, h7⟩
  · by_cases ha : q.agg = 1
    · exact absurd ⟨ha, h⟩ h3
    · by_cases he : exprErr q.arg = 0
      · exact he
      · exact absurd ⟨ha, he⟩ h2
  · by_cases he : exprErr q.where_ = 0
    · exact he
    · exact absurd ⟨h, he⟩ h4
  · by_cases he : q.win.kind = 1
    · exact he
    · exact absurd ⟨h, he⟩ h6

theorem ofRes_at {l : List Node} (h0 : 0 < l.length) (he : exprErr l = 0) : ∃ i, i < l.length ∧ (ofRes l).2.1 = (i : Nat) := by
  unfold ofRes
  rw [if_neg (by simp [he])]
  split
  · rename_i h; exact ⟨wrong l, h, rfl⟩
  · exact ⟨l.length - 1, by omega, rfl⟩
theorem wantRes_at {l : List Node} (t : Bool) (h0 : 0 < l.length) (he : exprErr l = 0) : ∃ i, i < l.length ∧ (wantRes l t).1 = (i : Nat) := by
  obtain ⟨i, h1, h2⟩ := ofRes_at h0 he
  refine ⟨i, h1, ?_⟩
  unfold wantRes
  split <;> exact h2

theorem bind1 {f : Nat → Option V} {k : Int} {g : Nat → V → Option V} {h : Nat → Option V} {r : V} (hf : Ev f (.int .i64 k)) (hg : ∀ N, g N (.int .i64 k) = h N) (hh : Ev h r) : Ev (fun N => (f N).bind (g N)) r := by
  refine Ev.bind hf ?_
  simpa only [hg] using hh

theorem clauses_Check {q : Query} (hq : QOk q) : Ev (fun N => call cc N n_clauses_Check [.agg (encQ q)]) (.int .i64 (clausesErr q)) := by
  obtain ⟨h1, h2, h3⟩ := hq
  refine Ev.succ (fun N => F_clauses_Check N _ _ _ _ _ _ _ _ _ _ _ _ _) ?_
  simp only [cond_bne, Bool.cond_decide]
  by_cases c1 : q.agg < 1 ∨ 4 < q.agg ∨ (q.late ≠ 1 ∧ q.late ≠ 2)
  · have : clausesErr q = 8 := by unfold clausesErr; rw [if_pos c1]
    rw [this]
    repeat' split
    all_goals first | exact Ev.some _ | (exfalso; omega)
  · have start : Ev (fun N => S_clauses_Check_3 N q.agg q.arg.length (encNodes q.arg) q.sources.length (ints q.sources) q.join q.where_.length (encNodes q.where_) q.win.kind q.win.size q.win.every q.byKey q.late) (.int .i64 (clausesErr q)) := by
      have s18 : Ev (fun N => S_clauses_Check_18 N q.agg q.arg.length (encNodes q.arg) q.sources.length (ints q.sources) q.join q.where_.length (encNodes q.where_) q.win.kind q.win.size q.win.every q.byKey q.late) (.int .i64 (if winB q.win then 0 else 8)) :=
        Ev.succ (fun N => S_clauses_Check_18_eq N _ _ _ _ _ _ _ _ _ _ _ _ _) (Ev.bind (Ev.succ (fun N => clauses_Window N q.win) (Ev.some _)) (Ev.cond_t rfl (Ev.some _)))
      have s16 : Ev (fun N => S_clauses_Check_16 N q.agg q.arg.length (encNodes q.arg) q.sources.length (ints q.sources) q.join q.where_.length (encNodes q.where_) q.win.kind q.win.size q.win.every q.byKey q.late) (.int .i64 (if q.join = true ∧ q.win.kind ≠ 1 then 8 else if winB q.win then 0 else 8)) := by
        refine Ev.succ (fun N => S_clauses_Check_16_eq N _ _ _ _ _ _ _ _ _ _ _ _ _) ?_
        simp only [cond_bne]
        cases hj : q.join with
        | true =>
          rw [hj] at s18
          refine Ev.cond_t rfl ?_
          by_cases hk : q.win.kind = 1
          · refine Ev.if_pos hk ?_; rw [if_neg (fun h => h.2 hk)]; exact s18
          · refine Ev.if_neg hk ?_; rw [if_pos ⟨rfl, hk⟩]; exact Ev.some _
        | false =>
          rw [hj] at s18
          refine Ev.cond_f rfl ?_; rw [if_neg (fun h => by cases h.1)]; exact s18
      have s13 : Ev (fun N => S_clauses_Check_13 N q.agg q.arg.length (encNodes q.arg) q.sources.length (ints q.sources) q.join q.where_.length (encNodes q.where_) q.win.kind q.win.size q.win.every q.byKey q.late) (.int .i64 (if srcErr q.sources q.join ≠ 0 then srcErr q.sources q.join else if q.join = true ∧ q.win.kind ≠ 1 then 8 else if winB q.win then 0 else 8)) := by
        refine Ev.succ (fun N => S_clauses_Check_13_eq N _ _ _ _ _ _ _ _ _ _ _ _ _) ?_
        simp only [cond_bne]
        cases hj : q.join with
        | true =>
          rw [hj] at s16
          refine Ev.cond_t rfl (Ev.bind (clauses_Sources h2 true) (Ev.cond_t rfl ?_))
          simp only [cells_int, cellAt_zero, toI_int]
          by_cases he : srcErr q.sources true = 0
          · refine Ev.if_pos he ?_; rw [if_neg (fun h : srcErr q.sources true ≠ 0 => h he)]; simpa using s16
          · refine Ev.if_neg he ?_; rw [if_pos he]; exact Ev.some _
        | false =>
          rw [hj] at s16
          refine Ev.cond_f rfl (Ev.bind (clauses_Sources h2 false) (Ev.cond_t rfl ?_))
          simp only [cells_int, cellAt_zero, toI_int]
          by_cases he : srcErr q.sources false = 0
          · refine Ev.if_pos he ?_; rw [if_neg (fun h : srcErr q.sources false ≠ 0 => h he)]; exact s16
          · refine Ev.if_neg he ?_; rw [if_pos he]; exact Ev.some _
      have s9 : Ev (fun N => S_clauses_Check_9 N q.agg q.arg.length (encNodes q.arg) q.sources.length (ints q.sources) q.join q.where_.length (encNodes q.where_) q.win.kind q.win.size q.win.every q.byKey q.late) (.int .i64 (if 0 < q.where_.length ∧ exprErr q.where_ ≠ 0 then exprErr q.where_ else if srcErr q.sources q.join ≠ 0 then srcErr q.sources q.join else if q.join = true ∧ q.win.kind ≠ 1 then 8 else if winB q.win then 0 else 8)) := by
        refine Ev.succ (fun N => S_clauses_Check_9_eq N _ _ _ _ _ _ _ _ _ _ _ _ _) ?_
        by_cases hw : 0 < q.where_.length
        · refine Ev.cond_t (by simpa using hw) (Ev.bind (nodes_Check h3) (Ev.cond_t rfl ?_))
          simp only [cells_int, cellAt_zero, toI_int, cond_bne]
          by_cases he : exprErr q.where_ = 0
          · refine Ev.if_pos he ?_; rw [if_neg (fun h => h.2 he)]; exact s13
          · refine Ev.if_neg he ?_; rw [if_pos ⟨hw, he⟩]; exact Ev.some _
        · refine Ev.cond_f (by simpa using hw) ?_; rw [if_neg (fun h => hw h.1)]; exact s13
      refine Ev.succ (fun N => S_clauses_Check_3_eq N _ _ _ _ _ _ _ _ _ _ _ _ _) ?_
      unfold clausesErr
      rw [if_neg c1]
      simp only [cond_bne]
      by_cases ha : q.agg = 1
      · refine Ev.if_pos ha ?_
        rw [if_neg (fun h => h.1 ha)]
        by_cases hl : 0 < q.arg.length
        · refine Ev.cond_t (by simpa using hl) ?_; rw [if_pos ⟨ha, hl⟩]; exact Ev.some _
        · refine Ev.cond_f (by simpa using hl) ?_; rw [if_neg (fun h => hl h.2)]; exact s9
      · refine Ev.if_neg ha (Ev.bind (nodes_Check h1) (Ev.cond_t rfl ?_))
        simp only [cells_int, cellAt_zero, toI_int]
        by_cases he : exprErr q.arg = 0
        · refine Ev.if_pos he ?_; rw [if_neg (fun h => h.2 he), if_neg (fun h => ha h.1)]; exact s9
        · refine Ev.if_neg he ?_; rw [if_pos ⟨ha, he⟩]; exact Ev.some _
    repeat' split
    all_goals first | exact start | (exfalso; omega)

theorem ref08_Check {q : Query} (hq : QOk q) : Ev (fun N => call cc N n_ref08_Check [.agg (encQ q)]) (.int .i64 (clausesErr q)) := by
  obtain ⟨h1, h2, h3⟩ := hq
  refine Ev.succ (fun N => F_ref08_Check N _ _ _ _ _ _ _ _ _ _ _ _ _) ?_
  simp only [Bool.cond_decide]
  by_cases c1 : q.agg < 1 ∨ 4 < q.agg ∨ (q.late ≠ 1 ∧ q.late ≠ 2)
  · have : clausesErr q = 8 := by unfold clausesErr; rw [if_pos c1]
    rw [this]
    repeat' split
    all_goals first | exact Ev.some _ | (exfalso; omega)
  · have start : Ev (fun N => S_ref08_Check_3 N q.agg q.arg.length (encNodes q.arg) q.sources.length (ints q.sources) q.join q.where_.length (encNodes q.where_) q.win.kind q.win.size q.win.every q.byKey q.late) (.int .i64 (clausesErr q)) := by
      have s11 : Ev (fun N => S_ref08_Check_11 N q.agg q.arg.length (encNodes q.arg) q.sources.length (ints q.sources) q.join q.where_.length (encNodes q.where_) q.win.kind q.win.size q.win.every q.byKey q.late) (.int .i64 (if q.join = true ∧ q.win.kind ≠ 1 then 8 else if winB q.win then 0 else 8)) := by
        refine Ev.succ (fun N => S_ref08_Check_11_eq N _ _ _ _ _ _ _ _ _ _ _ _ _) (Ev.bind (Ev.succ (fun N => ref08_Fits N q.win) (Ev.some _)) (Ev.cond_t rfl ?_))
        simp only [cells_bool, cellAt_zero, toB_bool, cond_bne]
        have s13 : Ev (fun N => S_ref08_Check_13 N) (.int .i64 0) := Ev.succ (fun N => S_ref08_Check_13_eq N) (Ev.some _)
        cases hw : winB q.win with
        | false =>
          refine Ev.cond_f rfl ?_
          by_cases hk : q.join = true ∧ q.win.kind ≠ 1
          · rw [if_pos hk]; exact Ev.some _
          · rw [if_neg hk]; exact Ev.some _
        | true =>
          refine Ev.cond_t rfl ?_
          cases hj : q.join with
          | true =>
            refine Ev.cond_t rfl ?_
            by_cases hk : q.win.kind = 1
            · refine Ev.if_pos hk ?_; rw [if_neg (fun h => h.2 hk)]; exact s13
            · refine Ev.if_neg hk ?_; rw [if_pos ⟨rfl, hk⟩]; exact Ev.some _
          | false =>
            refine Ev.cond_f rfl ?_; rw [if_neg (fun h => by cases h.1)]; exact s13
      have s9 : Ev (fun N => S_ref08_Check_9 N q.agg q.arg.length (encNodes q.arg) q.sources.length (ints q.sources) q.join q.where_.length (encNodes q.where_) q.win.kind q.win.size q.win.every q.byKey q.late) (.int .i64 (if srcErr q.sources q.join ≠ 0 then srcErr q.sources q.join else if q.join = true ∧ q.win.kind ≠ 1 then 8 else if winB q.win then 0 else 8)) := by
        refine Ev.succ (fun N => S_ref08_Check_9_eq N _ _ _ _ _ _ _ _ _ _ _ _ _) ?_
        simp only [cond_bne]
        cases hj : q.join with
        | true =>
          rw [hj] at s11
          refine Ev.cond_t rfl (Ev.bind (ref08_Sources h2 true) (Ev.cond_t rfl ?_))
          simp only [cells_int, cellAt_zero, toI_int]
          by_cases he : srcErr q.sources true = 0
          · refine Ev.if_pos he ?_; rw [if_neg (fun h : srcErr q.sources true ≠ 0 => h he)]; simpa using s11
          · refine Ev.if_neg he (Ev.cond_t rfl (Ev.bind (ref08_Sources h2 true) (Ev.cond_t rfl ?_))); rw [if_pos he]; exact Ev.some _
        | false =>
          rw [hj] at s11
          refine Ev.cond_f rfl (Ev.bind (ref08_Sources h2 false) (Ev.cond_t rfl ?_))
          simp only [cells_int, cellAt_zero, toI_int]
          by_cases he : srcErr q.sources false = 0
          · refine Ev.if_pos he ?_; rw [if_neg (fun h : srcErr q.sources false ≠ 0 => h he)]; exact s11
          · refine Ev.if_neg he (Ev.cond_f rfl (Ev.bind (ref08_Sources h2 false) (Ev.cond_t rfl ?_))); rw [if_pos he]; exact Ev.some _
      have s7 : Ev (fun N => S_ref08_Check_7 N q.agg q.arg.length (encNodes q.arg) q.sources.length (ints q.sources) q.join q.where_.length (encNodes q.where_) q.win.kind q.win.size q.win.every q.byKey q.late) (.int .i64 (if 0 < q.where_.length ∧ exprErr q.where_ ≠ 0 then exprErr q.where_ else if srcErr q.sources q.join ≠ 0 then srcErr q.sources q.join else if q.join = true ∧ q.win.kind ≠ 1 then 8 else if winB q.win then 0 else 8)) := by
        refine Ev.succ (fun N => S_ref08_Check_7_eq N _ _ _ _ _ _ _ _ _ _ _ _ _) ?_
        by_cases hw : 0 < q.where_.length
        · refine Ev.cond_t (by simpa using hw) (Ev.bind (ref04_Check h3) (Ev.cond_t rfl ?_))
          simp only [cells_int, cellAt_zero, toI_int, cond_bne]
          by_cases he : exprErr q.where_ = 0
          · refine Ev.if_pos he ?_; rw [if_neg (fun h => h.2 he)]; exact s9
          · refine Ev.if_neg he (Ev.bind (ref04_Check h3) (Ev.cond_t rfl ?_)); rw [if_pos ⟨hw, he⟩]; exact Ev.some _
        · refine Ev.cond_f (by simpa using hw) ?_; rw [if_neg (fun h => hw h.1)]; exact s9
      refine Ev.succ (fun N => S_ref08_Check_3_eq N _ _ _ _ _ _ _ _ _ _ _ _ _) ?_
      unfold clausesErr
      rw [if_neg c1]
      simp only [cond_beq]
      by_cases ha : q.agg = 1
      · refine Ev.if_pos ha ?_
        rw [if_neg (fun h => h.1 ha)]
        by_cases hl : 0 < q.arg.length
        · refine Ev.cond_t (by simpa using hl) ?_; rw [if_pos ⟨ha, hl⟩]; exact Ev.some _
        · refine Ev.cond_f (by simpa using hl) (Ev.succ (fun N => S_ref08_Check_5_eq N _ _ _ _ _ _ _ _ _ _ _ _ _) ?_)
          simp only [cond_bne]
          refine Ev.if_pos ha ?_
          rw [if_neg (fun h => hl h.2)]; exact s7
      · refine Ev.if_neg ha (Ev.succ (fun N => S_ref08_Check_5_eq N _ _ _ _ _ _ _ _ _ _ _ _ _) ?_)
        simp only [cond_bne]
        refine Ev.if_neg ha (Ev.bind (ref04_Check h1) (Ev.cond_t rfl ?_))
        simp only [cells_int, cellAt_zero, toI_int]
        by_cases he : exprErr q.arg = 0
        · refine Ev.if_pos he ?_; rw [if_neg (fun h => h.2 he), if_neg (fun h => ha h.1)]; exact s7
        · refine Ev.if_neg he (Ev.bind (ref04_Check h1) (Ev.cond_t rfl ?_)); rw [if_pos ⟨ha, he⟩]; exact Ev.some _
    repeat' split
    all_goals first | exact start | (exfalso; omega)

theorem node_4' {l : List Node} {i : Nat} (h : i < l.length) : cellAt (encNodes l) (i * 5 + 4) = .int .i64 (nd l i).at_ := node_k h 4 (by omega)
theorem node_ok4 {l : List Node} {i : Nat} (h : i < l.length) : okT [CK.i IntKind.i64] (encNodes l) (i * 5 + 4) = true := by simp only [okT_cons, node_4' h]; rfl

theorem wish {l : List Node} {t : Bool} (h0 : 0 < l.length) (he : exprErr l = 0) {rest : Nat → Option V} {r : V} {f : Nat → Option V} (hf : Ev f (.tup [.int .i64 (wantRes l t).1, .int .i64 (wantRes l t).2]))
    (h1 : (wantRes l t).2 ≠ 0 → r = .tup [.int .i64 (nd l (wantRes l t).1.toNat).at_, .int .i64 (wantRes l t).2]) (h2 : (wantRes l t).2 = 0 → Ev rest r) :
    Ev (fun N => (f N).bind fun v =>
      cond (okRes [(false, [CK.i IntKind.i64]), (false, [CK.i IntKind.i64])] v)
      (cond ((V.toI (cellAt (V.cells (cellAt (V.cs v) 1)) 0)) != (0 : Int))
      (cond (decide ((0 : Int) ≤ (V.toI (cellAt (V.cells (cellAt (V.cs v) 0)) 0))))
       (cond (decide ((V.toI (cellAt (V.cells (cellAt (V.cs v) 0)) 0)) < ((l.length : Nat) : Int)))
       (cond (okT [CK.i IntKind.i64] (encNodes l) (((Int.toNat (V.toI (cellAt (V.cells (cellAt (V.cs v) 0)) 0))) * 5) + 4))
       (some (V.tup [V.int IntKind.i64 (V.toI (cellAt (encNodes l) (((Int.toNat (V.toI (cellAt (V.cells (cellAt (V.cs v) 0)) 0))) * 5) + 4))), V.int IntKind.i64 (V.toI (cellAt (V.cells (cellAt (V.cs v) 1)) 0))]))
       none)
       none)
       none)
      (rest N))
      none) r := by
  obtain ⟨i, hi, hw⟩ := wantRes_at t h0 he
  refine Ev.bind hf ?_
  simp only [cs_tup, cellAt_zero, cellAt_succ, cells_int, toI_int, cond_bne]
  refine Ev.cond_t rfl ?_
  by_cases hz : (wantRes l t).2 = 0
  · exact Ev.if_pos hz (h2 hz)
  · refine Ev.if_neg hz ?_
    rw [h1 hz, hw]
    simp only [toNat_cast, node_4' hi, node_ok4 hi, toI_int]
    exact Ev.cond_t (by simp) (Ev.cond_t (by simpa using hi) (Ev.cond_t rfl (Ev.some _)))

theorem ref10_Right {q : Query} (hq : QOk q) (he : clausesErr q = 0) : Ev (fun N => call cc N n_ref10_Right [.agg (encQ q)]) (.tup [.int .i64 (rightRes q).1, .int .i64 (rightRes q).2]) := by
  obtain ⟨h1, h2, h3⟩ := hq
  obtain ⟨_, _, ea, ew, _⟩ := clausesErr_0 he
  refine Ev.succ (fun N => F_ref10_Right N _ _ _ _ _ _ _ _ _ _ _ _ _) ?_
  by_cases ha : 0 < q.arg.length
  · refine Ev.cond_t (by simpa using ha) (wish ha (ea ha) (ref06_Want h1 false) (fun hz => by unfold rightRes; rw [if_pos ⟨ha, hz⟩]) (fun hz => ?_))
    have e : ¬ (0 < q.arg.length ∧ (wantRes q.arg false).2 ≠ 0) := fun h => h.2 hz
    by_cases hw : 0 < q.where_.length
    · refine Ev.cond_t (by simpa using hw) (wish hw (ew hw) (ref06_Want h3 true) (fun hz' => by unfold rightRes; rw [if_neg e, if_pos ⟨hw, hz'⟩]) (fun hz' => ?_))
      have : rightRes q = (0, 0) := by unfold rightRes; rw [if_neg e, if_neg (fun h => h.2 hz')]
      rw [this]; exact Ev.some _
    · refine Ev.cond_f (by simpa using hw) ?_
      have : rightRes q = (0, 0) := by unfold rightRes; rw [if_neg e, if_neg (fun h => hw h.1)]
      rw [this]; exact Ev.some _
  · have e : ¬ (0 < q.arg.length ∧ (wantRes q.arg false).2 ≠ 0) := fun h => ha h.1
    refine Ev.cond_f (by simpa using ha) ?_
    by_cases hw : 0 < q.where_.length
    · refine Ev.cond_t (by simpa using hw) (wish hw (ew hw) (ref06_Want h3 true) (fun hz' => by unfold rightRes; rw [if_neg e, if_pos ⟨hw, hz'⟩]) (fun hz' => ?_))
      have : rightRes q = (0, 0) := by unfold rightRes; rw [if_neg e, if_neg (fun h => h.2 hz')]
      rw [this]; exact Ev.some _
    · refine Ev.cond_f (by simpa using hw) ?_
      have : rightRes q = (0, 0) := by unfold rightRes; rw [if_neg e, if_neg (fun h => hw h.1)]
      rw [this]; exact Ev.some _

theorem checks_first {q : Query} (hq : QOk q) (he : clausesErr q = 0) : Ev (fun N => call cc N n_checks_first [.sl 2 [.sl q.arg.length (encNodes q.arg), .fn n_kinds_Number [] [], .sl q.where_.length (encNodes q.where_), .fn n_kinds_Truth [] []]]) (.tup [.int .i64 (rightRes q).1, .int .i64 (rightRes q).2]) := by
  obtain ⟨h1, h2, h3⟩ := hq
  obtain ⟨_, _, ea, ew, _⟩ := clausesErr_0 he
  refine Ev.succ (fun N => F_checks_first_a N _ _ _ _) ?_
  simp only [cond_beq]
  by_cases ha : 0 < q.arg.length
  · refine Ev.if_neg (by omega) (wish ha (ea ha) (kinds_Number h1) (fun hz => by unfold rightRes; rw [if_pos ⟨ha, hz⟩]) (fun hz => ?_))
    have e : ¬ (0 < q.arg.length ∧ (wantRes q.arg false).2 ≠ 0) := fun h => h.2 hz
    by_cases hw : 0 < q.where_.length
    · refine Ev.if_neg (by omega) (wish hw (ew hw) (kinds_Truth h3) (fun hz' => by unfold rightRes; rw [if_neg e, if_pos ⟨hw, hz'⟩]) (fun hz' => ?_))
      have : rightRes q = (0, 0) := by unfold rightRes; rw [if_neg e, if_neg (fun h => h.2 hz')]
      rw [this]; exact Ev.some _
    · refine Ev.if_pos (by omega) ?_
      have : rightRes q = (0, 0) := by unfold rightRes; rw [if_neg e, if_neg (fun h => hw h.1)]
      rw [this]; exact Ev.some _
  · have e : ¬ (0 < q.arg.length ∧ (wantRes q.arg false).2 ≠ 0) := fun h => ha h.1
    refine Ev.if_pos (by omega) ?_
    by_cases hw : 0 < q.where_.length
    · refine Ev.if_neg (by omega) (wish hw (ew hw) (kinds_Truth h3) (fun hz' => by unfold rightRes; rw [if_neg e, if_pos ⟨hw, hz'⟩]) (fun hz' => ?_))
      have : rightRes q = (0, 0) := by unfold rightRes; rw [if_neg e, if_neg (fun h => h.2 hz')]
      rw [this]; exact Ev.some _
    · refine Ev.if_pos (by omega) ?_
      have : rightRes q = (0, 0) := by unfold rightRes; rw [if_neg e, if_neg (fun h => hw h.1)]
      rw [this]; exact Ev.some _

theorem checks_Check {q : Query} (hq : QOk q) : Ev (fun N => call cc N n_checks_Check [.agg (encQ q)]) (.tup [.int .i64 (checkRes q).1, .int .i64 (checkRes q).2]) := by
  refine Ev.succ (fun N => F_checks_Check N _ _ _ _ _ _ _ _ _ _ _ _ _) (Ev.bind (clauses_Check hq) (Ev.cond_t rfl ?_))
  simp only [cells_int, cellAt_zero, toI_int, cond_bne]
  by_cases he : clausesErr q = 0
  · refine Ev.if_pos he (Ev.bind (checks_first hq he) (Ev.cond_t rfl ?_))
    unfold checkRes; rw [if_neg (by simp [he])]; exact Ev.some _
  · refine Ev.if_neg he ?_
    unfold checkRes; rw [if_pos he]; exact Ev.some _

theorem ref10_Check {q : Query} (hq : QOk q) : Ev (fun N => call cc N n_ref10_Check [.agg (encQ q)]) (.tup [.int .i64 (checkRes q).1, .int .i64 (checkRes q).2]) := by
  refine Ev.succ (fun N => F_ref10_Check N _ _ _ _ _ _ _ _ _ _ _ _ _) (Ev.bind (ref08_Check hq) (Ev.cond_t rfl ?_))
  simp only [cells_int, cellAt_zero, toI_int, cond_bne]
  by_cases he : clausesErr q = 0
  · refine Ev.if_pos he (Ev.bind (ref10_Right hq he) (Ev.cond_t rfl ?_))
    unfold checkRes; rw [if_neg (by simp [he])]; exact Ev.some _
  · refine Ev.if_neg he (Ev.bind (ref08_Check hq) (Ev.cond_t rfl ?_))
    unfold checkRes; rw [if_pos he]; exact Ev.some _

end Go.Pv

/- Messages, late rows: late.Check = ref20.Check; message.Event = ref25.Event. -/
namespace Go.Pv

theorem Ev.succ2 {f g : Nat → Option V} {r : V} (h : ∀ N, f (N + 2) = g (N + 1)) (hg : Ev g r) : Ev f r := by
  obtain ⟨N0, h0⟩ := hg
  refine ⟨N0 + 2, fun N hN => ?_⟩
  obtain ⟨M, rfl⟩ : ∃ M, N = M + 2 := ⟨N - 2, by omega⟩
  rw [h, h0 (M + 1) (by omega)]

def timeB (x : Int) : Bool := decide (-1099511627776 ≤ x ∧ x ≤ 1099511627776)
def markB (x : Int) : Bool := timeB x || x == 9223372036854775807

theorem late_time (N : Nat) (x : Int) : call cc (N + 1) n_late_time [.int .i64 x] = some (.bool (timeB x)) := by
  rw [F_late_time]; unfold timeB
  simp only [Bool.cond_decide]
  repeat' split
  all_goals (congr 2; symm; simp only [decide_eq_true_eq, decide_eq_false_iff_not]; omega)
theorem message_isTime (N : Nat) (x : Int) : call cc (N + 1) n_message_isTime [.int .i64 x] = some (.bool (timeB x)) := by
  rw [F_message_isTime]; unfold timeB
  simp only [Bool.cond_decide]
  repeat' split
  all_goals (congr 2; symm; simp only [decide_eq_true_eq, decide_eq_false_iff_not]; omega)
theorem ref25_Right (N : Nat) (a x b : Int) : call cc (N + 1) n_ref25_Right [.agg [.int .i64 a, .int .i64 x, .int .i64 b]] = some (.bool (timeB x)) := by
  rw [F_ref25_Right]; unfold timeB
  simp only [Bool.cond_decide]
  repeat' split
  all_goals (congr 2; symm; simp only [decide_eq_true_eq, decide_eq_false_iff_not]; omega)
theorem ref13_Check_1 (N : Nat) (x : Int) : call cc (N + 1) n_ref13_Check [.int .i64 x, .int .i64 1] = some (.int .i64 (if timeB x then 0 else 16)) := by
  rw [F_ref13_Check]; unfold timeB
  simp only [Bool.cond_decide, decide_eq_true_eq]
  repeat' split
  all_goals first | omega | rfl
theorem ref25_Mark (N : Nat) (x : Int) : call cc (N + 1) n_ref25_Mark [.int .i64 x] = some (.bool (markB x)) := by
  rw [F_ref25_Mark]; unfold markB timeB
  simp only [Bool.cond_decide, cond_beq]
  repeat' split
  all_goals (congr 2; symm; simp only [Bool.or_eq_true, Bool.or_eq_false_iff, beq_iff_eq, beq_eq_false_iff_ne, decide_eq_true_eq, decide_eq_false_iff_not]; omega)
theorem message_isMark (N : Nat) (x : Int) : call cc (N + 2) n_message_isMark [.int .i64 x] = some (.bool (markB x)) := by
  rw [F_message_isMark, message_isTime]; unfold markB
  simp only [Option.bind_some, okRes1, okComp_bool, cells_bool, cellAt_zero, toB_bool, cond_true]
  cases timeB x <;> cases x == 9223372036854775807 <;> rfl

/-- What comes in. -/
structure Item where
  m : Bool
  mark : Int
  key : Int
  time : Int
  value : Int
  deriving DecidableEq, Inhabited
def encItem (x : Item) : List V := [.bool x.m, .int .i64 x.mark, .int .i64 x.key, .int .i64 x.time, .int .i64 x.value]
def encItems (l : List Item) : List V := l.flatMap encItem
theorem encItem_len (x : Item) : (encItem x).length = 5 := rfl
def it (l : List Item) (i : Nat) : Item := l[i]?.getD default
theorem it_mid (pre suf : List Item) (x : Item) : it (pre ++ x :: suf) pre.length = x := by simp [it]
theorem item_k {l : List Item} {i : Nat} (h : i < l.length) (k : Nat) (hk : k < 5) : cellAt (encItems l) (i * 5 + k) = cellAt (encItem (it l i)) k := cellAt_flat encItem 5 encItem_len l i k h hk
theorem item_0 {l : List Item} {i : Nat} (h : i < l.length) : cellAt (encItems l) (i * 5) = .bool (it l i).m := item_k h 0 (by omega)
theorem item_1 {l : List Item} {i : Nat} (h : i < l.length) : cellAt (encItems l) (i * 5 + 1) = .int .i64 (it l i).mark := item_k h 1 (by omega)
theorem item_2 {l : List Item} {i : Nat} (h : i < l.length) : cellAt (encItems l) (i * 5 + 1 + 1) = .int .i64 (it l i).key := item_k h 2 (by omega)
theorem item_3 {l : List Item} {i : Nat} (h : i < l.length) : cellAt (encItems l) (i * 5 + 1 + 1 + 1) = .int .i64 (it l i).time := item_k h 3 (by omega)
theorem item_4 {l : List Item} {i : Nat} (h : i < l.length) : cellAt (encItems l) (i * 5 + 1 + 1 + 1 + 1) = .int .i64 (it l i).value := item_k h 4 (by omega)
theorem item_okT {l : List Item} {i : Nat} (h : i < l.length) : okT [CK.b, CK.i IntKind.i64, CK.i IntKind.i64, CK.i IntKind.i64, CK.i IntKind.i64] (encItems l) (i * 5) = true := by
  simp only [okT_cons, item_0 h, item_1 h, item_2 h, item_3 h, item_4 h]
  rfl

def zeroB (x : Item) : Bool := (x.key == 0) && ((x.time == 0) && ((x.value == 0) && true))
def itemB (x : Item) : Bool := if x.m then zeroB x && markB x.mark else (x.mark == 0) && timeB x.time
def itemsErr (l : List Item) : Int := if l.length > 60 then 4 else if l.all itemB then 0 else 8

theorem late_step {l : List Item} (h60 : l.length ≤ 60) {i : Nat} (h : i < l.length) (N : Nat) : S_late_Check_4 (N + 2) l.length (encItems l) l.length (i : Nat) = if itemB (it l i) then S_late_Check_4 (N + 1) l.length (encItems l) l.length ((i + 1 : Nat) : Int) else some (.int .i64 8) := by
  rw [S_late_Check_4_eq]
  simp only [toNat_cast, item_0 h, item_1 h, item_2 h, item_3 h, item_4 h, item_okT h, toI_int, toB_bool, late_time, Option.bind_some, okRes1, okComp_bool, cells_bool, cellAt_zero, cond_true]
  rw [decide_eq_true (show (i : Int) < (l.length : Int) by omega), decide_eq_true (show (0 : Int) ≤ (i : Int) by omega)]
  rw [wrap_i64 (n := (i : Int) + 1) (by omega) (by omega)]
  have e : (i : Int) + 1 = ((i + 1 : Nat) : Int) := by omega
  rw [e]
  simp only [cond_true]
  change cond (zeroB (it l i)) _ _ = _
  unfold itemB markB
  cases (it l i).m <;> cases zeroB (it l i) <;> cases timeB (it l i).mark <;> cases (it l i).mark == 9223372036854775807 <;> cases (it l i).mark == 0 <;> cases timeB (it l i).time <;> simp only [cond_true, cond_false, Bool.true_and, Bool.false_and, Bool.and_true, Bool.and_false, Bool.or_true, Bool.or_false, Bool.true_or, Bool.false_or, Bool.or_self, Bool.and_self, if_true, if_false, Bool.false_eq_true]

theorem late_loop (l : List Item) (h60 : l.length ≤ 60) : ∀ (suf pre : List Item), l = pre ++ suf → Ev (fun N => S_late_Check_4 N l.length (encItems l) l.length (pre.length : Nat)) (.int .i64 (if suf.all itemB then 0 else 8))
  | [], pre, hl => by
    refine Ev.succ (fun N => S_late_Check_4_eq N _ _ _ _) (Ev.cond_f ?_ ?_)
    · subst hl; simp
    · simpa using Ev.some _
  | x :: suf, pre, hl => by
    have hi : pre.length < l.length := by subst hl; simp
    have ih := late_loop l h60 suf (pre ++ [x]) (by rw [hl]; simp)
    have hx : it l pre.length = x := by rw [hl]; exact it_mid pre suf x
    refine Ev.succ2 (g := fun N => if itemB (it l pre.length) then S_late_Check_4 N l.length (encItems l) l.length ((pre.length + 1 : Nat) : Int) else some (.int .i64 8)) (fun N => late_step h60 hi N) ?_
    rw [hx]
    by_cases hb : itemB x = true
    · simp only [hb, if_true, List.all_cons, Bool.true_and]
      simpa using ih
    · simp only [hb, if_false, List.all_cons, Bool.false_and]
      exact Ev.some _
theorem late_Check (l : List Item) : Ev (fun N => call cc N n_late_Check [.sl l.length (encItems l)]) (.int .i64 (itemsErr l)) := by
  refine Ev.succ (fun N => F_late_Check N _ _) ?_
  unfold itemsErr
  by_cases h : l.length > 60
  · rw [if_pos h]; exact Ev.cond_t (decide_eq_true (by omega)) (Ev.some _)
  · rw [if_neg h]; exact Ev.cond_f (decide_eq_false (by omega)) (late_loop l (by omega) l [] rfl)

theorem ref20_Valid (N : Nat) (x : Item) : call cc (N + 2) n_ref20_Valid [.agg (encItem x)] = some (.bool (itemB x)) := by
  unfold encItem
  rw [F_ref20_Valid]
  simp only [ref13_Check_1, Option.bind_some, okRes1, okComp_int, isK_i64, cells_int, cellAt_zero, toI_int, cond_true]
  change cond x.m (cond (zeroB x) _ _) _ = _
  unfold itemB markB
  cases x.m <;> cases zeroB x <;> cases timeB x.mark <;> cases x.mark == 9223372036854775807 <;> cases x.mark == 0 <;> cases timeB x.time <;> simp only [cond_true, cond_false, Bool.true_and, Bool.false_and, Bool.and_true, Bool.and_false, Bool.or_true, Bool.or_false, Bool.true_or, Bool.false_or, Bool.or_self, Bool.and_self, if_true, if_false, Bool.false_eq_true] <;> rfl

theorem ref20_step {l : List Item} (h60 : l.length ≤ 60) {i : Nat} (h : i < l.length) (N : Nat) : S_ref20_Check_4 (N + 3) l.length (encItems l) (i : Nat) = if itemB (it l i) then S_ref20_Check_4 (N + 2) l.length (encItems l) ((i + 1 : Nat) : Int) else some (.int .i64 8) := by
  rw [S_ref20_Check_4_eq]
  have hv := ref20_Valid N (it l i)
  unfold encItem at hv
  simp only [toNat_cast, item_0 h, item_1 h, item_2 h, item_3 h, item_4 h, item_okT h, toI_int, toB_bool, hv, Option.bind_some, okRes1, okComp_bool, cells_bool, cellAt_zero, cond_true]
  rw [decide_eq_true (show (i : Int) < (l.length : Int) by omega), decide_eq_true (show (0 : Int) ≤ (i : Int) by omega)]
  rw [wrap_i64 (n := (i : Int) + 1) (by omega) (by omega)]
  have e : (i : Int) + 1 = ((i + 1 : Nat) : Int) := by omega
  rw [e]
  cases itemB (it l i) <;> simp only [cond_true, cond_false, if_true, if_false, Bool.false_eq_true]
theorem Ev.succ3 {f g : Nat → Option V} {r : V} (h : ∀ N, f (N + 3) = g (N + 2)) (hg : Ev g r) : Ev f r := by
  obtain ⟨N0, h0⟩ := hg
  refine ⟨N0 + 3, fun N hN => ?_⟩
  obtain ⟨M, rfl⟩ : ∃ M, N = M + 3 := ⟨N - 3, by omega⟩
  rw [h, h0 (M + 2) (by omega)]
theorem ref20_loop (l : List Item) (h60 : l.length ≤ 60) : ∀ (suf pre : List Item), l = pre ++ suf → Ev (fun N => S_ref20_Check_4 N l.length (encItems l) (pre.length : Nat)) (.int .i64 (if suf.all itemB then 0 else 8))
  | [], pre, hl => by
    refine Ev.succ (fun N => S_ref20_Check_4_eq N _ _ _) (Ev.cond_f ?_ ?_)
    · subst hl; simp
    · simpa using Ev.some _
  | x :: suf, pre, hl => by
    have hi : pre.length < l.length := by subst hl; simp
    have ih := ref20_loop l h60 suf (pre ++ [x]) (by rw [hl]; simp)
    have hx : it l pre.length = x := by rw [hl]; exact it_mid pre suf x
    refine Ev.succ3 (g := fun N => if itemB (it l pre.length) then S_ref20_Check_4 N l.length (encItems l) ((pre.length + 1 : Nat) : Int) else some (.int .i64 8)) (fun N => ref20_step h60 hi N) ?_
    rw [hx]
    by_cases hb : itemB x = true
    · simp only [hb, if_true, List.all_cons, Bool.true_and]
      simpa using ih
    · simp only [hb, if_false, List.all_cons, Bool.false_and]
      exact Ev.some _
theorem ref20_Check (l : List Item) : Ev (fun N => call cc N n_ref20_Check [.sl l.length (encItems l)]) (.int .i64 (itemsErr l)) := by
  refine Ev.succ (fun N => F_ref20_Check N _ _) ?_
  unfold itemsErr
  by_cases h : l.length > 60
  · rw [if_pos h]; exact Ev.cond_t (decide_eq_true (by omega)) (Ev.some _)
  · rw [if_neg h]; exact Ev.cond_f (decide_eq_false (by omega)) (ref20_loop l (by omega) l [] rfl)

/-! One message. -/
def zero9 : List V := [.int .i64 0, .int .i64 0, .int .i64 0, .int .i64 0, .int .i64 0, .int .i64 0, .int .i64 0, .int .i64 0, .int .i64 0]
theorem ref25_Event (x : Item) (N : Nat) : call cc (N + 2) n_ref25_Event [.agg (encItem x)] = some (.int .i64 (if itemB x then 0 else 8)) := by
  unfold encItem
  rw [F_ref25_Event]
  simp only [ref25_Mark, ref25_Right, Option.bind_some, okRes1, okComp_bool, cells_bool, cellAt_zero, toB_bool, cond_true]
  change cond x.m (cond (markB x.mark) (cond (zeroB x) _ _) _) _ = _
  unfold itemB
  cases x.m <;> cases zeroB x <;> cases markB x.mark <;> cases x.mark == 0 <;> cases timeB x.time <;> rfl
/-- The message that message.Of makes. -/
def msgOf (x : Item) : List V := if itemB x then (if x.m then [.int .u8 2, .int .i64 0, .int .i64 0, .int .i64 0, .int .i64 x.mark, .int .i64 0, .int .i64 0, .int .i64 0, .int .i64 0, .int .i64 0] else [.int .u8 1, .int .i64 x.key, .int .i64 x.time, .int .i64 x.value, .int .i64 0, .int .i64 0, .int .i64 0, .int .i64 0, .int .i64 0, .int .i64 0]) else .int .u8 0 :: zero9
theorem message_Of (x : Item) (N : Nat) : call cc (N + 3) n_message_Of [.agg (encItem x)] = some (.tup [.agg (msgOf x), .int .i64 (if itemB x then 0 else 8)]) := by
  unfold encItem
  rw [F_message_Of]
  simp only [message_isMark, message_isTime, Option.bind_some, okRes1, okComp_bool, cells_bool, cellAt_zero, toB_bool, cond_true, bne]
  change cond x.m (cond (markB x.mark) (cond (!(zeroB x)) _ _) _) _ = _
  unfold msgOf itemB zero9
  cases x.m <;> cases zeroB x <;> cases markB x.mark <;> cases x.mark == 0 <;> cases timeB x.time <;> rfl
theorem message_Event (x : Item) (N : Nat) : call cc (N + 4) n_message_Event [.agg (encItem x)] = some (.int .i64 (if itemB x then 0 else 8)) := by
  have h := message_Of x N
  unfold encItem at h ⊢
  rw [F_message_Event, h]
  have e : okRes [(true, [CK.i IntKind.u8, CK.i IntKind.i64, CK.i IntKind.i64, CK.i IntKind.i64, CK.i IntKind.i64, CK.i IntKind.i64, CK.i IntKind.i64, CK.i IntKind.i64, CK.i IntKind.i64, CK.i IntKind.i64]), (false, [CK.i IntKind.i64])] (.tup [.agg (msgOf x), .int .i64 (if itemB x then 0 else 8)]) = true := by
    unfold msgOf zero9
    cases itemB x <;> cases x.m <;> rfl
  simp only [Option.bind_some, e, cond_true]
  rfl

end Go.Pv
