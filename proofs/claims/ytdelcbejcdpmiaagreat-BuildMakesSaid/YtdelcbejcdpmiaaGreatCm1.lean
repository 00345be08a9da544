/- The law BuildMakes answers true for every query, every input and every numbers, and its arguments read as they read before: no condition. Part 1 of 7. -/
import GoSem.Step
import Derived.Orders
import Derived.WalkKit
import Derived.Below
import Derived.ChangeKeysEq
import Derived.IntWalk
import Derived.Calls
import Derived.Scope
/- A PURE EVALUATOR of the model's code, over data: definitions alone. -/
namespace Go.Pv

/-- Abstract values. 'sl': a frozen slice (its cells as data); 'own': a whole local row; 'ref': a part of a local row; 'rop': a pointer into frozen cells. -/
inductive V where
  | undef
  | bool (b : Bool)
  | int (k : IntKind) (n : Int)
  | str (s : List UInt8)
  | nils
  | sl (n : Nat) (cells : List V)
  | own (b n : Nat)
  | ref (b off n : Nat)
  | nilp
  | ptr (b off : Nat)
  | rop (cells : List V) (off : Nat)
  | fn (f : Nat) (first captured : List V)
  | nilf
  | nili
  | iface (t : Nat) (v : V)
  | agg (cells : List V)
  | tup (vs : List V)
  deriving Inhabited

/-- A local block: st 0 live, 1 frozen but may grow, 2 frozen, 3 gone; box: a variable (it may hold references), else a row (it holds data alone). -/
structure Blk where
  cells : List V
  es : Nat
  st : Nat
  box : Bool
  deriving Inhabited

abbrev Heap := List Blk

inductive Md where
  | pure | own | inl | ext | xown
  deriving DecidableEq, Inhabited

structure Cfg where
  P : Program
  md : Nat → Option Md
  ext : Nat → List V → Option V
  cut : Nat → Nat → Option (List Nat)
  ord : Nat → Nat → Option (List Nat)
  fresh : Nat → Nat → List (Nat × Nat)
  eqs : List TypeId

inductive It where
  | code (c : Code)
  | inBlock (id : Nat)
  | inLoop (c : Code)
  | inScope (c : Code)
  | ops (all : Array Oper) (rest : List Oper)
  | opsD (all : Array Oper) (rest : List Oper)
  | reg (id : Nat) (all : Array Oper) (draw : Bool)
  deriving Inhabited

/-- A suspended frame; 'lo': blocks below it are older than the frame. -/
structure Fr where
  fn : Nat
  env : List V
  dst : Option Nat
  todo : List It
  lo : Nat
  deriving Inhabited

structure St where
  fn : Nat
  env : List V
  heap : Heap
  frs : List Fr
  lo : Nat
  deriving Inhabited

def cellOf : Value → V
  | .bool b => .bool b
  | .int k n => .int k n
  | .string s => .str s.data.toList
  | .pointer none => .nilp
  | .slice none 0 0 => .nils
  | .nilFunc => .nilf
  | .nilIface => .nili
  | .func (.func f) a b => match a.toList, b.toList with
    | [], [] => .fn f [] []
    | _, _ => .undef
  | _ => .undef

def ofValue : Value → V
  | .agg cs => .agg (cs.toList.map cellOf)
  | v => cellOf v

def V.toI : V → Int
  | .int _ n => n
  | _ => 0
def V.toB : V → Bool
  | .bool b => b
  | _ => false
def V.toS : V → List UInt8
  | .str s => s
  | _ => []
def V.slN : V → Nat
  | .sl n _ => n
  | _ => 0
def V.slC : V → List V
  | .sl _ c => c
  | _ => []
def V.cs : V → List V
  | .agg cs => cs
  | .tup cs => cs
  | _ => []

/-- The kinds of cells; 'sl es': a slice whose elements have es cells. -/
inductive CK where
  | b | i (k : IntKind) | s | sl (es : Nat) | o
  deriving Inhabited

def isK : IntKind → IntKind → Bool
  | .i8, .i8 | .i16, .i16 | .i32, .i32 | .i64, .i64 | .u8, .u8 | .u16, .u16 | .u32, .u32 | .u64, .u64 => true
  | _, _ => false

def isCK : CK → V → Bool
  | .b, .bool _ => true
  | .i k, .int k' _ => isK k k'
  | .s, .str _ => true
  | .sl _, .sl _ _ => true
  | .o, .undef => false
  | .o, _ => true
  | _, _ => false

def coe : CK → V → V
  | .b, v => .bool v.toB
  | .i k, v => .int k v.toI
  | .s, v => .str v.toS
  | .sl _, v => .sl v.slN v.slC
  | .o, v => v

def ckOf (P : Program) : TypeDesc → Option CK
  | .bool => some .b
  | .int k => some (.i k)
  | .string => some .s
  | .slice e => some (.sl (P.cellsOf e))
  | .pointer _ | .func _ _ _ | .interface _ | .map _ _ => some .o
  | _ => none

def catK : Option (List CK) → Option (List CK) → Option (List CK)
  | some a, some b => some (a ++ b)
  | _, _ => none

def kinds (P : Program) : Nat → TypeId → Option (List CK)
  | 0, _ => none
  | d + 1, t =>
    match P.underlying t with
    | some (.struct fs) => fs.toList.foldr (fun f acc => catK (kinds P d f.type) acc) (some [])
    | some (.array n e) => (List.replicate n ()).foldr (fun _ acc => catK (kinds P d e) acc) (some [])
    | some dsc => match ckOf P dsc with
      | some k => some [k]
      | none => none
    | none => none

def isAggT (P : Program) (t : TypeId) : Bool :=
  match P.underlying t with
  | some (.struct _) | some (.array _ _) => true
  | _ => false

/-- Typed reading of cells, from 'off' on. -/
def readT : List CK → List V → Nat → List V
  | [], _, _ => []
  | k :: ks, cells, off => coe k (cells.getD off .undef) :: readT ks cells (off + 1)
def okT : List CK → List V → Nat → Bool
  | [], _, _ => true
  | k :: ks, cells, off => isCK k (cells.getD off .undef) && okT ks cells (off + 1)
/-- Plain reading. -/
def readP : Nat → List V → Nat → List V
  | 0, _, _ => []
  | n + 1, cells, off => cells.getD off .undef :: readP n cells (off + 1)

def mkV (agg : Bool) (cs : List V) : V :=
  match agg, cs with
  | false, [c] => c
  | false, _ => .undef
  | true, cs => .agg cs

def V.cells : V → List V
  | .agg cs => cs
  | v => [v]

def oneCell : V → Bool
  | .agg _ | .tup _ | .undef => false
  | _ => true

def setMany : List V → Nat → List V → List V
  | cells, _, [] => cells
  | cells, off, v :: vs => setMany (cells.set off v) (off + 1) vs

/-- What a value is once it is frozen: without references to local memory. -/
def fz (h : Heap) : Nat → V → Option V
  | 0, _ => none
  | d + 1, v =>
    match v with
    | .own b n => match h[b]? with
      | some B => if B.box || 3 ≤ B.st then none else some (.sl n B.cells)
      | none => none
    | .ref b off n => match h[b]? with
      | some B => if B.box || 3 ≤ B.st then none else some (.sl n ((B.cells.drop off).take (n * B.es)))
      | none => none
    | .ptr b off => match h[b]? with
      | some B => if B.box && B.st < 3 then
          match B.cells.mapM (fz h d) with
          | some cs => some (.rop cs off)
          | none => none
        else none
      | none => none
    | .agg cs => match cs.mapM (fz h d) with
      | some cs => some (.agg cs)
      | none => none
    | .fn f a c => match a.mapM (fz h d), c.mapM (fz h d) with
      | some a, some c => some (.fn f a c)
      | _, _ => none
    | .nils => some (.sl 0 [])
    | .tup _ => none
    | .iface t x => match fz h d x with
      | some x => some (.iface t x)
      | none => none
    | v => some v

/-- The local blocks that a value refers to. -/
def ids (h : Heap) : Nat → V → List Nat
  | 0, _ => []
  | d + 1, v =>
    match v with
    | .own b _ | .ref b _ _ => [b]
    | .ptr b _ => b :: (match h[b]? with
      | some B => B.cells.flatMap (ids h d)
      | none => [])
    | .agg cs | .tup cs => cs.flatMap (ids h d)
    | .fn _ a c => a.flatMap (ids h d) ++ c.flatMap (ids h d)
    | .iface _ x => ids h d x
    | _ => []

def mark1 (h : Heap) (b : Nat) : Heap :=
  match h[b]? with
  | some B => if B.st = 0 then h.set b { B with st := 1 } else h
  | none => h
def markAll (h : Heap) (l : List Nat) : Heap := l.foldl mark1 h

abbrev Res := V
abbrev Kont := V → Heap → Option Res

def bound : Nat := 2 ^ 32
def boundB : Nat := 4096

section ops
variable (P : Program) (eqs : List TypeId)

/-- A cell of a variable: its place need not be a number. -/
def pickK : List V → Nat → (V → Option Res) → Option Res
  | [], _, _ => none
  | v :: l, off, K => cond (Nat.beq off 0) (K v) (pickK l (off - 1) K)
def boxLoad (ks : List CK) (a : Bool) (cells : List V) (off : Nat) (h : Heap) (K : Kont) : Option Res :=
  match ks with
  | [_] => pickK cells off fun v => K (mkV a [v]) h
  | _ => if off + ks.length ≤ cells.length then K (mkV a (readP ks.length cells off)) h else none

theorem pickK_eq : ∀ (l : List V) (off : Nat) (K : V → Option Res), pickK l off K = if off < l.length then K (l.getD off .undef) else none
  | [], off, K => by simp [pickK]
  | v :: l, 0, K => by simp [pickK]
  | v :: l, off + 1, K => by
    rw [pickK, pickK_eq l]
    simp

theorem boxLoad_eq (ks : List CK) (a : Bool) (cells : List V) (off : Nat) (h : Heap) (K : Kont) : boxLoad ks a cells off h K = if off + ks.length ≤ cells.length then K (mkV a (readP ks.length cells off)) h else none := by
  unfold boxLoad
  split
  · rw [pickK_eq]
    by_cases hlt : off < cells.length
    · rw [if_pos hlt, if_pos (by simp; omega)]; rfl
    · rw [if_neg hlt, if_neg (by simp; omega)]
  · rfl

def loadC (t : TypeId) (v : V) (h : Heap) (K : Kont) : Option Res :=
  match kinds P 20 t with
  | none => none
  | some ks =>
    if ks.length = P.cellsOf t ∧ (isAggT P t || ks.length == 1) = true then
    match v with
    | .ptr b off =>
      match h[b]? with
      | some B =>
        if 3 ≤ B.st then none else
        if B.box then boxLoad ks (isAggT P t) B.cells off h K
        else cond (okT ks B.cells off) (K (mkV (isAggT P t) (readT ks B.cells off)) h) none
      | none => none
    | .rop cells off => cond (okT ks cells off) (K (mkV (isAggT P t) (readT ks cells off)) h) none
    | _ => none
    else none

def storeC (t : TypeId) (a v : V) (h : Heap) (K : Kont) : Option Res :=
  match a with
  | .ptr b off =>
    match h[b]? with
    | some B =>
      if B.st = 0 ∧ v.cells.length = P.cellsOf t ∧ v.cells.all oneCell = true ∧ (P.info? t).isSome = true then
        if B.box then
          if off + v.cells.length ≤ B.cells.length then K .undef (h.set b { B with cells := setMany B.cells off v.cells }) else none
        else
          match v.cells.mapM (fz h 4) with
          | some cs =>
            match (markAll h (v.cells.flatMap (ids h 4)))[b]? with
            | some B1 =>
              if B1.st = 0 then
                cond (decide (off + cs.length ≤ B.cells.length))
                  (K .undef ((markAll h (v.cells.flatMap (ids h 4))).set b { B1 with cells := setMany B1.cells off cs })) none
              else none
            | none => none
          | none => none
      else none
    | none => none
  | _ => none

def zeroOf (t : TypeId) : Option V :=
  match P.info? t with
  | some i => match i.zero with
    | some z => some (ofValue z)
    | none => none
  | none => none

/-- A new box with a value. -/
def boxC (v : V) (h : Heap) (K : Kont) : Option Res :=
  if v.cells.all oneCell = true then K (.ptr h.length 0) (h ++ [⟨v.cells, 1, 0, true⟩]) else none

def fieldOf (t : TypeId) (f : Nat) : Option Field :=
  match P.underlying t with
  | some (.struct fs) => fs[f]?
  | _ => none

def fieldAtC (t : TypeId) (a : V) (f : Nat) (h : Heap) (K : Kont) : Option Res :=
  match fieldOf P t f with
  | some fd =>
    if P.cellsOf fd.type = 0 then none else
    match a with
    | .ptr b off => K (.ptr b (off + fd.offset)) h
    | .rop cells off => K (.rop cells (off + fd.offset)) h
    | _ => none
  | none => none

def fieldC (t : TypeId) (x : V) (f : Nat) (h : Heap) (K : Kont) : Option Res :=
  match fieldOf P t f, x with
  | some fd, .agg cs =>
    match P.underlying fd.type with
    | some _ =>
      if isAggT P fd.type then
        if fd.offset + P.cellsOf fd.type ≤ cs.length then K (.agg (readP (P.cellsOf fd.type) cs fd.offset)) h else none
      else if fd.offset < cs.length then K (cs.getD fd.offset .undef) h else none
    | none => none
  | _, _ => none

def indexAtC (t : TypeId) (x i : V) (h : Heap) (K : Kont) : Option Res :=
  match i with
  | .int _ i =>
    match P.underlying t with
    | some (.array len e) =>
      if (P.info? e).isNone then none else
      match x with
      | .ptr b off => cond (decide (0 ≤ i)) (cond (decide (i < len)) (K (.ptr b (off + i.toNat * P.cellsOf e)) h) none) none
      | .rop cells off => cond (decide (0 ≤ i)) (cond (decide (i < len)) (K (.rop cells (off + i.toNat * P.cellsOf e)) h) none) none
      | _ => none
    | some (.slice e) =>
      if (P.info? e).isNone then none else
      match x with
      | .sl n cells => cond (decide (0 ≤ i)) (cond (decide (i < n)) (K (.rop cells (i.toNat * P.cellsOf e)) h) none) none
      | .own b n => cond (decide (0 ≤ i)) (cond (decide (i < n)) (K (.ptr b (i.toNat * P.cellsOf e)) h) none) none
      | .ref b off n => cond (decide (0 ≤ i)) (cond (decide (i < n)) (K (.ptr b (off + i.toNat * P.cellsOf e)) h) none) none
      | _ => none
    | _ => none
  | _ => none

def indexC (t : TypeId) (x i : V) (h : Heap) (K : Kont) : Option Res :=
  match i, x with
  | .int _ i, .str s =>
    match P.underlying t with
    | some .string => cond (decide (0 ≤ i)) (cond (decide (i < s.length)) (K (.int .u8 ((s.getD i.toNat 0).toNat)) h) none) none
    | _ => none
  | .int _ i, .agg cs =>
    match P.underlying t with
    | some (.array len e) =>
      match kinds P 20 e with
      | some ks => cond (decide (0 ≤ i)) (cond (decide (i < len)) (if ks.length = P.cellsOf e ∧ (isAggT P e || ks.length == 1) = true then cond (okT ks cs (i.toNat * P.cellsOf e)) (K (mkV (isAggT P e) (readT ks cs (i.toNat * P.cellsOf e))) h) none else none) none) none
      | none => none
    | _ => none
  | _, _ => none

def placeOf (t : TypeId) (i : Nat) : Option (Nat × Nat) :=
  match P.underlying t with
  | some (.struct fs) => match fs[i]? with
    | some f => some (f.offset, P.cellsOf f.type)
    | none => none
  | some (.array _ e) => some (i * P.cellsOf e, P.cellsOf e)
  | some (.slice e) => some (i * P.cellsOf e, P.cellsOf e)
  | _ => none

def fillV (place : Nat → Option (Nat × Nat)) : List V → List (Nat × V) → Option (List V)
  | cells, [] => some cells
  | cells, (i, v) :: rest =>
    match place i with
    | none => none
    | some (off, size) =>
      if v.cells.length = size ∧ off + size ≤ cells.length ∧ v.cells.all oneCell = true then fillV place (setMany cells off v.cells) rest else none

def infoAll (t : TypeId) : Bool :=
  match P.underlying t with
  | some (.struct fs) => fs.toList.all fun f => (P.info? f.type).isSome
  | some (.array _ e) => (P.info? e).isSome
  | _ => false

def buildC (t : TypeId) (parts : List (Nat × V)) (h : Heap) (K : Kont) : Option Res :=
  if infoAll P t then
    match zeroOf P t with
    | some z =>
      if z.cells.all oneCell = true then
        match fillV (placeOf P t) z.cells parts with
        | some cs => K (.agg cs) h
        | none => none
      else none
    | none => none
  else none

/-- A new row out of cells that are values: they are frozen. -/
def rowC (n es : Nat) (cells : List V) (h : Heap) (K : Kont) : Option Res :=
  match cells.mapM (fz h 4) with
  | some cs => K (.own h.length n) (markAll h (cells.flatMap (ids h 4)) ++ [⟨cs, es, 0, false⟩])
  | none => none

def buildSliceC (t : TypeId) (len : Nat) (parts : List (Nat × V)) (h : Heap) (K : Kont) : Option Res :=
  match P.underlying t with
  | some (.slice e) =>
    match zeroOf P e with
    | some z =>
      if z.cells.length = P.cellsOf e ∧ len * P.cellsOf e ≤ 100000 ∧ P.cellsOf e ≠ 0 ∧ z.cells.all oneCell = true then
        if len = 0 then (if parts.isEmpty = true then K .nils h else none) else
        match fillV (placeOf P t) (List.replicate len z.cells).flatten parts with
        | some cs => if cs.all oneCell = true then rowC len (P.cellsOf e) cs h K else none
        | none => none
      else none
    | none => none
  | _ => none

def makeSliceC (t : TypeId) (len cap : V) (h : Heap) (K : Kont) : Option Res :=
  match P.underlying t, len, cap with
  | some (.slice e), .int _ l, .int _ c =>
    match zeroOf P e with
    | some z =>
      if z.cells.length = P.cellsOf e ∧ P.cellsOf e ≠ 0 ∧ P.bytesOf e ≤ boundB ∧ z.cells.all oneCell = true then
        cond (decide (0 ≤ l)) (cond (decide (l ≤ c)) (cond (decide (c ≤ bound))
          (match z.cells.mapM (fz h 4) with
            | some zs => K (.own h.length l.toNat) (h ++ [⟨(List.replicate l.toNat zs).flatten, P.cellsOf e, 0, false⟩])
            | none => none) none) none) none
      else none
    | none => none
  | _, _, _ => none

/-- The cells of what is appended or copied: how many elements, and which cells; data. -/
def srcOf (h : Heap) : V → Option (Nat × List V)
  | .sl n cells => some (n, cells)
  | .nils => some (0, [])
  | .own b n => match h[b]? with
    | some B => if B.box || 3 ≤ B.st then none else some (n, B.cells)
    | none => none
  | .ref b off n => match h[b]? with
    | some B => if B.box || 3 ≤ B.st then none else some (n, (B.cells.drop off).take (n * B.es))
    | none => none
  | .str s => some (s.length, s.map fun c => .int .u8 c.toNat)
  | _ => none

def notIntT (t : TypeId) : Bool :=
  match P.underlying t with
  | some (.int _) => false
  | some _ => true
  | none => false
def notIfT (t : TypeId) : Bool :=
  match P.underlying t with
  | some (.interface _) => false
  | some _ => true
  | none => false

def okZero (e : TypeId) : Bool :=
  match zeroOf P e with
  | some z => z.cells.length == P.cellsOf e
  | none => false

def appendC (ts : List TypeId) (s x : V) (h : Heap) (K : Kont) : Option Res :=
  match ts with
  | [t, tx] =>
    match P.underlying t with
    | some (.slice e) =>
      if P.bytesOf e ≤ boundB ∧ P.cellsOf e ≠ 0 ∧ notIntT P tx = true ∧ okZero P e = true then
        match srcOf h x with
        | some (m, new) =>
          cond (decide (new.length = m * P.cellsOf e)) (match s with
          | .nils => cond (decide (m ≤ bound)) (K (.own h.length m) (h ++ [⟨new, P.cellsOf e, 0, false⟩])) none
          | .own b n =>
            match h[b]? with
            | some B =>
              if B.box || 2 ≤ B.st || B.es != P.cellsOf e then none else
              cond (decide (n + m ≤ bound)) (K (.own h.length (n + m)) (h.set b { B with st := 3 } ++ [⟨B.cells ++ new, B.es, B.st, false⟩])) none
            | none => none
          | .ref b off n =>
            match h[b]? with
            | some B =>
              if B.box || 1 ≤ B.st || 1 ≤ off || B.es != P.cellsOf e then none else
              cond (decide (n + m ≤ bound)) (K (.own h.length (n + m)) (h.set b { B with st := 3 } ++ [⟨B.cells.take (n * B.es) ++ new, B.es, 0, false⟩])) none
            | none => none
          | _ => none) none
        | none => none
      else none
    | _ => none
  | _ => none

def copyC (ts : List TypeId) (d x : V) (h : Heap) (K : Kont) : Option Res :=
  match ts with
  | [t, _] =>
    match P.underlying t with
    | some (.slice e) =>
      if (P.info? e).isNone then none else
      match srcOf h x with
      | some (m, new) =>
        cond (decide (new.length = m * P.cellsOf e)) (match d with
          | .own b n =>
            match h[b]? with
            | some B =>
              if B.box || 1 ≤ B.st || B.es != P.cellsOf e then none else
              K (.int .i64 (min m n : Nat)) (h.set b { B with cells := new.take (min m n * P.cellsOf e) ++ B.cells.drop (min m n * P.cellsOf e) })
            | none => none
          | .ref b off n =>
            match h[b]? with
            | some B =>
              if B.box || 1 ≤ B.st || B.es != P.cellsOf e then none else
              K (.int .i64 (min m n : Nat)) (h.set b { B with cells := B.cells.take off ++ (new.take (min m n * P.cellsOf e) ++ B.cells.drop (off + min m n * P.cellsOf e)) })
            | none => none
          | .nils => K (.int .i64 0) h
          | _ => none) none
      | none => none
    | _ => none
  | _ => none

/-- The bounds of a slicing: low, high, max (none: as they are). -/
def lowOf : Option V → Option Int
  | none => some 0
  | some (.int _ l) => some l
  | _ => none
def highOf (n : Nat) : Option V → Option Int
  | none => some n
  | some (.int _ l) => some l
  | _ => none

def sliceGo (e : TypeId) (lo hi mx : Option V) (h : Heap) (K : Kont) (n : Nat) (made : Nat → Nat → V) : Option Res :=
  match lowOf lo, highOf n hi, highOf n mx with
  | some l, some r, some m =>
    if ((mx.isSome && hi.isNone) || (P.info? e).isNone) = true then none else
    cond (decide (0 ≤ l)) (cond (decide (l ≤ r)) (cond (decide (r ≤ m)) (cond (decide (m ≤ n)) (K (made l.toNat (r.toNat - l.toNat)) h) none) none) none) none
  | _, _, _ => none

def rowOk (h : Heap) (b es : Nat) : Bool :=
  match h[b]? with
  | some B => B.es == es && decide (B.st < 3) && !B.box
  | none => false

def sliceC (t : TypeId) (x : V) (lo hi mx : Option V) (h : Heap) (K : Kont) : Option Res :=
  match P.underlying t with
  | some .string =>
    match x, lowOf lo, mx with
    | .str s, some l, none => match highOf s.length hi with
      | some r => cond (decide (0 ≤ l)) (cond (decide (l ≤ r)) (cond (decide (r ≤ s.length)) (K (.str ((s.drop l.toNat).take (r.toNat - l.toNat))) h) none) none) none
      | none => none
    | _, _, _ => none
  | some (.slice e) =>
    match x with
    | .sl n cells => sliceGo P e lo hi mx h K n fun l k => .sl k ((cells.drop (l * P.cellsOf e)).take (k * P.cellsOf e))
    | .own b n => if rowOk h b (P.cellsOf e) then sliceGo P e lo hi mx h K n fun l k => .ref b (l * P.cellsOf e) k else none
    | .ref b off n => if rowOk h b (P.cellsOf e) then sliceGo P e lo hi mx h K n fun l k => .ref b (off + l * P.cellsOf e) k else none
    | .nils => sliceGo P e lo hi mx h K 0 fun _ _ => .nils
    | _ => none
  | _ => none

def partV (t : TypeId) (cs : List V) (off : Nat) : Option V :=
  match P.underlying t with
  | none => none
  | some _ =>
    if isAggT P t then
      if off + P.cellsOf t ≤ cs.length then some (.agg (readP (P.cellsOf t) cs off)) else none
    else if off < cs.length then some (cs.getD off .undef) else none

def andO : Option Bool → Option Bool → Option Bool
  | some a, some b => some (a && b)
  | _, _ => none

def eq2 (f : V → V → Option Bool) : Option V → Option V → Option Bool
  | some a, some b => f a b
  | _, _ => none

def eqV : Nat → TypeId → V → V → Option Bool
  | 0, _, _, _ => none
  | d + 1, t, x, y =>
    match P.underlying t with
    | some .bool => match x, y with
      | .bool a, .bool b => some (a == b)
      | _, _ => none
    | some (.int _) => match x, y with
      | .int k a, .int k' b => if isK k k' then some (a == b) else none
      | _, _ => none
    | some .string => match x, y with
      | .str a, .str b => some (a == b)
      | _, _ => none
    | some (.struct fs) =>
      if eqs.contains t then
        match x, y with
        | .agg xs, .agg ys => fs.toList.foldr (fun f acc =>
            if f.name = "_" then acc else andO (eq2 (eqV d f.type) (partV P f.type xs f.offset) (partV P f.type ys f.offset)) acc) (some true)
        | _, _ => none
      else none
    | some (.array n e) =>
      if eqs.contains t ∧ (P.info? e).isSome = true then
        match x, y with
        | .agg xs, .agg ys => (List.range n).foldr (fun i acc =>
            andO (eq2 (eqV d e) (partV P e xs (i * P.cellsOf e)) (partV P e ys (i * P.cellsOf e))) acc) (some true)
        | _, _ => none
      else none
    | some (.pointer _) => match x, y with
      | .nilp, .nilp => some true
      | .nilp, .ptr _ _ | .nilp, .rop _ _ | .ptr _ _, .nilp | .rop _ _, .nilp => some false
      | _, _ => none
    | some (.func _ _ _) => match x, y with
      | .nilf, .nilf => some true
      | .nilf, .fn _ _ _ | .fn _ _ _, .nilf => some false
      | _, _ => none
    | _ => none

def isNilIf : V → Option Bool
  | .nili => some true
  | .iface _ _ => some false
  | _ => none

def cmpI : BinOp → Int → Int → Option Bool
  | .eql, x, y => some (x == y)
  | .neq, x, y => some (x != y)
  | .lss, x, y => some (decide (x < y))
  | .leq, x, y => some (decide (x ≤ y))
  | .gtr, x, y => some (decide (x > y))
  | .geq, x, y => some (decide (x ≥ y))
  | _, _, _ => none

def binC (op : BinOp) (t : TypeId) (xc yc : Bool) (x y : V) (h : Heap) (K : Kont) : Option Res :=
  match op, x, y with
  | .shl, .int k a, .int _ b => cond (decide (b < 0)) none (K (.int k (k.wrap (a * 2 ^ (min b.toNat k.bits)))) h)
  | .shr, .int k a, .int _ b => cond (decide (b < 0)) none (K (.int k (a.fdiv (2 ^ (min b.toNat k.bits)))) h)
  | .add, .int k a, .int k' b => if isK k k' then K (.int k (k.wrap (a + b))) h else none
  | .sub, .int k a, .int k' b => if isK k k' then K (.int k (k.wrap (a - b))) h else none
  | .mul, .int k a, .int k' b => if isK k k' then K (.int k (k.wrap (a * b))) h else none
  | .quo, .int k a, .int k' b => if isK k k' then cond (b == 0) none (K (.int k (k.wrap (a.tdiv b))) h) else none
  | .rem, .int k a, .int k' b => if isK k k' then cond (b == 0) none (K (.int k (a.tmod b)) h) else none
  | .and, .int k a, .int k' b => if isK k k' then K (.int k (k.wrap (BitVec.ofInt k.bits a &&& BitVec.ofInt k.bits b).toNat)) h else none
  | .or, .int k a, .int k' b => if isK k k' then K (.int k (k.wrap (BitVec.ofInt k.bits a ||| BitVec.ofInt k.bits b).toNat)) h else none
  | .xor, .int k a, .int k' b => if isK k k' then K (.int k (k.wrap (BitVec.ofInt k.bits a ^^^ BitVec.ofInt k.bits b).toNat)) h else none
  | op, .int k a, .int k' b => if isK k k' then
      match cmpI op a b with
      | some r => K (.bool r) h
      | none => none
    else none
  | .add, .str a, .str b => cond (decide (a.length + b.length ≤ 2 ^ 62)) (K (.str (a ++ b)) h) none
  | .eql, .str a, .str b => K (.bool (a == b)) h
  | .neq, .str a, .str b => K (.bool (!(a == b))) h
  | .lss, .str a, .str b => K (.bool (Op.bytesLess a b)) h
  | .eql, x, y =>
    match P.underlying t with
    | some (.interface _) =>
      if xc || yc then
        match isNilIf x, isNilIf y with
        | some true, some b => K (.bool b) h
        | some a, some true => K (.bool a) h
        | _, _ => none
      else none
    | _ => match eqV P eqs 20 t x y with
      | some r => K (.bool r) h
      | none => none
  | .neq, x, y =>
    match P.underlying t with
    | some (.interface _) =>
      if xc || yc then
        match isNilIf x, isNilIf y with
        | some true, some b => K (.bool (!b)) h
        | some a, some true => K (.bool (!a)) h
        | _, _ => none
      else none
    | _ => match eqV P eqs 20 t x y with
      | some r => K (.bool (!r)) h
      | none => none
  | _, _, _ => none

def unC (op : UnOp) (x : V) (h : Heap) (K : Kont) : Option Res :=
  match op, x with
  | .neg, .int k n => K (.int k (k.wrap (0 - n))) h
  | .not, .bool b => K (.bool (!b)) h
  | _, _ => none

def convC (src dst : TypeId) (x : V) (h : Heap) (K : Kont) : Option Res :=
  match P.underlying src, P.underlying dst, x with
  | some _, some (.int k), .int _ n => K (.int k (k.wrap n)) h
  | some .string, some .string, .str s => K (.str s) h
  | _, _, _ => none

def lenC (t : TypeId) (x : V) (h : Heap) (K : Kont) : Option Res :=
  match P.underlying t, x with
  | some .string, .str s => K (.int .i64 s.length) h
  | some (.array n _), _ => K (.int .i64 n) h
  | some (.slice _), .sl n _ => K (.int .i64 n) h
  | some (.slice _), .own _ n => K (.int .i64 n) h
  | some (.slice _), .ref _ _ n => K (.int .i64 n) h
  | some (.slice _), .nils => K (.int .i64 0) h
  | _, _ => none

def foldV (f : Int → Int → Int) (k : IntKind) : Int → List V → Option V
  | x, [] => some (.int k x)
  | x, .int k' y :: rest => if isK k k' then foldV f k (f x y) rest else none
  | _, _ => none
def maxV : List V → Option V
  | .int k x :: rest => foldV (fun x y => if y > x then y else x) k x rest
  | _ => none
def minV : List V → Option V
  | .int k x :: rest => foldV (fun x y => if y < x then y else x) k x rest
  | _ => none

end ops

def evO (env : List V) : Operand → V
  | .tmp t => env.getD t .undef
  | .const v => ofValue v
  | .global _ => .undef
  | .func f => .fn f [] []

def evL (env : List V) (l : List Operand) : List V := l.map (evO env)

def isConstO : Operand → Bool
  | .const _ => true
  | _ => false

def putE (env : List V) : Option Nat → V → List V
  | some d, v => env.set d v
  | none, _ => env

/-- An operation that is no call of a function. -/
def opC (c : Cfg) (o : Oper) (env : List V) (h : Heap) (K : Kont) : Option Res :=
  match o.op with
  | .move x => K (evO env x) h
  | .assign x => K (evO env x) h
  | .pick q a b => match evO env q with
    | .bool t => cond t (K (evO env a) h) (K (evO env b) h)
    | _ => none
  | .alloc t => match zeroOf c.P t with
    | some z => boxC z h K
    | none => none
  | .box _ x => boxC (evO env x) h K
  | .build t parts => buildC c.P t (parts.toList.map fun p => (p.1, evO env p.2)) h K
  | .buildSlice t len parts => buildSliceC c.P t len (parts.toList.map fun p => (p.1, evO env p.2)) h K
  | .load t a => loadC c.P t (evO env a) h K
  | .store t a x => storeC c.P t (evO env a) (evO env x) h K
  | .nilCheck x => match evO env x with
    | .ptr b off => K (.ptr b off) h
    | .rop cells off => K (.rop cells off) h
    | .fn f a b => K (.fn f a b) h
    | _ => none
  | .binOp op t x y _ => binC c.P c.eqs op t (isConstO x) (isConstO y) (evO env x) (evO env y) h K
  | .unOp op _ x => unC op (evO env x) h K
  | .convert s d x => convC c.P s d (evO env x) h K
  | .makeInterface t x => if notIfT c.P t then K (.iface t (evO env x)) h else none
  | .makeFunc (.func f) a b => K (.fn f (evL env a.toList) (evL env b.toList)) h
  | .makeSlice t l cp => makeSliceC c.P t (evO env l) (evO env cp) h K
  | .slice t x lo hi mx => sliceC c.P t (evO env x) (lo.map (evO env)) (hi.map (evO env)) (mx.map (evO env)) h K
  | .fieldAddr t a f => fieldAtC c.P t (evO env a) f h K
  | .field t x f => fieldC c.P t (evO env x) f h K
  | .indexAddr t x i => indexAtC c.P t (evO env x) (evO env i) h K
  | .index t x i => indexC c.P t (evO env x) (evO env i) h K
  | .extract x i => match evO env x with
    | .tup vs => if i < vs.length then K (vs.getD i .undef) h else none
    | _ => none
  | .call q =>
    match q.callee with
    | .builtin .len => match q.argTypes.toList, q.args.toList with
      | t :: _, x :: _ => lenC c.P t (evO env x) h K
      | _, _ => none
    | .builtin .append => match q.args.toList with
      | [s, x] => appendC c.P q.argTypes.toList (evO env s) (evO env x) h K
      | _ => none
    | .builtin .copy => match q.args.toList with
      | [s, x] => copyC c.P q.argTypes.toList (evO env s) (evO env x) h K
      | _ => none
    | .builtin .max => match maxV (evL env q.args.toList) with
      | some v => K v h
      | none => none
    | .builtin .min => match minV (evL env q.args.toList) with
      | some v => K v h
      | none => none
    | _ => none
  | _ => none

/-- The function, and the arguments, of a call of a function value. -/
def calleeOf (env : List V) (o : Oper) : Option (Nat × List V) :=
  match o.op with
  | .call q => match q.callee with
    | .value f => match evO env f with
      | .fn g a b => some (g, a ++ evL env q.args.toList ++ b)
      | _ => none
    | _ => none
  | _ => none

/-- The kinds of a function's results, by components. -/
def resK (P : Program) (f : Nat) : Option (List (Bool × List CK)) :=
  match P.funcs[f]? with
  | some fn => fn.resultTypes.toList.mapM fun t => match kinds P 20 t with
    | some ks => some (isAggT P t, ks)
    | none => none
  | none => none

def isAggV : V → Bool
  | .agg _ => true
  | _ => false
def okComp : Bool × List CK → V → Bool
  | (a, ks), v => (isAggV v == a) && ((v.cells.length == ks.length) && okT ks v.cells 0)
def coeComp : Bool × List CK → V → V
  | (a, ks), v => mkV a (readT ks v.cells 0)

def okRes : List (Bool × List CK) → V → Bool
  | [k], v => okComp k v
  | ks, .tup vs => (vs.length == ks.length) && (ks.zip vs).all fun p => okComp p.1 p.2
  | _, _ => false
def coeRes : List (Bool × List CK) → V → V
  | [k], v => coeComp k v
  | ks, v => .tup (ks.zipIdx.map fun p => coeComp p.1 (v.cs.getD p.2 .undef))

def slK : CK → Bool
  | .sl _ | .o => true
  | _ => false
def hasSlK (ks : List (Bool × List CK)) : Bool := ks.any fun p => p.2.any slK

/-- Results that are the callee's own become new rows. -/
def thawC : List CK → List V → Heap → List V × Heap
  | .sl es :: ks, v :: vs, h =>
    let r := thawC ks vs (h ++ [⟨v.slC, es, 0, false⟩])
    (.own h.length v.slN :: r.1, r.2)
  | _ :: ks, v :: vs, h =>
    let r := thawC ks vs h
    (v :: r.1, r.2)
  | _, vs, h => (vs, h)
def thawComp (k : Bool × List CK) (v : V) (h : Heap) : V × Heap :=
  let r := thawC k.2 v.cells h
  (mkV k.1 r.1, r.2)
def thawRes : List (Bool × List CK) → List V → Heap → List V × Heap
  | k :: ks, v :: vs, h =>
    let r := thawComp k v h
    let q := thawRes ks vs r.2
    (r.1 :: q.1, q.2)
  | _, vs, h => (vs, h)
def thaw (ks : List (Bool × List CK)) (v : V) (h : Heap) : V × Heap :=
  match ks with
  | [k] => thawComp k v h
  | ks => let r := thawRes ks v.cs h
    (.tup r.1, r.2)

def resV (c : Cfg) (s : St) : ResultVar → Option V
  | .tmp t => some (s.env.getD t .undef)
  | .cell a t => loadC c.P t (s.env.getD a .undef) s.heap fun v _ => some v

/-- The results of a function, as they stand in its frame. -/
def resultC (c : Cfg) (s : St) : Option V :=
  match c.P.funcs[s.fn]? with
  | none => none
  | some fn =>
    match fn.results.toList.mapM (resV c s) with
    | some [v] => some v
    | some vs => some (.tup vs)
    | none => none

def fzRes (h : Heap) : V → Option V
  | .tup vs => match vs.mapM (fz h 4) with
    | some vs => some (.tup vs)
    | none => none
  | v => fz h 4 v

/-- Are a value's rows its own: whole, live, each one once. -/
def scalV : V → Bool
  | .bool _ | .int _ _ | .str _ | .nilp | .nilf | .nili => true
  | _ => false
def ownC1 (h : Heap) : CK → V → Bool
  | .sl es, .own b _ => match h[b]? with
    | some B => (B.st == 0) && ((!B.box) && ((B.es == es) && decide (0 < es)))
    | none => false
  | .sl es, .nils => decide (0 < es)
  | .sl _, _ => false
  | _, v => scalV v
def ownCs (h : Heap) : List CK → List V → Bool
  | [], [] => true
  | k :: ks, v :: vs => ownC1 h k v && ownCs h ks vs
  | _, _ => false
def nodupN : List Nat → Bool
  | [] => true
  | a :: l => !l.contains a && nodupN l
def ownId : V → List Nat
  | .own b _ => [b]
  | _ => []
/-- The components of a function's result. -/
def compsV (ks : List (Bool × List CK)) (v : V) : List V :=
  match ks with
  | [_] => [v]
  | _ => v.cs
def ownComps (h : Heap) : List (Bool × List CK) → List V → Bool
  | [], [] => true
  | k :: ks, v :: vs => ((isAggV v == k.1) && ownCs h k.2 v.cells) && ownComps h ks vs
  | _, _ => false
def tupOk : List (Bool × List CK) → V → Bool
  | [_], .tup _ => false
  | [_], _ => true
  | _, .tup _ => true
  | _, _ => false
def ownOk (h : Heap) (ks : List (Bool × List CK)) (v : V) : Bool :=
  tupOk ks v && (ownComps h ks (compsV ks v) && nodupN ((compsV ks v).flatMap fun c => c.cells.flatMap ownId))

/-- What a function that has come to its end hands to a caller that is data alone. -/
def exportC (c : Cfg) (s : St) : Option V :=
  match resultC c s with
  | none => none
  | some v =>
    match c.md s.fn with
    | some .own => match resK c.P s.fn with
      | some ks => if ownOk s.heap ks v then fzRes s.heap v else none
      | none => none
    | some .pure => fzRes s.heap v
    | _ => none

def exitIt (id : Nat) : List It → Option (List It)
  | .inBlock id' :: k => if id' == id then some k else exitIt id k
  | _ :: k => exitIt id k
  | [] => none

def gotoIt (l : Nat) : List It → Option (List It)
  | .inScope body :: k =>
    match findLabel body l with
    | some rest => some (.code rest :: .inScope body :: k)
    | none => gotoIt l k
  | _ :: k => gotoIt l k
  | [] => none

def guardOf (all : Array Oper) (env : List V) (o : Oper) : Option Bool :=
  match o.guard with
  | none => some true
  | some (j, want) =>
    match (all[j]?).bind (·.dst) with
    | some d => match env.getD d .undef with
      | .bool b => some (b == want)
      | .tup [] => some false
      | _ => none
    | none => none

/-! Trimming: only some slots are kept; unreachable local blocks are dropped, the others numbered anew. -/
def maskE : Nat → List Nat → List V → List V
  | _, _, [] => []
  | i, l, v :: vs => match l with
    | [] => .undef :: maskE (i + 1) [] vs
    | j :: l' => if i = j then v :: maskE (i + 1) l' vs else .undef :: maskE (i + 1) (j :: l') vs

def addIds : List Nat → List Nat → List Nat
  | acc, [] => acc
  | acc, i :: l => if acc.contains i then addIds acc l else addIds (acc ++ [i]) l

def boxIds (h : Heap) (i : Nat) : List Nat :=
  match h[i]? with
  | some B => if B.box then B.cells.flatMap (ids [] 4) else []
  | none => []
def reachC (h : Heap) : Nat → List Nat → List Nat
  | 0, acc => acc
  | n + 1, acc => reachC h n (addIds acc (acc.flatMap (boxIds h)))

def ren (r : List (Nat × Nat)) (b : Nat) : Option Nat := (r.find? fun p => p.1 == b).map (·.2)

def renV (r : List (Nat × Nat)) : Nat → V → V
  | 0, _ => .undef
  | d + 1, v =>
    match v with
    | .own b n => match ren r b with
      | some b' => .own b' n
      | none => .undef
    | .ref b off n => match ren r b with
      | some b' => .ref b' off n
      | none => .undef
    | .ptr b off => match ren r b with
      | some b' => .ptr b' off
      | none => .undef
    | .agg cs => .agg (cs.map (renV r d))
    | .tup cs => .tup (cs.map (renV r d))
    | .fn f a b => .fn f (a.map (renV r d)) (b.map (renV r d))
    | .iface t x => .iface t (renV r d x)
    | v => v

def trim (s : St) (keep : List Nat) : St :=
  let env := maskE 0 keep s.env
  let roots := addIds [] (env.flatMap (ids [] 4))
  let live := ((reachC s.heap 4 (addIds (List.range s.lo) roots)).drop s.lo)
  let r := (List.range s.lo).map (fun i => (i, i)) ++ live.zipIdx.map fun p => (p.1, s.lo + p.2)
  { s with
    env := env.map (renV r 6)
    heap := (r.map fun p => match s.heap[p.1]? with
      | some B => if B.box then { B with cells := B.cells.map (renV r 6) } else B
      | none => ⟨[], 1, 3, false⟩) }

/-- A slot that holds no slice, or a variable's cell that holds none, gets a row of its own, which is empty; es = 0: what a slot leads to is frozen. A cell: slot + 4096 * (offset + 1). -/
def fresh1 (s : St) (p : Nat × Nat) : St :=
  if p.2 = 0 then { s with heap := markAll s.heap (ids s.heap 4 (s.env.getD p.1 .undef)) } else
  if p.1 < 4096 then
    match s.env.getD p.1 .undef with
    | .nils => { s with env := s.env.set p.1 (.own s.heap.length 0), heap := s.heap ++ [⟨[], p.2, 0, false⟩] }
    | _ => s
  else
    match s.env.getD (p.1 % 4096) .undef with
    | .ptr b o =>
      match s.heap[b]? with
      | some B =>
        if B.box = true ∧ B.st < 3 then
          match B.cells.getD (o + p.1 / 4096 - 1) .undef with
          | .nils => { s with heap := (s.heap ++ [(⟨[], p.2, 0, false⟩ : Blk)]).set b { B with cells := B.cells.set (o + p.1 / 4096 - 1) (.own s.heap.length 0) } }
          | _ => s
        else s
      | none => s
    | _ => s
def freshAll (s : St) (l : List (Nat × Nat)) : St := l.foldl fresh1 s

/-- The gas of a stretch. -/
def gas : Nat := 3000

/-- A call from data to data, carried out by 'cl'. -/
def pureC (c : Cfg) (cl : Nat → List V → Option V) (g : Nat) (args : List V) (h : Heap) (K : Kont) : Option Res :=
  match resK c.P g, args.mapM (fz h 4) with
  | some ks, some as =>
    (cl g as).bind fun v => cond (okRes ks v) (K (coeRes ks v) (if hasSlK ks then markAll h (args.flatMap (ids h 4)) else h)) none
  | _, _ => none
def ownC (c : Cfg) (cl : Nat → List V → Option V) (g : Nat) (args : List V) (h : Heap) (K : Kont) : Option Res :=
  match resK c.P g, args.mapM (fz h 4) with
  | some ks, some as =>
    (cl g as).bind fun v => cond (okRes ks v)
      (let q := thaw ks (coeRes ks v) (markAll h (args.flatMap (ids h 4)))
       K q.1 q.2) none
  | _, _ => none
def callC (c : Cfg) (cl : Nat → List V → Option V) (g : Nat) (args : List V) (h : Heap) (K : Kont) : Option Res :=
  match c.md g with
  | some .pure => pureC c cl g args h K
  | some .own => ownC c cl g args h K
  | some .ext => pureC c c.ext g args h K
  | some .xown => ownC c c.ext g args h K
  | _ => none
/-- A call of a function value that is no name. -/
def isDyn (o : Oper) : Bool :=
  match o.op with
  | .call q => match q.callee with
    | .value (.func _) => false
    | _ => true
  | _ => false
def pureMd : Option Md → Bool
  | some .pure | some .ext => true
  | _ => false
/-- An operation, but for a call that is carried out in place. -/
def stepC (c : Cfg) (cl : Nat → List V → Option V) (o : Oper) (env : List V) (h : Heap) (K : Kont) : Option Res :=
  match calleeOf env o with
  | some (g, args) => if isDyn o && !pureMd (c.md g) then none else callC c cl g args h K
  | none => opC c o env h K

/-- The callee, its arguments and its body, if the call is carried out in place. -/
def inlOf (c : Cfg) (env : List V) (o : Oper) : Option (Nat × List V) :=
  match calleeOf env o with
  | some (g, args) => match c.md g with
    | some .inl => some (g, args)
    | _ => none
  | none => none

/-! Regions that draw their order: one order serves all. -/

/-- How much of the heap an operation that leaves it as it is (but for marks) looks at: 0 nothing, 1 not the cells, 2 all. -/
def lvlOf (c : Cfg) (o : Oper) : Option Nat :=
  match o.op with
  | .move _ | .assign _ | .pick _ _ _ | .build _ _ | .nilCheck _ | .binOp _ _ _ _ _ | .unOp _ _ _ | .convert _ _ _ | .makeInterface _ _ | .makeFunc _ _ _ | .fieldAddr _ _ _ | .field _ _ _ | .indexAddr _ _ _ | .index _ _ _ | .extract _ _ => some 0
  | .slice _ _ _ _ _ => some 1
  | .load _ _ => some 2
  | .call q => match q.callee with
    | .builtin .len | .builtin .max | .builtin .min => some 0
    | .value (.func f) => if pureMd (c.md f) then some 2 else none
    | .value _ => some 2
    | _ => none
  | _ => none

/-- New blocks at the end. -/
def clsN (c : Cfg) (o : Oper) : Bool :=
  match o.op with
  | .alloc _ | .box _ _ | .makeSlice _ _ _ | .buildSlice _ _ _ => true
  | .call q => match q.callee with
    | .value (.func f) => match c.md f with
      | some .own | some .xown => true
      | _ => false
    | _ => false
  | _ => false

/-- m: it only marks (slots from r0 on are not yet there); slot: the q-th new variable; n: new blocks at the end; st: a store to the q-th new variable, whose address is in d; o: the rest. -/
inductive Kd where
  | m (r0 : Nat) | slot (q : Nat) | n | st (d q : Nat) | o
  deriving Inhabited

/-- An unguarded new variable. -/
def allocD (o : Oper) : Option Nat :=
  match o.op, o.guard with
  | .alloc _, none => o.dst
  | _, _ => none
def storeD (o : Oper) : Option Nat :=
  match o.op with
  | .store _ (.tmp d) _ => some d
  | _ => none
def isStore (o : Oper) : Bool :=
  match o.op with
  | .store _ _ _ => true
  | _ => false

def classify (c : Cfg) (all : Array Oper) : List Nat → Nat → Bool → List (Nat × Nat) → List (Nat × Kd)
  | [], _, _, _ => []
  | i :: l, r, slots, ds =>
    match all[i]? with
    | none => []
    | some o =>
      match lvlOf c o with
      | some _ => (i, .m r) :: classify c all l r slots ds
      | none =>
        match slots, allocD o with
        | true, some d => (i, .slot r) :: classify c all l (r + 1) true ((d, r) :: ds)
        | _, _ =>
          match (storeD o).bind fun d => (ds.find? (·.1 == d)) with
          | some p => (i, .st p.1 p.2) :: classify c all l r false ds
          | none => (i, if clsN c o then .n else .o) :: classify c all l r false ds

def kdOf (l : List (Nat × Kd)) (i : Nat) : Kd := ((l.find? (·.1 == i)).map (·.2)).getD .o

/-- Is the kind of each operation right, in this order: r slots are there, of k. -/
def consB (c : Cfg) (all : Array Oper) (kd : Nat → Kd) (k : Nat) : List Nat → Nat → List (Nat × Nat) → Bool
  | [], r, _ => r == k
  | i :: l, r, ds =>
    match all[i]? with
    | none => false
    | some o =>
      match kd i with
      | .m r0 => ((lvlOf c o).isSome && decide (r ≤ r0)) && consB c all kd k l r ds
      | .slot q => match allocD o with
        | some d => (q == r && (decide (r < k) && (List.range all.size).all fun j => j == i || (match all[j]? with
          | some oj => oj.dst != some d
          | none => true))) && consB c all kd k l (r + 1) ((d, q) :: ds)
        | none => false
      | .n => (clsN c o && r == k) && consB c all kd k l r ds
      | .st d q => (storeD o == some d && (ds.contains (d, q) && r == k)) && consB c all kd k l r ds
      | .o => (r == k) && consB c all kd k l r ds

def lv0 (c : Cfg) (kd : Kd) (o : Oper) : Bool :=
  match kd, lvlOf c o with
  | .m _, some 0 => true
  | _, _ => false
def lv1 (c : Cfg) (o : Oper) : Bool :=
  match lvlOf c o with
  | some 0 | some 1 => true
  | _ => false

/-- May the first of two operations come behind the second. -/
def swapB (c : Cfg) (all : Array Oper) (ki kj : Kd) (oi oj : Oper) : Bool :=
  oi.apart all oj && (lv0 c ki oi || (lv0 c kj oj || (match ki, kj with
    | .m _, .m _ => true
    | .m _, .slot _ => true
    | .m _, .n => true
    | .m r0, .st _ q => lv1 c oi || decide (r0 ≤ q)
    | .m _, .o => lv1 c oi && isStore oj
    | .slot q, .slot q' => q != q'
    | _, _ => false)))

/-- What waits for i, among 'js'. -/
def descOf (all : Array Oper) (i : Nat) : List Nat → List Nat → List Nat
  | acc, [] => acc
  | acc, j :: js =>
    match all[j]? with
    | some oj => if oj.after.any (fun e => Region.binds .any e && (e.on == i || acc.contains e.on)) then descOf all i (acc ++ [j]) js else descOf all i acc js
    | none => descOf all i acc js

def freeA (c : Cfg) (all : Array Oper) (kd : Nat → Kd) (listed : Array Bool) (i : Nat) (oi : Oper) (D : List Nat) : Bool :=
  ((List.range all.size).all fun j => j == i || (listed.getD j true || (D.contains j || (match all[j]? with
    | some oj => swapB c all (kd i) (kd j) oi oj
    | none => true)))) && D.all fun k => !(listed.getD k false)

/-- May the operations come up in this order, and does it serve all. -/
def ordB (c : Cfg) (all : Array Oper) (kd : Nat → Kd) : List Nat → Array Bool → Bool
  | [], listed => (Region.ready .any all listed).isEmpty
  | i :: l, listed =>
    match all[i]? with
    | some oi => (Region.ready .any all listed).contains i && (freeA c all kd listed i oi (descOf all i [] (List.range all.size)) && ordB c all kd l (listed.setIfInBounds i true))
    | none => false

def nslots (l : List (Nat × Kd)) : Nat := (l.filter fun p => match p.2 with
  | .slot _ => true
  | _ => false).length

/-- May a region's operations come up in whatever order, this one in place of all. -/
def drawOk (c : Cfg) (all : Array Oper) (l : List Nat) : Bool :=
  let kl := classify c all l 0 true []
  ((l.length == all.size) && (List.range all.size).all (fun i => l.contains i)) && (consB c all (kdOf kl) (nslots kl) l 0 [] && ordB c all (kdOf kl) l (Array.replicate all.size false))

/-- A truth value is known from where it comes up. -/
def splitB (v : V) (k : V → Option Res) : Option Res :=
  match v with
  | .bool b => cond b (k (.bool true)) (k (.bool false))
  | v => k v
theorem splitB_eq (v : V) (k : V → Option Res) : splitB v k = k v := by
  cases v with
  | bool b => cases b <;> rfl
  | _ => rfl

/-! Is a slice nil: where its length tells nothing, both answers must lead to one. -/
mutual
def sameV : V → V → Bool
  | .undef, .undef => true
  | .bool a, .bool b => a == b
  | .int k a, .int k' b => isK k k' && (a == b)
  | .str a, .str b => a == b
  | .nils, .nils => true
  | .sl n a, .sl m b => (n == m) && sameL a b
  | .nilp, .nilp => true
  | .nilf, .nilf => true
  | .nili, .nili => true
  | .agg a, .agg b => sameL a b
  | .tup a, .tup b => sameL a b
  | _, _ => false
def sameL : List V → List V → Bool
  | [], [] => true
  | a :: l, b :: l' => sameV a b && sameL l l'
  | _, _ => false
end
def slLen : V → Option Nat
  | .sl n _ => some n
  | .own _ n => some n
  | .ref _ _ n => some n
  | .nils => some 0
  | _ => none
def isNilC : Operand → Bool
  | .const (.slice none 0 0) => true
  | _ => false
def isSliceT (P : Program) (t : TypeId) : Bool :=
  match P.underlying t with
  | some (.slice _) => true
  | _ => false
/-- The length of what is compared with nil, and whether it is asked for nil or for what is not. -/
def nilOf (c : Cfg) (env : List V) (o : Oper) : Option (Nat × Bool) :=
  match o.op with
  | .binOp op t x y _ =>
    if isNilC y && isSliceT c.P t then
      match op, slLen (evO env x) with
      | .eql, some n => some (n, true)
      | .neq, some n => some (n, false)
      | _, _ => none
    else none
  | _ => none

/-- One stretch: 'next' goes on behind a cut, a loop's head; 'callF' is a call from data to data. -/
def go (c : Cfg) (next : List It → St → Option Res) (callF : Nat → List V → Option V) : Nat → List It → St → Option Res
  | 0, _, _ => none
  | m + 1, todo, s =>
    let ret : Unit → Option Res := fun _ =>
      match s.frs with
      | [] => exportC c s
      | f :: frs => match resultC c s with
        | some v => go c next callF m f.todo { fn := f.fn, env := putE f.env f.dst v, heap := s.heap, frs, lo := f.lo }
        | none => none
    match todo with
    | [] => ret ()
    | .code (.ret) :: _ => ret ()
    | .code .skip :: k => go c next callF m k s
    | .code (.label _) :: k => go c next callF m k s
    | .inBlock _ :: k => go c next callF m k s
    | .inScope _ :: k => go c next callF m k s
    | .code (.scope a) :: k => go c next callF m (.code a :: .inScope a :: k) s
    | .code (.goto l) :: k =>
      match gotoIt l k with
      | some k' => go c next callF m k' s
      | none => none
    | .code (.seq a b) :: k => go c next callF m (.code a :: .code b :: k) s
    | .code (.cond q a b) :: k =>
      match evO s.env q with
      | .bool t => cond t (go c next callF m (.code a :: k) s) (go c next callF m (.code b :: k) s)
      | _ => none
    | .code (.block id a) :: k => go c next callF m (.code a :: .inBlock id :: k) s
    | .code (.loop a) :: k => go c next callF m (.code a :: .inLoop a :: k) s
    | .inLoop a :: k => go c next callF m (.code a :: .inLoop a :: k) s
    | .code (.exit id) :: k =>
      match exitIt id k with
      | some k' => go c next callF m k' s
      | none => none
    | .code (.region id all draw) :: k =>
      match c.cut s.fn id with
      | some keep => next (.reg id all draw :: k) (trim (freshAll s (c.fresh s.fn id)) keep)
      | none => go c next callF m (.reg id all draw :: k) s
    | .reg _ all false :: k => go c next callF m (.ops all all.toList :: k) s
    | .reg id all true :: k =>
      if drawOk c all ((c.ord s.fn id).getD (List.range all.size)) then go c next callF m (.opsD all (((c.ord s.fn id).getD (List.range all.size)).filterMap (all[·]?)) :: k) s else none
    | .code _ :: _ => none
    | .opsD _ [] :: k => go c next callF m k s
    | .opsD all (o :: rest) :: k =>
      match guardOf all s.env o with
      | none => none
      | some w => cond w
        (match inlOf c s.env o with
          | some _ => none
          | none => stepC c callF o s.env s.heap fun v h => splitB v fun v => go c next callF m (.opsD all rest :: k) { s with env := putE s.env o.dst v, heap := h })
        (go c next callF m (.opsD all rest :: k) { s with env := putE s.env o.dst (.tup []) })
    | .ops _ [] :: k => go c next callF m k s
    | .ops all (o :: rest) :: k =>
      match guardOf all s.env o with
      | none => none
      | some w => cond w
        (match inlOf c s.env o with
          | some (g, args) =>
            match c.P.funcs[g]? with
            | some fn => match fn.body with
              | some body => go c next callF m [.code body]
                  { fn := g, env := args ++ List.replicate (fn.ntmps - args.length) .undef, heap := s.heap,
                    frs := ⟨s.fn, s.env, o.dst, .ops all rest :: k, s.lo⟩ :: s.frs, lo := s.heap.length }
              | none => none
            | none => none
          | none =>
            match nilOf c s.env o with
            | some (n, q) =>
              cond (Nat.beq n 0)
                ((go c next callF m (.ops all rest :: k) { s with env := putE s.env o.dst (.bool true) }).bind fun a =>
                  (go c next callF m (.ops all rest :: k) { s with env := putE s.env o.dst (.bool false) }).bind fun b => cond (sameV a b) (some a) none)
                (go c next callF m (.ops all rest :: k) { s with env := putE s.env o.dst (.bool (!q)) })
            | none => stepC c callF o s.env s.heap fun v h => splitB v fun v => go c next callF m (.ops all rest :: k) { s with env := putE s.env o.dst v, heap := h })
        (go c next callF m (.ops all rest :: k) { s with env := putE s.env o.dst (.tup []) })

def startOf (c : Cfg) (f : Nat) (args : List V) : Option (List It × St) :=
  match c.P.funcs[f]? with
  | some fn => match fn.body with
    | some body => some ([.code body], { fn := f, env := args ++ List.replicate (fn.ntmps - args.length) .undef, heap := [], frs := [], lo := 0 })
    | none => none
  | none => none

/-- From a cut on, with fuel. -/
def run (c : Cfg) : Nat → List It → St → Option Res
  | 0, _, _ => none
  | n + 1, todo, s =>
    go c (run c n) (fun f args => match startOf c f args with
      | some (t, s) => run c n t s
      | none => none) gas todo s

def call (c : Cfg) (n : Nat) (f : Nat) (args : List V) : Option V :=
  match startOf c f args with
  | some (t, s) => run c n t s
  | none => none

/-! Names for the points at which a run is cut. -/
def findReg (id : Nat) : Code → List It → Option (List It)
  | .region id' all d, k => if id' == id then some (.reg id' all d :: k) else none
  | .seq a b, k => match findReg id a (.code b :: k) with
    | some r => some r
    | none => findReg id b k
  | .cond _ a b, k => match findReg id a k with
    | some r => some r
    | none => findReg id b k
  | .block bid a, k => findReg id a (.inBlock bid :: k)
  | .loop a, k => findReg id a (.inLoop a :: k)
  | .scope a, k => findReg id a (.inScope a :: k)
  | _, _ => none
def todoAt (c : Cfg) (f id : Nat) : List It :=
  match c.P.funcs[f]? with
  | some fn => match fn.body with
    | some body => (findReg id body []).getD []
    | none => []
  | none => []
def opsAt (c : Cfg) (f id j : Nat) : List It :=
  match todoAt c f id with
  | .reg _ all _ :: k => .ops all (all.toList.drop j) :: k
  | _ => []
def runAt (c : Cfg) (n f id : Nat) (env : List V) (heap : Heap) (frs : List Fr) (lo : Nat) : Option Res := run c n (todoAt c f id) ⟨f, env, heap, frs, lo⟩

/-- A cell. -/
def cellAt (c : List V) (k : Nat) : V := c.getD k .undef

/-- An environment of n slots: only what is there. -/
def envOf (n : Nat) (l : List (Nat × V)) : List V := l.foldl (fun e p => e.set p.1 p.2) (List.replicate n .undef)

end Go.Pv

/- What abstract values and blocks stand for, in a world. -/
namespace Go.Pv
open Go Go.RowKit

/-- Frozen cells: block, offset. -/
abbrev Fz := Nat → Nat → Option Value

def Fz.le (F F' : Fz) : Prop := ∀ b o u, F b o = some u → F' b o = some u

theorem Fz.le_refl (F : Fz) : Fz.le F F := fun _ _ _ h => h
theorem Fz.le_trans {F F' F'' : Fz} (h : Fz.le F F') (h' : Fz.le F' F'') : Fz.le F F'' := fun _ _ _ k => h' _ _ _ (h _ _ _ k)

/-- Data: a value that is, or leads into frozen cells to, what is told. -/
inductive RepD (F : Fz) : Value → V → Prop
  | undef (v : Value) : RepD F v .undef
  | bool (b : Bool) : RepD F (.bool b) (.bool b)
  | int (k : IntKind) (n : Int) : RepD F (.int k n) (.int k n)
  | str (l : List UInt8) : RepD F (.string ⟨l.toArray⟩) (.str l)
  | nils (a : Option Addr) : RepD F (.slice a 0 0) .nils
  | sl0 (a : Option Addr) (cap : Nat) : RepD F (.slice a 0 cap) (.sl 0 [])
  | sl (b o n cap : Nat) (cells : List V) (hn : n ≤ cap) (hs : ∀ j c, cells[j]? = some c → (F b (o + j)).isSome = true)
      (hr : ∀ j c u, cells[j]? = some c → F b (o + j) = some u → RepD F u c) : RepD F (.slice (some ⟨b, o, none⟩) n cap) (.sl n cells)
  | nilp : RepD F (.pointer none) .nilp
  | rop (b o off : Nat) (cells : List V) (hs : ∀ j c, cells[j]? = some c → (F b (o + j)).isSome = true)
      (hr : ∀ j c u, cells[j]? = some c → F b (o + j) = some u → RepD F u c) : RepD F (.pointer (some ⟨b, o + off, none⟩)) (.rop cells off)
  | fn (f : Nat) (a' c' : Array Value) (a c : List V) (ha : a'.size = a.length) (hc : c'.size = c.length)
      (ra : ∀ (j : Nat) (x : V) (u : Value), a[j]? = some x → a'[j]? = some u → RepD F u x)
      (rc : ∀ (j : Nat) (x : V) (u : Value), c[j]? = some x → c'[j]? = some u → RepD F u x) : RepD F (.func (.func f) a' c') (.fn f a c)
  | nilf : RepD F .nilFunc .nilf
  | nili : RepD F .nilIface .nili
  | iface (t : Nat) (u : Value) (x : V) (h : RepD F u x) : RepD F (.iface t u) (.iface t x)
  | agg (cs' : Array Value) (cs : List V) (hl : cs'.size = cs.length)
      (hr : ∀ (j : Nat) (x : V) (u : Value), cs[j]? = some x → cs'[j]? = some u → RepD F u x) : RepD F (.agg cs') (.agg cs)
  | tup (cs' : Array Value) (cs : List V) (hl : cs'.size = cs.length)
      (hr : ∀ (j : Nat) (x : V) (u : Value), cs[j]? = some x → cs'[j]? = some u → RepD F u x) : RepD F (.tuple cs') (.tup cs)

theorem RepD.mono {F F' : Fz} (hF : Fz.le F F') {v : Value} {a : V} (h : RepD F v a) : RepD F' v a := by
  induction h with
  | undef v => exact .undef v
  | bool b => exact .bool b
  | int k n => exact .int k n
  | str l => exact .str l
  | nils a => exact .nils a
  | sl0 a cap => exact .sl0 a cap
  | sl b o n cap cells hn hs hr ih =>
    refine .sl b o n cap cells hn (fun j c hj => ?_) (fun j c u hj hu => ?_)
    · obtain ⟨u, hu⟩ := Option.isSome_iff_exists.1 (hs j c hj)
      rw [hF _ _ _ hu]; rfl
    · obtain ⟨u', hu'⟩ := Option.isSome_iff_exists.1 (hs j c hj)
      have := hF _ _ _ hu'
      rw [hu] at this
      obtain rfl := Option.some.inj this
      exact ih j c _ hj hu'
  | nilp => exact .nilp
  | rop b o off cells hs hr ih =>
    refine .rop b o off cells (fun j c hj => ?_) (fun j c u hj hu => ?_)
    · obtain ⟨u, hu⟩ := Option.isSome_iff_exists.1 (hs j c hj)
      rw [hF _ _ _ hu]; rfl
    · obtain ⟨u', hu'⟩ := Option.isSome_iff_exists.1 (hs j c hj)
      have := hF _ _ _ hu'
      rw [hu] at this
      obtain rfl := Option.some.inj this
      exact ih j c _ hj hu'
  | fn f a' c' a c ha hc ra rc iha ihc => exact .fn f a' c' a c ha hc iha ihc
  | nilf => exact .nilf
  | nili => exact .nili
  | iface t u x h ih => exact .iface t u x ih
  | agg cs' cs hl hr ih => exact .agg cs' cs hl ih
  | tup cs' cs hl hr ih => exact .tup cs' cs hl ih

/-- Where the local blocks lie; their elements' size, how many elements, the size of the concrete block. -/
structure G where
  F : Fz
  pre : Fz
  n : Nat
  loc : Nat → Option Nat
  es : Nat → Nat
  cnt : Nat → Nat
  sz : Nat → Nat

structure G.le (g g' : G) : Prop where
  F : Fz.le g.F g'.F
  pre : g'.pre = g.pre
  n : g.n ≤ g'.n
  loc : ∀ b, b < g.n → g'.loc b = g.loc b
  es : ∀ b, b < g.n → g'.es b = g.es b
  cnt : ∀ b, b < g.n → g'.cnt b = g.cnt b
  sz : ∀ b, b < g.n → g'.sz b = g.sz b

theorem G.le_refl (g : G) : g.le g := ⟨Fz.le_refl _, rfl, Nat.le_refl _, fun _ _ => rfl, fun _ _ => rfl, fun _ _ => rfl, fun _ _ => rfl⟩
theorem G.le_trans {a b c : G} (h : a.le b) (h' : b.le c) : a.le c :=
  ⟨Fz.le_trans h.F h'.F, h'.pre.trans h.pre, Nat.le_trans h.n h'.n, fun x hx => (h'.loc x (Nat.lt_of_lt_of_le hx h.n)).trans (h.loc x hx), fun x hx => (h'.es x (Nat.lt_of_lt_of_le hx h.n)).trans (h.es x hx),
    fun x hx => (h'.cnt x (Nat.lt_of_lt_of_le hx h.n)).trans (h.cnt x hx), fun x hx => (h'.sz x (Nat.lt_of_lt_of_le hx h.n)).trans (h.sz x hx)⟩

/-- Values that may lead to local blocks. -/
inductive Rep (g : G) : Value → V → Prop
  | data (v : Value) (a : V) (h : RepD g.F v a) : Rep g v a
  | own0 (b : Nat) (a : Option Addr) (hb : b < g.n) (hc : g.cnt b = 0) : Rep g (.slice a 0 0) (.own b 0)
  | own (b k n cap : Nat) (hb : b < g.n) (hl : g.loc b = some k) (hn : n ≤ cap) (hc : g.cnt b = n) (hz : cap * g.es b ≤ g.sz b) : Rep g (.slice (some ⟨k, 0, none⟩) n cap) (.own b n)
  | ref0 (b off : Nat) (a : Option Addr) (hb : b < g.n) (hc : off ≤ g.cnt b * g.es b) : Rep g (.slice a 0 0) (.ref b off 0)
  | ref (b k off n cap : Nat) (hb : b < g.n) (hl : g.loc b = some k) (hn : n ≤ cap) (hc : off + n * g.es b ≤ g.cnt b * g.es b) (hz : off + cap * g.es b ≤ g.sz b) : Rep g (.slice (some ⟨k, off, none⟩) n cap) (.ref b off n)
  | ptr (b k off : Nat) (hb : b < g.n) (hl : g.loc b = some k) : Rep g (.pointer (some ⟨k, off, none⟩)) (.ptr b off)
  | fn (f : Nat) (a' c' : Array Value) (a c : List V) (ha : a'.size = a.length) (hc : c'.size = c.length)
      (ra : ∀ (j : Nat) (x : V) (u : Value), a[j]? = some x → a'[j]? = some u → Rep g u x)
      (rc : ∀ (j : Nat) (x : V) (u : Value), c[j]? = some x → c'[j]? = some u → Rep g u x) : Rep g (.func (.func f) a' c') (.fn f a c)
  | iface (t : Nat) (u : Value) (x : V) (h : Rep g u x) : Rep g (.iface t u) (.iface t x)
  | agg (cs' : Array Value) (cs : List V) (hl : cs'.size = cs.length)
      (hr : ∀ (j : Nat) (x : V) (u : Value), cs[j]? = some x → cs'[j]? = some u → Rep g u x) : Rep g (.agg cs') (.agg cs)
  | tup (cs' : Array Value) (cs : List V) (hl : cs'.size = cs.length)
      (hr : ∀ (j : Nat) (x : V) (u : Value), cs[j]? = some x → cs'[j]? = some u → Rep g u x) : Rep g (.tuple cs') (.tup cs)

theorem Rep.mono {g g' : G} (hg : g.le g') {v : Value} {a : V} (h : Rep g v a) : Rep g' v a := by
  induction h with
  | data v a h => exact .data v a (h.mono hg.F)
  | own0 b a hb hc => exact .own0 b a (Nat.lt_of_lt_of_le hb hg.n) ((hg.cnt b hb).trans hc)
  | own b k n cap hb hl hn hc hz => exact .own b k n cap (Nat.lt_of_lt_of_le hb hg.n) ((hg.loc b hb).trans hl) hn ((hg.cnt b hb).trans hc) (by rw [hg.es b hb, hg.sz b hb]; exact hz)
  | ref0 b off a hb hc => exact .ref0 b off a (Nat.lt_of_lt_of_le hb hg.n) (by rw [hg.cnt b hb, hg.es b hb]; exact hc)
  | ref b k off n cap hb hl hn hc hz => exact .ref b k off n cap (Nat.lt_of_lt_of_le hb hg.n) ((hg.loc b hb).trans hl) hn (by rw [hg.cnt b hb, hg.es b hb]; exact hc) (by rw [hg.es b hb, hg.sz b hb]; exact hz)
  | ptr b k off hb hl => exact .ptr b k off (Nat.lt_of_lt_of_le hb hg.n) ((hg.loc b hb).trans hl)
  | fn f a' c' a c ha hc ra rc iha ihc => exact .fn f a' c' a c ha hc iha ihc
  | iface t u x h ih => exact .iface t u x ih
  | agg cs' cs hl hr ih => exact .agg cs' cs hl ih
  | tup cs' cs hl hr ih => exact .tup cs' cs hl ih

/-! What a representation says, by the abstract value's head. -/
section inv
variable {g : G} {v : Value}
theorem Rep.inv_bool {b : Bool} (h : Rep g v (.bool b)) : v = .bool b := by cases h with | data _ _ h => cases h; rfl
theorem Rep.inv_int {k : IntKind} {n : Int} (h : Rep g v (.int k n)) : v = .int k n := by cases h with | data _ _ h => cases h; rfl
theorem Rep.inv_str {l : List UInt8} (h : Rep g v (.str l)) : v = .string ⟨l.toArray⟩ := by cases h with | data _ _ h => cases h; rfl
theorem Rep.inv_nils (h : Rep g v .nils) : ∃ a, v = .slice a 0 0 := by cases h with | data _ _ h => cases h; exact ⟨_, rfl⟩
theorem Rep.inv_nilp (h : Rep g v .nilp) : v = .pointer none := by cases h with | data _ _ h => cases h; rfl
theorem Rep.inv_nilf (h : Rep g v .nilf) : v = .nilFunc := by cases h with | data _ _ h => cases h; rfl
theorem Rep.inv_nili (h : Rep g v .nili) : v = .nilIface := by cases h with | data _ _ h => cases h; rfl
theorem Rep.inv_sl {n : Nat} {cells : List V} (h : Rep g v (.sl n cells)) :
    RepD g.F v (.sl n cells) := by cases h with | data _ _ h => exact h
theorem Rep.inv_rop {cells : List V} {off : Nat} (h : Rep g v (.rop cells off)) :
    RepD g.F v (.rop cells off) := by cases h with | data _ _ h => exact h
theorem Rep.inv_ptr {b off : Nat} (h : Rep g v (.ptr b off)) : ∃ k, b < g.n ∧ g.loc b = some k ∧ v = .pointer (some ⟨k, off, none⟩) := by
  cases h with
  | data _ _ h => cases h
  | ptr _ k _ hb hl => exact ⟨k, hb, hl, rfl⟩
theorem Rep.inv_own {b n : Nat} (h : Rep g v (.own b n)) : b < g.n ∧ g.cnt b = n ∧
    ((n = 0 ∧ ∃ a, v = .slice a 0 0) ∨ ∃ k cap, g.loc b = some k ∧ v = .slice (some ⟨k, 0, none⟩) n cap ∧ n ≤ cap ∧ cap * g.es b ≤ g.sz b) := by
  cases h with
  | data _ _ h => cases h
  | own0 _ a hb hc => exact ⟨hb, hc, .inl ⟨rfl, a, rfl⟩⟩
  | own _ k _ cap hb hl hn hc hz => exact ⟨hb, hc, .inr ⟨k, cap, hl, rfl, hn, hz⟩⟩
theorem Rep.inv_ref {b off n : Nat} (h : Rep g v (.ref b off n)) : b < g.n ∧ off + n * g.es b ≤ g.cnt b * g.es b ∧
    ((n = 0 ∧ ∃ a, v = .slice a 0 0) ∨ ∃ k cap, g.loc b = some k ∧ v = .slice (some ⟨k, off, none⟩) n cap ∧ n ≤ cap ∧ off + cap * g.es b ≤ g.sz b) := by
  cases h with
  | data _ _ h => cases h
  | ref0 _ _ a hb hc => exact ⟨hb, by omega, .inl ⟨rfl, a, rfl⟩⟩
  | ref _ k _ _ cap hb hl hn hc hz => exact ⟨hb, hc, .inr ⟨k, cap, hl, rfl, hn, hz⟩⟩
theorem Rep.inv_agg {cs : List V} (h : Rep g v (.agg cs)) : ∃ cs' : Array Value, v = .agg cs' ∧ cs'.size = cs.length ∧ ∀ (j : Nat) (x : V) (u : Value), cs[j]? = some x → cs'[j]? = some u → Rep g u x := by
  cases h with
  | data _ _ h => cases h with | agg cs' _ hl hr => exact ⟨cs', rfl, hl, fun j x u a b => .data _ _ (hr j x u a b)⟩
  | agg cs' _ hl hr => exact ⟨cs', rfl, hl, hr⟩
theorem Rep.inv_tup {cs : List V} (h : Rep g v (.tup cs)) : ∃ cs' : Array Value, v = .tuple cs' ∧ cs'.size = cs.length ∧ ∀ (j : Nat) (x : V) (u : Value), cs[j]? = some x → cs'[j]? = some u → Rep g u x := by
  cases h with
  | data _ _ h => cases h with | tup cs' _ hl hr => exact ⟨cs', rfl, hl, fun j x u a b => .data _ _ (hr j x u a b)⟩
  | tup cs' _ hl hr => exact ⟨cs', rfl, hl, hr⟩
theorem Rep.inv_fn {f : Nat} {a c : List V} (h : Rep g v (.fn f a c)) : ∃ a' c' : Array Value, v = .func (.func f) a' c' ∧ a'.size = a.length ∧ c'.size = c.length ∧
    (∀ (j : Nat) (x : V) (u : Value), a[j]? = some x → a'[j]? = some u → Rep g u x) ∧ (∀ (j : Nat) (x : V) (u : Value), c[j]? = some x → c'[j]? = some u → Rep g u x) := by
  cases h with
  | data _ _ h => cases h with | fn _ a' c' _ _ ha hc ra rc => exact ⟨a', c', rfl, ha, hc, fun j x u p q => .data _ _ (ra j x u p q), fun j x u p q => .data _ _ (rc j x u p q)⟩
  | fn _ a' c' _ _ ha hc ra rc => exact ⟨a', c', rfl, ha, hc, ra, rc⟩
theorem Rep.inv_iface {t : Nat} {x : V} (h : Rep g v (.iface t x)) : ∃ u, v = .iface t u ∧ Rep g u x := by
  cases h with
  | data _ _ h => cases h with | iface _ u _ h => exact ⟨u, rfl, .data _ _ h⟩
  | iface _ u _ h => exact ⟨u, rfl, h⟩
end inv

/-- Cells that are one cell each: the concrete value is one, too. -/
theorem Rep.one {g : G} {v : Value} {a : V} (h : Rep g v a) (ha : oneCell a = true) : v.oneCell' = true := by
  cases h with
  | data _ _ h => cases h <;> first | rfl | simp [Pv.oneCell] at ha
  | own0 => rfl
  | own => rfl
  | ref0 => rfl
  | ref => rfl
  | ptr => rfl
  | fn => rfl
  | iface => rfl
  | agg => simp [Pv.oneCell] at ha
  | tup => simp [Pv.oneCell] at ha

/-- The cells of a value, one by one. -/
def CellsRep (g : G) (cs' : List Value) (cs : List V) : Prop :=
  cs'.length = cs.length ∧ ∀ (j : Nat) (x : V) (u : Value), cs[j]? = some x → cs'[j]? = some u → Rep g u x

theorem CellsRep.nil (g : G) : CellsRep g [] [] := ⟨rfl, fun _ _ _ h => by simp at h⟩
theorem CellsRep.cons {g : G} {u : Value} {x : V} {us : List Value} {xs : List V} (h : Rep g u x) (hs : CellsRep g us xs) : CellsRep g (u :: us) (x :: xs) := by
  refine ⟨by simp [hs.1], fun j y v hj hv => ?_⟩
  cases j with
  | zero => simp at hj hv; subst hj hv; exact h
  | succ j => exact hs.2 j y v (by simpa using hj) (by simpa using hv)
theorem CellsRep.head {g : G} {u : Value} {x : V} {us : List Value} {xs : List V} (h : CellsRep g (u :: us) (x :: xs)) : Rep g u x := h.2 0 x u rfl rfl
theorem CellsRep.tail {g : G} {u : Value} {x : V} {us : List Value} {xs : List V} (h : CellsRep g (u :: us) (x :: xs)) : CellsRep g us xs :=
  ⟨by have := h.1; simpa using this, fun j y v hj hv => h.2 (j + 1) y v (by simpa using hj) (by simpa using hv)⟩
theorem CellsRep.mono {g g' : G} (hg : g.le g') {us : List Value} {xs : List V} (h : CellsRep g us xs) : CellsRep g' us xs :=
  ⟨h.1, fun j x u a b => (h.2 j x u a b).mono hg⟩

theorem Rep.cellsRep {g : G} {v : Value} {a : V} (h : Rep g v a) (ht : ∀ cs, a ≠ .tup cs) (hu : a ≠ .undef) : CellsRep g v.cells.toList a.cells := by
  cases a with
  | agg cs =>
    obtain ⟨cs', rfl, hl, hr⟩ := h.inv_agg
    exact ⟨by simpa [Value.cells, V.cells] using hl, fun j x u hj hu => hr j x u hj (by simpa [Value.cells] using hu)⟩
  | tup cs => exact absurd rfl (ht cs)
  | undef => exact absurd rfl hu
  | _ =>
    have hv : v.cells = #[v] := by
      cases h with
      | data _ _ h => cases h <;> rfl
      | _ => rfl
    rw [hv]
    exact CellsRep.cons h (CellsRep.nil g)

/-- A local block, as it lies in the world. -/
structure BlkAt (g : G) (base : Nat) (w : World) (b : Nat) (B : Blk) (k : Nat) (cur : Array Value) (ty : TypeId) : Prop where
  base : base ≤ k
  at_ : w.heap[k]? = some (.cells cur ty (0, 0))
  len : B.cells.length ≤ cur.size
  box : B.box = true → ∀ (j : Nat) (c : V) (u : Value), B.cells[j]? = some c → cur[j]? = some u → Rep g u c
  row : B.box = false → ∀ (j : Nat) (c : V) (u : Value), B.cells[j]? = some c → cur[j]? = some u → RepD g.F u c
  live : B.st = 0 → ∀ o, g.F k o = none
  frozen : 0 < B.st → ∀ o, o < B.cells.length → g.F k o = cur[o]?
  spare : ∀ o, B.cells.length ≤ o → g.F k o = none
  size : cur.size = g.sz b
  one : ∀ (j : Nat) (u : Value), j < B.cells.length → cur[j]? = some u → u.oneCell' = true

structure BlkOk (g : G) (base : Nat) (w : World) (b : Nat) (B : Blk) : Prop where
  row : B.box = false → B.cells.length = g.cnt b * B.es ∧ B.es = g.es b ∧ 0 < B.es
  none_ : g.loc b = none → B.cells = [] ∧ B.box = false
  place : ∀ k, g.loc b = some k → ∃ cur ty, BlkAt g base w b B k cur ty

structure Inv (g : G) (bs : Nat) (h : Heap) (w : World) : Prop where
  F : ∀ b o u, g.F b o = some u → w.cell? ⟨b, o, none⟩ = some u
  n : g.n = h.length
  blk : ∀ (b : Nat) (B : Blk), h[b]? = some B → B.st < 3 → BlkOk g bs w b B
  apart : ∀ (b b' : Nat) (B B' : Blk) (k : Nat), h[b]? = some B → h[b']? = some B' → B.st < 3 → B'.st < 3 → b ≠ b' → g.loc b = some k → g.loc b' ≠ some k
  base : bs ≤ w.heap.size
  one : ∀ b o u, g.F b o = some u → u.oneCell' = true
  old : ∀ b o, b < bs → g.F b o = g.pre b o

/-! ### What the world does -/

theorem cell_at {w : World} {k : Nat} {cur : Array Value} {ty : TypeId} {fr : Nat × Nat} (h : w.heap[k]? = some (.cells cur ty fr)) (o : Nat) : w.cell? ⟨k, o, none⟩ = cur[o]? := by
  simp [World.cell?, h]
theorem frozen_at {w : World} {k : Nat} {cur : Array Value} {ty : TypeId} (h : w.heap[k]? = some (.cells cur ty (0, 0))) (o : Nat) : w.frozen? ⟨k, o, none⟩ = false := by
  simp [World.frozen?, h]
theorem lt_of_at {w : World} {k : Nat} {o : Obj} (h : w.heap[k]? = some o) : k < w.heap.size := (Array.getElem?_eq_some_iff.1 h).1

/-- A world in which what was there is as it was. -/
structure Later (w w' : World) : Prop where
  size : w.heap.size ≤ w'.heap.size
  at_ : ∀ k, k < w.heap.size → w'.heap[k]? = w.heap[k]?

theorem Later.refl (w : World) : Later w w := ⟨Nat.le_refl _, fun _ _ => rfl⟩
theorem Later.trans {a b c : World} (h : Later a b) (h' : Later b c) : Later a c :=
  ⟨Nat.le_trans h.size h'.size, fun k hk => (h'.at_ k (Nat.lt_of_lt_of_le hk h.size)).trans (h.at_ k hk)⟩
theorem Later.of_below {w w' : World} (h : Below w.heap.size w w') : Later w w' := ⟨h.size, h.block⟩
theorem Later.cell {w w' : World} (h : Later w w') {a : Addr} {v : Value} (hv : w.cell? a = some v) : w'.cell? a = some v := by
  have hlt := World.block_lt_of_cell? w a hv
  rw [← hv]; exact World.cell?_of_block (h.at_ _ hlt)
theorem Later.at' {w w' : World} (h : Later w w') {k : Nat} {o : Obj} (ho : w.heap[k]? = some o) : w'.heap[k]? = some o := by rw [h.at_ k (lt_of_at ho)]; exact ho

theorem Inv.later {g : G} {base : Nat} {h : Heap} {w w' : World} (hI : Inv g base h w) (hw : Later w w') : Inv g base h w' where
  F := fun b o u hu => hw.cell (hI.F b o u hu)
  n := hI.n
  blk := fun b B hb hs => by
    obtain ⟨hr, hn, hp⟩ := hI.blk b B hb hs
    refine ⟨hr, hn, fun k hk => ?_⟩
    obtain ⟨cur, ty, hB⟩ := hp k hk
    exact ⟨cur, ty, { hB with at_ := hw.at' hB.at_ }⟩
  apart := hI.apart
  base := Nat.le_trans hI.base hw.size
  one := hI.one
  old := hI.old

/-- A new id. -/
def G.add (g : G) (k : Option Nat) (es cnt sz : Nat) : G :=
  { F := g.F, pre := g.pre, n := g.n + 1, loc := fun b => if b = g.n then k else g.loc b, es := fun b => if b = g.n then es else g.es b,
    cnt := fun b => if b = g.n then cnt else g.cnt b, sz := fun b => if b = g.n then sz else g.sz b }

theorem G.le_add (g : G) (k : Option Nat) (es cnt sz : Nat) : g.le (g.add k es cnt sz) where
  F := Fz.le_refl _
  pre := rfl
  n := Nat.le_succ _
  loc := fun b hb => by simp only [G.add]; rw [if_neg (by omega)]
  es := fun b hb => by simp only [G.add]; rw [if_neg (by omega)]
  cnt := fun b hb => by simp only [G.add]; rw [if_neg (by omega)]
  sz := fun b hb => by simp only [G.add]; rw [if_neg (by omega)]

theorem G.add_loc (g : G) (k : Option Nat) (es cnt sz : Nat) : (g.add k es cnt sz).loc g.n = k := by simp [G.add]
theorem G.add_es (g : G) (k : Option Nat) (es cnt sz : Nat) : (g.add k es cnt sz).es g.n = es := by simp [G.add]
theorem G.add_cnt (g : G) (k : Option Nat) (es cnt sz : Nat) : (g.add k es cnt sz).cnt g.n = cnt := by simp [G.add]
theorem G.add_sz (g : G) (k : Option Nat) (es cnt sz : Nat) : (g.add k es cnt sz).sz g.n = sz := by simp [G.add]

/-- What a block is, in a greater ghost with the same frozen cells at it. -/
theorem BlkOk.mono {g g' : G} {base : Nat} {w : World} {b : Nat} {B : Blk} (h : BlkOk g base w b B) (hg : g.le g') (hb : b < g.n)
    (hF : ∀ k, g.loc b = some k → ∀ o, g'.F k o = g.F k o) : BlkOk g' base w b B where
  row := fun hx => by rw [hg.cnt b hb, hg.es b hb]; exact h.row hx
  none_ := fun hx => h.none_ (by rw [← hg.loc b hb]; exact hx)
  place := fun k hk => by
    rw [hg.loc b hb] at hk
    obtain ⟨cur, ty, hB⟩ := h.place k hk
    exact ⟨cur, ty, { base := hB.base, at_ := hB.at_, len := hB.len, box := fun hx j c u hc hu => (hB.box hx j c u hc hu).mono hg, row := fun hx j c u hc hu => (hB.row hx j c u hc hu).mono hg.F,
                      live := fun hs o => by rw [hF k hk]; exact hB.live hs o, frozen := fun hs o ho => by rw [hF k hk]; exact hB.frozen hs o ho,
                      spare := fun o ho => by rw [hF k hk]; exact hB.spare o ho, size := by rw [hg.sz b hb]; exact hB.size, one := hB.one }⟩

theorem getElem?_append_new {h : Heap} {B : Blk} {b : Nat} {B' : Blk} (hb : (h ++ [B])[b]? = some B') : (b < h.length ∧ h[b]? = some B') ∨ (b = h.length ∧ B' = B) := by
  rw [List.getElem?_append] at hb
  split at hb
  · rename_i hlt; exact .inl ⟨hlt, hb⟩
  · rename_i hge
    have hle : b - h.length < [B].length := by
      rcases Nat.lt_or_ge (b - h.length) [B].length with h' | h'
      · exact h'
      · rw [List.getElem?_eq_none h'] at hb; cases hb
    have : b = h.length := by simp at hle; omega
    subst this
    simp at hb
    exact .inr ⟨rfl, hb.symm⟩

/-- A new block, in a later world. -/
theorem Inv.push {g : G} {base : Nat} {h : Heap} {w w' : World} (hI : Inv g base h w) (hw : Later w w') (B : Blk) (k : Option Nat) (es cnt sz : Nat)
    (hB : B.st < 3 → BlkOk (g.add k es cnt sz) base w' g.n B)
    (hap : ∀ k', k = some k' → ∀ (b : Nat) (B' : Blk), h[b]? = some B' → B'.st < 3 → g.loc b ≠ some k') :
    Inv (g.add k es cnt sz) base (h ++ [B]) w' := by
  have hI' := hI.later hw
  refine ⟨hI'.F, by simp [G.add, hI.n], fun b B' hb hs => ?_, fun b b' C C' j hb hb' hs hs' hne hl => ?_, hI'.base, hI'.one, hI'.old⟩
  · rcases getElem?_append_new hb with ⟨hlt, hb⟩ | ⟨rfl, rfl⟩
    · exact (hI'.blk b B' hb hs).mono (g.le_add k es cnt sz) (by rw [hI.n]; exact hlt) (fun _ _ _ => rfl)
    · rw [← hI.n]; exact hB hs
  · rcases getElem?_append_new hb with ⟨hlt, hb1⟩ | ⟨rfl, rfl⟩
    · rw [(g.le_add k es cnt sz).loc b (by rw [hI.n]; exact hlt)] at hl
      rcases getElem?_append_new hb' with ⟨hlt', hb2⟩ | ⟨rfl, rfl⟩
      · rw [(g.le_add k es cnt sz).loc b' (by rw [hI.n]; exact hlt')]
        exact hI.apart b b' C C' j hb1 hb2 hs hs' hne hl
      · rw [← hI.n, G.add_loc]
        intro e
        exact hap j e b C hb1 hs hl
    · rw [← hI.n, G.add_loc] at hl
      rcases getElem?_append_new hb' with ⟨hlt', hb2⟩ | ⟨rfl, rfl⟩
      · rw [(g.le_add k es cnt sz).loc b' (by rw [hI.n]; exact hlt')]
        exact hap j hl b' C' hb2 hs'
      · exact absurd rfl hne

end Go.Pv

/- Operations of the evaluator are those of the model: loads and stores. -/
namespace Go.Pv
open Go Go.RowKit

/-- What an operation that yields a value owes. -/
def SemOk (P : Program) (base : Nat) (s : Sem Value) (g : G) (w : World) (K : Kont) (r : Res) : Prop :=
  ∃ u w' g' v h', s.run P w = .ok u w' ∧ Rep g' u v ∧ Inv g' base h' w' ∧ g.le g' ∧ Below base w w' ∧ K v h' = some r

theorem SemOk.same {P : Program} {base : Nat} {s : Sem Value} {g : G} {w : World} {K : Kont} {r : Res} {h : Heap} {u : Value} {v : V}
    (hr : s.run P w = .ok u w) (hu : Rep g u v) (hI : Inv g base h w) (hK : K v h = some r) : SemOk P base s g w K r :=
  ⟨u, w, g, v, h, hr, hu, hI, G.le_refl g, Below.refl _ _, hK⟩

theorem isK_eq {a b : IntKind} (h : isK a b = true) : a = b := by cases a <;> cases b <;> first | rfl | simp [isK] at h

theorem coe_eq {k : CK} {v : V} (h : isCK k v = true) : coe k v = v := by
  cases k <;> cases v <;> first | rfl | (simp [isCK] at h; done) | (simp only [isCK] at h; have e := isK_eq h; subst e; rfl)

theorem isCK_undef (k : CK) : isCK k .undef = false := by cases k <;> rfl

theorem readT_eq : ∀ (ks : List CK) (cells : List V) (off : Nat), okT ks cells off = true → readT ks cells off = readP ks.length cells off
  | [], _, _, _ => rfl
  | k :: ks, cells, off, h => by
    simp only [okT, Bool.and_eq_true] at h
    simp only [readT, List.length_cons, readP, coe_eq h.1, readT_eq ks cells (off + 1) h.2]

theorem okT_lt : ∀ (ks : List CK) (cells : List V) (off : Nat), okT ks cells off = true → ∀ j, j < ks.length → off + j < cells.length
  | [], _, _, _, j, hj => by simp at hj
  | k :: ks, cells, off, h, j, hj => by
    simp only [okT, Bool.and_eq_true] at h
    cases j with
    | zero =>
      rcases Nat.lt_or_ge off cells.length with h' | h'
      · simpa using h'
      · have h1 := h.1
        rw [List.getD_eq_getElem?_getD, List.getElem?_eq_none h'] at h1
        simp only [Option.getD_none, isCK_undef] at h1
        cases h1
    | succ j =>
      have := okT_lt ks cells (off + 1) h.2 j (by simpa using hj)
      omega

theorem readP_length : ∀ (n : Nat) (cells : List V) (off : Nat), (readP n cells off).length = n
  | 0, _, _ => rfl
  | n + 1, cells, off => by simp [readP, readP_length n cells (off + 1)]

theorem readP_get : ∀ (n : Nat) (cells : List V) (off j : Nat) (x : V), (readP n cells off)[j]? = some x → j < n ∧ x = cells.getD (off + j) .undef
  | 0, _, _, _, _, h => by simp [readP] at h
  | n + 1, cells, off, j, x, h => by
    cases j with
    | zero => simp only [readP, List.getElem?_cons_zero, Option.some.injEq] at h; exact ⟨by omega, by simpa using h.symm⟩
    | succ j =>
      simp only [readP, List.getElem?_cons_succ] at h
      obtain ⟨h1, h2⟩ := readP_get n cells (off + 1) j x h
      exact ⟨by omega, by rw [h2]; congr 1; omega⟩

theorem getD_of_lt {l : List V} {i : Nat} (h : i < l.length) : l[i]? = some (l.getD i .undef) := by
  rw [List.getD_eq_getElem?_getD, List.getElem?_eq_getElem h]; rfl

theorem isAgg_run {P : Program} {t : TypeId} {d : TypeDesc} (hu : P.underlying t = some d) (w : World) : (isAgg t).run P w = .ok (isAggT P t) w := by
  unfold isAgg isAggT
  simp only [Sem.run_bind, run_underlying hu, Result.andThen_ok, hu]
  cases d <;> rfl

theorem info_of_underlying {P : Program} {t : TypeId} {d : TypeDesc} (h : P.underlying t = some d) : ∃ i, P.info? t = some i := by
  unfold Program.underlying at h
  split at h
  · rename_i hi; exact ⟨_, hi⟩
  · rename_i i _ hi; exact ⟨i, hi⟩
  · cases h

theorem sizeOf_run {P : Program} {t : TypeId} {d : TypeDesc} (h : P.underlying t = some d) (w : World) : (sizeOf t).run P w = .ok (P.cellsOf t) w := by
  obtain ⟨i, hi⟩ := info_of_underlying h
  simp [sizeOf, typeInfo, hi, Program.cellsOf]

theorem kinds_underlying {P : Program} {n : Nat} {t : TypeId} {ks : List CK} (h : kinds P n t = some ks) : ∃ d, P.underlying t = some d := by
  cases n with
  | zero => simp [kinds] at h
  | succ n =>
    cases hu : P.underlying t with
    | none => simp [kinds, hu] at h
    | some d => exact ⟨d, rfl⟩

/-- Reading a variable whose cells are known. -/
theorem loadVar_run {P : Program} {t : TypeId} {d : TypeDesc} (hu : P.underlying t = some d) {w : World} {k off : Nat} (us : List Value) (hn : us.length = P.cellsOf t)
    (h1 : isAggT P t = false → us.length = 1) (hc : ∀ (j : Nat) (u : Value), us[j]? = some u → w.cell? ⟨k, off + j, none⟩ = some u) :
    (loadVar t ⟨k, off, none⟩).run P w = .ok (if isAggT P t then .agg us.toArray else us.getD 0 undef) w := by
  unfold loadVar
  simp only [Sem.run_bind, isAgg_run hu, Result.andThen_ok]
  cases ha : isAggT P t with
  | true =>
    simp only [if_true, Sem.run_bind, sizeOf_run hu, Result.andThen_ok]
    rw [← hn, run_loadCells_list (P := P) w ⟨k, off, none⟩ us (fun j u hj => by rw [Addr.add_lit]; exact hc j u hj)]
    rfl
  | false =>
    obtain ⟨u, rfl⟩ : ∃ u, us = [u] := by
      have := h1 ha
      match us, this with
      | [u], _ => exact ⟨u, rfl⟩
    simp only [Bool.false_eq_true, if_false, run_load]
    have := hc 0 u rfl
    simp only [Nat.add_zero] at this
    rw [this]; rfl

theorem rep_mkV {P : Program} {t : TypeId} {g : G} {us : List Value} {xs : List V} (h : CellsRep g us xs) (h1 : isAggT P t = false → us.length = 1) :
    Rep g (if isAggT P t then .agg us.toArray else us.getD 0 undef) (mkV (isAggT P t) xs) := by
  cases ha : isAggT P t with
  | true => exact .agg _ _ (by simpa using h.1) (fun j x u hj hu => h.2 j x u hj (by simpa using hu))
  | false =>
    have := h1 ha
    match us, xs, this, h with
    | [u], [x], _, h => exact h.head
    | [u], [], _, h => exact absurd h.1 (by simp)
    | [u], x :: y :: z, _, h => exact absurd h.1 (by simp)

theorem list_of_fun {n : Nat} (f : Nat → Value) : ((List.range n).map f).length = n := by simp
theorem list_of_fun_get {n : Nat} {f : Nat → Value} {j : Nat} {u : Value} (h : ((List.range n).map f)[j]? = some u) : j < n ∧ u = f j := by
  rw [List.getElem?_map] at h
  rcases Nat.lt_or_ge j n with hj | hj
  · rw [List.getElem?_range hj] at h
    simp at h
    exact ⟨hj, h.symm⟩
  · rw [List.getElem?_eq_none (by simpa using hj)] at h; cases h

/-- Reading xs, each cell of which is known to be represented. -/
theorem load_core {P : Program} {t : TypeId} {d : TypeDesc} (hu : P.underlying t = some d) {w : World} {g : G} {k off : Nat} (xs : List V) (f : Nat → Value) (hn : xs.length = P.cellsOf t)
    (h1 : isAggT P t = false → xs.length = 1) (hc : ∀ j, j < xs.length → w.cell? ⟨k, off + j, none⟩ = some (f j)) (hr : ∀ (j : Nat) (x : V), xs[j]? = some x → Rep g (f j) x) :
    ∃ u, (loadVar t ⟨k, off, none⟩).run P w = .ok u w ∧ Rep g u (mkV (isAggT P t) xs) := by
  refine ⟨_, loadVar_run hu ((List.range xs.length).map f) (by simpa using hn) (fun ha => by simpa using h1 ha) (fun j u hj => ?_), rep_mkV ⟨by simp, fun j x u hj hu => ?_⟩ (fun ha => by simpa using h1 ha)⟩
  · obtain ⟨h, rfl⟩ := list_of_fun_get hj
    exact hc j h
  · obtain ⟨h, rfl⟩ := list_of_fun_get hu
    exact hr j x hj

theorem cond_some {c : Bool} {x : Option Res} {r : Res} (h : cond c x none = some r) : c = true ∧ x = some r := by cases c <;> simp at h; exact ⟨rfl, h⟩

theorem loadC_core {P : Program} {base : Nat} {t : TypeId} {g : G} {h : Heap} {w : World} {a : V} {u : Value} {K : Kont} {r : Res}
    (hI : Inv g base h w) (hu : Rep g u a) (he : loadC P t a h K = some r) : ∃ ad u' v, u = .pointer (some ad) ∧ (loadVar t ad).run P w = .ok u' w ∧ Rep g u' v ∧ K v h = some r := by
  unfold loadC at he
  simp only [boxLoad_eq] at he
  cases hk : kinds P 20 t with
  | none => simp [hk] at he
  | some ks =>
    simp only [hk] at he
    obtain ⟨d, hd⟩ := kinds_underlying hk
    split at he
    case isFalse => cases he
    rename_i hlen
    have h1 : isAggT P t = false → ks.length = 1 := fun ha => by have := hlen.2; simpa [ha] using this
    cases a with
    | ptr b off =>
      obtain ⟨k, hb, hl, rfl⟩ := hu.inv_ptr
      cases hB : h[b]? with
      | none => simp [hB] at he
      | some B =>
        simp only [hB] at he
        split at he
        case isTrue => cases he
        rename_i hst
        have hst : B.st < 3 := by omega
        obtain ⟨cur, ty, hat⟩ := (hI.blk b B hB hst).place k hl
        have hread : ∀ xs : List V, xs = readP ks.length B.cells off → (∀ j, j < ks.length → off + j < B.cells.length) → K (mkV (isAggT P t) xs) h = some r → ∃ ad u' v, Value.pointer (some ⟨k, off, none⟩) = .pointer (some ad) ∧ (loadVar t ad).run P w = .ok u' w ∧ Rep g u' v ∧ K v h = some r := by
          intro xs hxs hin hK
          have hxl : xs.length = ks.length := by rw [hxs, readP_length]
          obtain ⟨u, hrun, hrep⟩ := load_core (k := k) (off := off) (g := g) (w := w) hd xs (fun j => cur.getD (off + j) undef) (by rw [hxl]; exact hlen.1) (fun ha => by rw [hxl]; exact h1 ha)
            (fun j hj => by
              rw [cell_at hat.at_]
              have := hin j (by omega)
              have hlt : off + j < cur.size := Nat.lt_of_lt_of_le this hat.len
              simp [Array.getElem?_eq_getElem hlt])
            (fun j x hj => by
              rw [hxs] at hj
              obtain ⟨hj1, rfl⟩ := readP_get _ _ _ _ _ hj
              have hlt := hin j hj1
              have hlt' : off + j < cur.size := Nat.lt_of_lt_of_le hlt hat.len
              have e1 := getD_of_lt hlt
              have e2 : cur[off + j]? = some (cur.getD (off + j) undef) := by simp [Array.getElem?_eq_getElem hlt']
              cases hbx : B.box with
              | true => exact hat.box hbx _ _ _ e1 e2
              | false => exact .data _ _ (hat.row hbx _ _ _ e1 e2))
          exact ⟨_, u, _, rfl, hrun, hrep, hK⟩
        split at he
        · split at he
          case isFalse => cases he
          rename_i hle
          exact hread _ rfl (fun j hj => by omega) he
        · obtain ⟨hok, hK⟩ := cond_some he
          exact hread _ (readT_eq _ _ _ hok) (okT_lt _ _ _ hok) hK
    | rop cells off =>
      simp only at he
      obtain ⟨hok, hK⟩ := cond_some he
      have hD := hu.inv_rop
      cases hD with
      | rop k o off cells hs hr =>
        have hin := okT_lt _ _ _ hok
        rw [readT_eq _ _ _ hok] at hK
        obtain ⟨u, hrun, hrep⟩ := load_core (k := k) (off := o + off) (g := g) (w := w) hd (readP ks.length cells off) (fun j => (g.F k (o + off + j)).getD undef) (by rw [readP_length]; exact hlen.1) (fun ha => by rw [readP_length]; exact h1 ha)
          (fun j hj => by
            rw [readP_length] at hj
            obtain ⟨u, hu⟩ := Option.isSome_iff_exists.1 (hs (off + j) _ (getD_of_lt (hin j hj)))
            rw [← Nat.add_assoc] at hu
            rw [hI.F _ _ _ hu, hu]; rfl)
          (fun j x hj => by
            obtain ⟨hj1, rfl⟩ := readP_get _ _ _ _ _ hj
            have e1 := getD_of_lt (hin j hj1)
            obtain ⟨u, hu⟩ := Option.isSome_iff_exists.1 (hs (off + j) _ e1)
            have := hr (off + j) _ u e1 hu
            rw [← Nat.add_assoc] at hu
            rw [hu]
            exact .data _ _ this)
        exact ⟨_, u, _, rfl, hrun, hrep, hK⟩
    | _ => simp at he

theorem loadC_ok {P : Program} {base : Nat} {t : TypeId} {g : G} {h : Heap} {w : World} {a : V} {u : Value} {K : Kont} {r : Res}
    (hI : Inv g base h w) (hu : Rep g u a) (he : loadC P t a h K = some r) : SemOk P base (Instr.loadAt t u) g w K r := by
  obtain ⟨ad, u', v, rfl, hrun, hrep, hK⟩ := loadC_core hI hu he
  exact .same (by simp [Instr.loadAt, Instr.sureAddr, hrun]) hrep hI hK

end Go.Pv

/- Operations: stores, boxes, fields, indices. -/
namespace Go.Pv
open Go Go.RowKit

theorem setMany_length : ∀ (vs cells : List V) (off : Nat), (setMany cells off vs).length = cells.length
  | [], _, _ => rfl
  | v :: vs, cells, off => by simp [setMany, setMany_length vs (cells.set off v) (off + 1)]

theorem setMany_get : ∀ (vs cells : List V) (off : Nat), off + vs.length ≤ cells.length → ∀ (j : Nat) (x : V), (setMany cells off vs)[j]? = some x →
    (off ≤ j ∧ j < off + vs.length ∧ vs[j - off]? = some x) ∨ (¬ (off ≤ j ∧ j < off + vs.length) ∧ cells[j]? = some x)
  | [], cells, off, _, j, x, h => .inr ⟨by simp, h⟩
  | v :: vs, cells, off, hl, j, x, h => by
    simp only [List.length_cons] at hl
    rcases setMany_get vs (cells.set off v) (off + 1) (by simp; omega) j x h with ⟨h1, h2, h3⟩ | ⟨h1, h2⟩
    · refine .inl ⟨by omega, by simp; omega, ?_⟩
      rw [show j - off = (j - (off + 1)) + 1 by omega, List.getElem?_cons_succ]; exact h3
    · rw [List.getElem?_set] at h2
      by_cases he : off = j
      · subst he
        rw [if_pos rfl] at h2
        split at h2
        · rename_i hlt
          exact .inl ⟨Nat.le_refl _, by simp, by simpa using h2⟩
        · cases h2
      · rw [if_neg he] at h2
        exact .inr ⟨by simp; omega, h2⟩

/-- The same, in the concrete row. -/
theorem row_get (cur : Array Value) (off : Nat) (us : List Value) (hl : off + us.length ≤ cur.size) (j : Nat) :
    ((cur.toList.take off ++ us ++ cur.toList.drop (off + us.length)).toArray)[j]? = if off ≤ j ∧ j < off + us.length then us[j - off]? else cur[j]? := by
  have ht : (cur.toList.take off).length = off := by simp; omega
  simp only [List.getElem?_toArray, List.append_assoc]
  rw [List.getElem?_append, ht]
  by_cases h1 : j < off
  · rw [if_pos h1, if_neg (by omega), List.getElem?_take, if_pos h1]; simp
  · rw [if_neg h1, List.getElem?_append]
    by_cases h2 : j - off < us.length
    · rw [if_pos h2, if_pos (by omega)]
    · rw [if_neg h2, if_neg (by omega), List.getElem?_drop]
      rw [show off + us.length + (j - off - us.length) = j by omega]; simp

theorem row_size (cur : Array Value) (off : Nat) (us : List Value) (hl : off + us.length ≤ cur.size) :
    ((cur.toList.take off ++ us ++ cur.toList.drop (off + us.length)).toArray).size = cur.size := by
  simp only [List.size_toArray, List.length_append, List.length_take, List.length_drop, Array.length_toList]
  omega

/-- A world in which one row has been written anew. -/
theorem heap_setRow {w : World} {k : Nat} {cur : Array Value} {ty : TypeId} (hk : w.heap[k]? = some (.cells cur ty (0, 0))) (new : Array Value) (j : Nat) :
    (w.setRow k new).heap[j]? = if j = k then some (.cells new ty (0, 0)) else w.heap[j]? := by
  by_cases h : j = k
  · subst h; rw [if_pos rfl]; exact setRow_heap w j cur new ty (0, 0) hk
  · rw [if_neg h]; exact setRow_other w k j new h

/-- Writing cells of a live block: the ghost stays. -/
theorem Inv.write {g : G} {base : Nat} {h : Heap} {w : World} (hI : Inv g base h w) {b : Nat} {B B' : Blk} {k : Nat} {cur new : Array Value} {ty : TypeId}
    (hB : h[b]? = some B) (hst : B.st = 0) (hl : g.loc b = some k) (hat : BlkAt g base w b B k cur ty)
    (hst' : B'.st = 0) (hbox : B'.box = B.box) (hes : B'.es = B.es) (hlen : B'.cells.length = B.cells.length) (hsz : new.size = cur.size)
    (hbx : B.box = true → ∀ (j : Nat) (c : V) (u : Value), B'.cells[j]? = some c → new[j]? = some u → Rep g u c)
    (hrw : B.box = false → ∀ (j : Nat) (c : V) (u : Value), B'.cells[j]? = some c → new[j]? = some u → RepD g.F u c)
    (hone : ∀ (j : Nat) (u : Value), j < B'.cells.length → new[j]? = some u → u.oneCell' = true) :
    Inv g base (h.set b B') (w.setRow k new) ∧ Below base w (w.setRow k new) := by
  have hnoF : ∀ o, g.F k o = none := hat.live hst
  have hget : ∀ (x : Nat) (X : Blk), (h.set b B')[x]? = some X → (x = b ∧ X = B') ∨ (x ≠ b ∧ h[x]? = some X) := by
    intro x X hx
    rw [List.getElem?_set] at hx
    by_cases e : b = x
    · subst e
      rw [if_pos rfl] at hx
      split at hx
      · exact .inl ⟨rfl, by simpa using hx.symm⟩
      · cases hx
    · rw [if_neg e] at hx
      exact .inr ⟨fun e' => e e'.symm, hx⟩
  constructor
  · refine ⟨fun bb o u hu => ?_, by simp [hI.n], fun x X hx hs => ?_, fun x y X Y j hx hy hsx hsy hne hlx => ?_, by rw [setRow_size]; exact hI.base, hI.one, hI.old⟩
    · have hne : bb ≠ k := fun e => by subst e; rw [hnoF o] at hu; cases hu
      rw [← hI.F bb o u hu]
      exact World.cell?_of_block (by rw [heap_setRow hat.at_, if_neg hne])
    · rcases hget x X hx with ⟨rfl, rfl⟩ | ⟨hne, hx⟩
      · have hok := hI.blk x B hB (by omega)
        refine ⟨fun hr => ?_, fun hn => ?_, fun k' hk' => ?_⟩
        · have := hok.row (by rw [← hbox]; exact hr)
          rw [hlen, hes]; exact this
        · rw [hl] at hn; cases hn
        · rw [hl] at hk'
          obtain rfl := Option.some.inj hk'
          exact ⟨new, ty, { base := hat.base, at_ := by rw [heap_setRow hat.at_, if_pos rfl], len := by rw [hlen, hsz]; exact hat.len,
                            box := fun hx => hbx (by rw [← hbox]; exact hx), row := fun hx => hrw (by rw [← hbox]; exact hx), live := fun _ => hnoF,
                            frozen := fun hp => by omega, spare := fun o _ => hnoF o, size := by rw [hsz]; exact hat.size, one := hone }⟩
      · have hok := hI.blk x X hx hs
        refine ⟨hok.row, hok.none_, fun k' hk' => ?_⟩
        obtain ⟨cur', ty', hat'⟩ := hok.place k' hk'
        have hkk : k' ≠ k := fun e => by
          subst e
          exact hI.apart b x B X k' hB hx (by omega) hs (Ne.symm hne) hl hk'
        exact ⟨cur', ty', { hat' with at_ := by rw [heap_setRow hat.at_, if_neg hkk]; exact hat'.at_ }⟩
    · rcases hget x X hx with ⟨rfl, rfl⟩ | ⟨hnx, hx'⟩
      · rcases hget y Y hy with ⟨rfl, rfl⟩ | ⟨hny, hy'⟩
        · exact absurd rfl hne
        · exact hI.apart x y B Y j hB hy' (by omega) hsy hne hlx
      · rcases hget y Y hy with ⟨rfl, rfl⟩ | ⟨hny, hy'⟩
        · exact hI.apart x y X B j hx' hB hsx (by omega) hne hlx
        · exact hI.apart x y X Y j hx' hy' hsx hsy hne hlx
  · refine ⟨by simp, by simp, by simp, by simp, fun j hj => ?_⟩
    rw [heap_setRow hat.at_, if_neg (by have := hat.base; omega)]

end Go.Pv

/- Freezing: local blocks become data. -/
namespace Go.Pv
open Go Go.RowKit

theorem mapM_get {α β : Type} {f : α → Option β} : ∀ (l : List α) (r : List β), l.mapM f = some r → r.length = l.length ∧ ∀ (j : Nat) (x : α), l[j]? = some x → ∃ y, r[j]? = some y ∧ f x = some y
  | [], r, h => by simp at h; subst h; exact ⟨rfl, fun j x hj => by simp at hj⟩
  | a :: l, r, h => by
    rw [List.mapM_cons] at h
    cases ha : f a with
    | none => simp [ha] at h
    | some y =>
      cases hl : l.mapM f with
      | none => simp [ha, hl] at h
      | some ys =>
        simp [ha, hl] at h
        subst h
        obtain ⟨h1, h2⟩ := mapM_get l ys hl
        refine ⟨by simp [h1], fun j x hj => ?_⟩
        cases j with
        | zero => simp at hj; subst hj; exact ⟨y, rfl, ha⟩
        | succ j => simpa using h2 j x (by simpa using hj)

/-- Two heaps that differ in how far blocks are frozen alone. -/
def Agree (h h2 : Heap) : Prop := h.length = h2.length ∧ ∀ (b : Nat) (B : Blk), h[b]? = some B → ∃ B2, h2[b]? = some B2 ∧ B2.cells = B.cells ∧ B2.es = B.es ∧ B2.box = B.box ∧ (B.st < 3 → B2.st < 3)

theorem Agree.refl (h : Heap) : Agree h h := ⟨rfl, fun _ B hB => ⟨B, hB, rfl, rfl, rfl, id⟩⟩
theorem Agree.trans {a b c : Heap} (h : Agree a b) (h' : Agree b c) : Agree a c :=
  ⟨h.1.trans h'.1, fun x B hB => by
    obtain ⟨B2, h1, h2, h3, h4, h5⟩ := h.2 x B hB
    obtain ⟨B3, k1, k2, k3, k4, k5⟩ := h'.2 x B2 h1
    exact ⟨B3, k1, k2.trans h2, k3.trans h3, k4.trans h4, fun hs => k5 (h5 hs)⟩⟩

/-- A block's cells are frozen. -/
def Froz (g : G) (h : Heap) (b : Nat) : Prop := ∀ (B : Blk) (k : Nat), h[b]? = some B → B.st < 3 → g.loc b = some k → ∀ o, o < B.cells.length → ∃ u, g.F k o = some u

theorem Agree.mark1 (h : Heap) (b : Nat) : Agree h (mark1 h b) := by
  unfold Pv.mark1
  cases hb : h[b]? with
  | none => exact Agree.refl h
  | some B =>
    simp only
    split
    · rename_i hs
      refine ⟨by simp, fun x X hx => ?_⟩
      by_cases e : b = x
      · subst e
        rw [hb] at hx
        obtain rfl := Option.some.inj hx
        have hlt : b < h.length := by rcases Nat.lt_or_ge b h.length with h' | h'; exact h'; rw [List.getElem?_eq_none h'] at hb; cases hb
        exact ⟨{ B with st := 1 }, by rw [List.getElem?_set_self hlt], rfl, rfl, rfl, fun _ => by simp⟩
      · exact ⟨X, by rw [List.getElem?_set_ne e]; exact hx, rfl, rfl, rfl, id⟩
    · exact Agree.refl h

/-- Freezing one block. -/
theorem mark1_ok {g : G} {base : Nat} {h : Heap} {w : World} (hI : Inv g base h w) (b : Nat) :
    ∃ g', Inv g' base (mark1 h b) w ∧ g.le g' ∧ g'.n = g.n ∧ (∀ x, g'.loc x = g.loc x) ∧ Froz g' (mark1 h b) b := by
  have triv : mark1 h b = h → Froz g h b → ∃ g', Inv g' base (mark1 h b) w ∧ g.le g' ∧ g'.n = g.n ∧ (∀ x, g'.loc x = g.loc x) ∧ Froz g' (mark1 h b) b :=
    fun e hf => ⟨g, by rw [e]; exact hI, G.le_refl g, rfl, fun _ => rfl, by rw [e]; exact hf⟩
  cases hb : h[b]? with
  | none => exact triv (by simp [Pv.mark1, hb]) (fun B k hB => by rw [hb] at hB; cases hB)
  | some B =>
    by_cases hs : B.st = 0
    case neg =>
      refine triv (by simp [Pv.mark1, hb, hs]) (fun B' k hB' hst hl o ho => ?_)
      rw [hb] at hB'
      obtain rfl := Option.some.inj hB'
      obtain ⟨cur, ty, hat⟩ := (hI.blk b B hb hst).place k hl
      have hlt : o < cur.size := Nat.lt_of_lt_of_le ho hat.len
      exact ⟨cur[o], by rw [hat.frozen (by omega) o ho]; simp [hlt]⟩
    case pos =>
      have he : mark1 h b = h.set b { B with st := 1 } := by simp [Pv.mark1, hb, hs]
      have hok := hI.blk b B hb (by omega)
      have hlt : b < h.length := by rcases Nat.lt_or_ge b h.length with h' | h'; exact h'; rw [List.getElem?_eq_none h'] at hb; cases hb
      have hget : ∀ (x : Nat) (X : Blk), (h.set b { B with st := 1 })[x]? = some X → (x = b ∧ X = { B with st := 1 }) ∨ (x ≠ b ∧ h[x]? = some X) := by
        intro x X hx
        by_cases e : b = x
        · subst e; rw [List.getElem?_set_self hlt] at hx; exact .inl ⟨rfl, by simpa using hx.symm⟩
        · rw [List.getElem?_set_ne e] at hx; exact .inr ⟨fun e' => e e'.symm, hx⟩
      have happ : ∀ (x y : Nat) (X Y : Blk) (j : Nat), (h.set b { B with st := 1 })[x]? = some X → (h.set b { B with st := 1 })[y]? = some Y → X.st < 3 → Y.st < 3 → x ≠ y → g.loc x = some j → g.loc y ≠ some j := by
        intro x y X Y j hx hy hsx hsy hne hlx
        rcases hget x X hx with ⟨rfl, rfl⟩ | ⟨hnx, hx'⟩
        · rcases hget y Y hy with ⟨rfl, rfl⟩ | ⟨hny, hy'⟩
          · exact absurd rfl hne
          · exact hI.apart x y B Y j hb hy' (by omega) hsy hne hlx
        · rcases hget y Y hy with ⟨rfl, rfl⟩ | ⟨hny, hy'⟩
          · exact hI.apart x y X B j hx' hb hsx (by omega) hne hlx
          · exact hI.apart x y X Y j hx' hy' hsx hsy hne hlx
      cases hl : g.loc b with
      | none =>
        refine ⟨g, ?_, G.le_refl g, rfl, fun _ => rfl, fun B' k hB' hst hlk => by rw [hl] at hlk; cases hlk⟩
        rw [he]
        refine ⟨hI.F, by simp [hI.n], fun x X hx hsx => ?_, happ, hI.base, hI.one, hI.old⟩
        rcases hget x X hx with ⟨rfl, rfl⟩ | ⟨hne, hx'⟩
        · exact ⟨hok.row, hok.none_, fun k hk => by rw [hl] at hk; cases hk⟩
        · exact hI.blk x X hx' hsx
      | some k =>
        obtain ⟨cur, ty, hat⟩ := hok.place k hl
        have hnoF := hat.live hs
        let F' : Fz := fun x o => if x = k then (if o < B.cells.length then cur[o]? else none) else g.F x o
        have hle : Fz.le g.F F' := fun x o u hu => by
          have hne : x ≠ k := fun e => by subst e; rw [hnoF o] at hu; cases hu
          show (if x = k then _ else _) = _
          rw [if_neg hne]; exact hu
        have hgle : g.le { g with F := F' } := ⟨hle, rfl, Nat.le_refl _, fun _ _ => rfl, fun _ _ => rfl, fun _ _ => rfl, fun _ _ => rfl⟩
        have hFk : ∀ o, F' k o = if o < B.cells.length then cur[o]? else none := fun o => if_pos rfl
        have hFne : ∀ x, x ≠ k → ∀ o, F' x o = g.F x o := fun x hx o => if_neg hx
        refine ⟨{ g with F := F' }, ?_, hgle, rfl, fun _ => rfl, ?_⟩
        · rw [he]
          refine ⟨fun x o u hu => ?_, by simp [hI.n], fun x X hx hsx => ?_, happ, hI.base, fun x o u hu => ?_, fun x o hx => (hFne x (by have := hat.base; omega) o).trans (hI.old x o hx)⟩
          · by_cases e : x = k
            · subst e
              have hu' : F' x o = some u := hu
              rw [hFk] at hu'
              split at hu'
              · rw [cell_at hat.at_]; exact hu'
              · cases hu'
            · have hu' : F' x o = some u := hu
              rw [hFne x e] at hu'
              exact hI.F x o u hu'
          · rcases hget x X hx with ⟨rfl, rfl⟩ | ⟨hne, hx'⟩
            · refine ⟨hok.row, hok.none_, fun k' hk' => ?_⟩
              have hk'' : g.loc x = some k' := hk'
              rw [hl] at hk''
              obtain rfl := Option.some.inj hk''
              exact ⟨cur, ty, { base := hat.base, at_ := hat.at_, len := hat.len, box := fun hx j c u hc hu => (hat.box hx j c u hc hu).mono hgle, row := fun hx j c u hc hu => (hat.row hx j c u hc hu).mono hle,
                                live := fun h0 => by simp at h0, frozen := fun _ o ho => by show F' k o = _; rw [hFk, if_pos ho],
                                spare := fun o ho => by show F' k o = _; rw [hFk]; exact if_neg (by simpa using ho), size := hat.size, one := hat.one }⟩
            · have hokx := hI.blk x X hx' hsx
              refine hokx.mono hgle ?_ (fun k' hk' o => ?_)
              · rw [hI.n]
                rcases Nat.lt_or_ge x h.length with h' | h'
                · exact h'
                · rw [List.getElem?_eq_none h'] at hx'; cases hx'
              · exact hFne k' (fun e => by subst e; exact hI.apart b x B X k' hb hx' (by omega) hsx (Ne.symm hne) hl hk') o
          · by_cases e : x = k
            · subst e
              have hu' : F' x o = some u := hu
              rw [hFk] at hu'
              split at hu'
              · rename_i ho; exact hat.one o u ho hu'
              · cases hu'
            · have hu' : F' x o = some u := hu
              rw [hFne x e] at hu'
              exact hI.one x o u hu'
        · intro B' k' hB' hst hlk o ho
          have hlk' : g.loc b = some k' := hlk
          rw [hl] at hlk'
          obtain rfl := Option.some.inj hlk'
          rw [he, List.getElem?_set_self hlt] at hB'
          obtain rfl := Option.some.inj hB'
          have ho' : o < B.cells.length := ho
          have hlt' : o < cur.size := Nat.lt_of_lt_of_le ho' hat.len
          exact ⟨cur[o], by show F' k o = _; rw [hFk, if_pos ho']; simp [hlt']⟩

theorem Froz.le {g g' : G} {h h' : Heap} {b : Nat} (hf : Froz g h b) (hg : g.le g') (hl : ∀ x, g'.loc x = g.loc x) (ha : Agree h h') (hst : ∀ (B B' : Blk), h[b]? = some B → h'[b]? = some B' → B'.st < 3 → B.st < 3) : Froz g' h' b := by
  intro B' k hB' hs hk o ho
  have hlt : b < h.length := by
    rw [ha.1]
    rcases Nat.lt_or_ge b h'.length with h1 | h1
    · exact h1
    · rw [List.getElem?_eq_none h1] at hB'; cases hB'
  have hB : h[b]? = some h[b] := List.getElem?_eq_getElem hlt
  obtain ⟨B2, h1, h2, _⟩ := ha.2 b _ hB
  rw [hB'] at h1
  obtain rfl := Option.some.inj h1
  obtain ⟨u, hu⟩ := hf h[b] k hB (hst _ _ hB hB' hs) (by rw [← hl]; exact hk) o (by rw [← h2]; exact ho)
  exact ⟨u, hg.F _ _ _ hu⟩

theorem mark1_st {h : Heap} {b x : Nat} {B B' : Blk} (hB : h[x]? = some B) (hB' : (mark1 h b)[x]? = some B') (hs : B'.st < 3) : B.st < 3 := by
  unfold Pv.mark1 at hB'
  cases hb : h[b]? with
  | none => simp only [hb] at hB'; rw [hB] at hB'; obtain rfl := Option.some.inj hB'; exact hs
  | some C =>
    simp only [hb] at hB'
    split at hB'
    · rename_i h0
      by_cases e : b = x
      · subst e; rw [hb] at hB; obtain rfl := Option.some.inj hB; omega
      · rw [List.getElem?_set_ne e, hB] at hB'; obtain rfl := Option.some.inj hB'; exact hs
    · rw [hB] at hB'; obtain rfl := Option.some.inj hB'; exact hs

theorem markAll_ok : ∀ (l : List Nat) {g : G} {base : Nat} {h : Heap} {w : World}, Inv g base h w →
    ∃ g', Inv g' base (markAll h l) w ∧ g.le g' ∧ g'.n = g.n ∧ (∀ x, g'.loc x = g.loc x) ∧ Agree h (markAll h l) ∧ (∀ (x : Nat) (B B' : Blk), h[x]? = some B → (markAll h l)[x]? = some B' → B'.st < 3 → B.st < 3) ∧ ∀ b ∈ l, Froz g' (markAll h l) b
  | [], g, base, h, w, hI => ⟨g, hI, G.le_refl g, rfl, fun _ => rfl, Agree.refl h, fun x B B' h1 h2 hs => by have h2' : h[x]? = some B' := h2; rw [h1] at h2'; obtain rfl := Option.some.inj h2'; exact hs, fun b hb => by cases hb⟩
  | a :: l, g, base, h, w, hI => by
    obtain ⟨g1, hI1, hle1, hn1, hl1, hf1⟩ := mark1_ok hI a
    obtain ⟨g2, hI2, hle2, hn2, hl2, ha2, hs2, hf2⟩ := markAll_ok l hI1
    have ha : Agree h (mark1 h a) := Agree.mark1 h a
    refine ⟨g2, hI2, G.le_trans hle1 hle2, hn2.trans hn1, fun x => (hl2 x).trans (hl1 x), Agree.trans ha ha2, fun x B B' h1 h2 hs => ?_, fun b hb => ?_⟩
    · obtain ⟨B1, k1, _⟩ := ha.2 x B h1
      exact mark1_st h1 k1 (hs2 x B1 B' k1 h2 hs)
    · rcases List.mem_cons.1 hb with rfl | hb
      · exact hf1.le hle2 hl2 ha2 (fun B B' => hs2 b B B')
      · exact hf2 b hb

/-- A frozen value is data. -/
theorem fz_rep {g : G} {base : Nat} {h2 : Heap} {w : World} (hI : Inv g base h2 w) {h : Heap} (ha : Agree h h2) : ∀ (d : Nat) (v v' : V) (u : Value), Rep g u v → fz h d v = some v' → (∀ b ∈ ids h d v, Froz g h2 b) → RepD g.F u v'
  | 0, v, v', u, _, hf, _ => by simp [fz] at hf
  | d + 1, v, v', u, hr, hf, hids => by
    have ih := fz_rep hI ha d
    -- a row that is frozen
    have rowF : ∀ (b k : Nat) (B : Blk), h[b]? = some B → B.box = false → B.st < 3 → Froz g h2 b → g.loc b = some k → ∀ (j : Nat) (c : V), B.cells[j]? = some c → ∃ x, g.F k j = some x ∧ RepD g.F x c := by
      intro b k B hB hbx hst hfz hl j c hj
      obtain ⟨B2, h1, h2', h3, h4, h5⟩ := ha.2 b B hB
      obtain ⟨cur, ty, hat⟩ := (hI.blk b B2 h1 (h5 hst)).place k hl
      have hlt : j < B2.cells.length := by rw [h2']; rcases Nat.lt_or_ge j B.cells.length with h' | h'; exact h'; rw [List.getElem?_eq_none h'] at hj; cases hj
      obtain ⟨x, hx⟩ := hfz B2 k h1 (h5 hst) hl j hlt
      have hc := hI.F _ _ _ hx
      rw [cell_at hat.at_] at hc
      exact ⟨x, hx, hat.row (by rw [h4]; exact hbx) j c x (by rw [h2']; exact hj) hc⟩
    have rowL : ∀ (b : Nat) (B : Blk), h[b]? = some B → B.box = false → B.st < 3 → B.cells.length = g.cnt b * g.es b ∧ B.es = g.es b := by
      intro b B hB hbx hst
      obtain ⟨B2, h1, h2', h3, h4, h5⟩ := ha.2 b B hB
      have := (hI.blk b B2 h1 (h5 hst)).row (by rw [h4]; exact hbx)
      rw [h2', h3] at this
      exact ⟨by rw [this.1, this.2.1], this.2.1⟩
    cases v with
    | own b n =>
      simp only [fz] at hf
      cases hB : h[b]? with
      | none => simp [hB] at hf
      | some B =>
        simp only [hB] at hf
        split at hf
        · cases hf
        · rename_i hc
          simp only [Bool.or_eq_true, decide_eq_true_eq, not_or, Bool.not_eq_true] at hc
          obtain rfl := Option.some.inj hf
          have hfz := hids b (by simp [ids])
          obtain ⟨hb, hcnt, h0 | ⟨k, cap, hl, rfl, hn, hz⟩⟩ := hr.inv_own
          · obtain ⟨rfl, a, rfl⟩ := h0
            have := (rowL b B hB hc.1 (by omega)).1
            rw [hcnt, Nat.zero_mul] at this
            rw [List.eq_nil_of_length_eq_zero this]
            exact .sl0 a 0
          · refine .sl k 0 n cap _ hn (fun j c hj => ?_) (fun j c u hj hu => ?_)
            · obtain ⟨x, hx, _⟩ := rowF b k B hB hc.1 (by omega) hfz hl j c hj
              rw [Nat.zero_add, hx]; rfl
            · obtain ⟨x, hx, hxr⟩ := rowF b k B hB hc.1 (by omega) hfz hl j c hj
              rw [Nat.zero_add, hx] at hu
              obtain rfl := Option.some.inj hu
              exact hxr
    | ref b off n =>
      simp only [fz] at hf
      cases hB : h[b]? with
      | none => simp [hB] at hf
      | some B =>
        simp only [hB] at hf
        split at hf
        · cases hf
        · rename_i hc
          simp only [Bool.or_eq_true, decide_eq_true_eq, not_or, Bool.not_eq_true] at hc
          obtain rfl := Option.some.inj hf
          have hfz := hids b (by simp [ids])
          obtain ⟨hb, hcnt, h0 | ⟨k, cap, hl, rfl, hn, hz⟩⟩ := hr.inv_ref
          · obtain ⟨rfl, a, rfl⟩ := h0
            simp only [Nat.zero_mul, List.take_zero]
            exact .sl0 a 0
          · have hget : ∀ (j : Nat) (c : V), ((B.cells.drop off).take (n * B.es))[j]? = some c → B.cells[off + j]? = some c := by
              intro j c hj
              rw [List.getElem?_take] at hj
              split at hj
              · rwa [List.getElem?_drop] at hj
              · cases hj
            refine .sl k off n cap _ hn (fun j c hj => ?_) (fun j c u hj hu => ?_)
            · obtain ⟨x, hx, _⟩ := rowF b k B hB hc.1 (by omega) hfz hl _ c (hget j c hj)
              rw [hx]; rfl
            · obtain ⟨x, hx, hxr⟩ := rowF b k B hB hc.1 (by omega) hfz hl _ c (hget j c hj)
              rw [hx] at hu
              obtain rfl := Option.some.inj hu
              exact hxr
    | ptr b off =>
      simp only [fz] at hf
      cases hB : h[b]? with
      | none => simp [hB] at hf
      | some B =>
        simp only [hB] at hf
        split at hf
        case isFalse => cases hf
        rename_i hc
        simp only [Bool.and_eq_true, decide_eq_true_eq] at hc
        cases hm : B.cells.mapM (fz h d) with
        | none => simp [hm] at hf
        | some cs =>
          simp only [hm] at hf
          obtain rfl := Option.some.inj hf
          obtain ⟨hlen, hget⟩ := mapM_get _ _ hm
          obtain ⟨k, hb, hl, rfl⟩ := hr.inv_ptr
          have hfz := hids b (by simp [ids])
          obtain ⟨B2, h1, h2', h3, h4, h5⟩ := ha.2 b B hB
          obtain ⟨cur, ty, hat⟩ := (hI.blk b B2 h1 (h5 hc.2)).place k hl
          have cell : ∀ (j : Nat) (c' : V), cs[j]? = some c' → ∃ x, g.F k j = some x ∧ RepD g.F x c' := by
            intro j c' hj
            have hjl : j < B.cells.length := by rw [← hlen]; rcases Nat.lt_or_ge j cs.length with h' | h'; exact h'; rw [List.getElem?_eq_none h'] at hj; cases hj
            have hbj : B.cells[j]? = some B.cells[j] := List.getElem?_eq_getElem hjl
            obtain ⟨y, hy, hfy⟩ := hget j _ hbj
            rw [hj] at hy
            obtain rfl := Option.some.inj hy
            obtain ⟨x, hx⟩ := hfz B2 k h1 (h5 hc.2) hl j (by rw [h2']; exact hjl)
            have hcx := hI.F _ _ _ hx
            rw [cell_at hat.at_] at hcx
            refine ⟨x, hx, ih _ _ _ (hat.box (by rw [h4]; exact hc.1) j _ x (by rw [h2']; exact hbj) hcx) hfy (fun b' hb' => hids b' ?_)⟩
            simp only [ids, hB, List.mem_cons, List.mem_flatMap]
            exact .inr ⟨_, List.getElem_mem hjl, hb'⟩
          have := RepD.rop (F := g.F) k 0 off cs (fun j c hj => by obtain ⟨x, hx, _⟩ := cell j c hj; rw [Nat.zero_add, hx]; rfl)
            (fun j c u hj hu => by obtain ⟨x, hx, hr⟩ := cell j c hj; rw [Nat.zero_add, hx] at hu; obtain rfl := Option.some.inj hu; exact hr)
          simpa using this
    | agg cs =>
      simp only [fz] at hf
      cases hm : cs.mapM (fz h d) with
      | none => simp [hm] at hf
      | some ds =>
        simp only [hm] at hf
        obtain rfl := Option.some.inj hf
        obtain ⟨hlen, hget⟩ := mapM_get _ _ hm
        obtain ⟨cs', rfl, hl, hr'⟩ := hr.inv_agg
        refine .agg _ _ (by rw [hlen]; exact hl) (fun j x u hj hu => ?_)
        have hjl : j < cs.length := by rw [← hlen]; rcases Nat.lt_or_ge j ds.length with h' | h'; exact h'; rw [List.getElem?_eq_none h'] at hj; cases hj
        have hbj : cs[j]? = some cs[j] := List.getElem?_eq_getElem hjl
        obtain ⟨y, hy, hfy⟩ := hget j _ hbj
        rw [hj] at hy
        obtain rfl := Option.some.inj hy
        exact ih _ _ _ (hr' j _ u hbj hu) hfy (fun b' hb' => hids b' (by simp only [ids, List.mem_flatMap]; exact ⟨_, List.getElem_mem hjl, hb'⟩))
    | fn f a c =>
      simp only [fz] at hf
      cases hma : a.mapM (fz h d) with
      | none => simp [hma] at hf
      | some da =>
        cases hmc : c.mapM (fz h d) with
        | none => simp [hma, hmc] at hf
        | some dc =>
          simp only [hma, hmc] at hf
          obtain rfl := Option.some.inj hf
          obtain ⟨hlena, hgeta⟩ := mapM_get _ _ hma
          obtain ⟨hlenc, hgetc⟩ := mapM_get _ _ hmc
          obtain ⟨a', c', rfl, hla, hlc, ra, rc⟩ := hr.inv_fn
          refine .fn f _ _ _ _ (by rw [hlena]; exact hla) (by rw [hlenc]; exact hlc) (fun j x u hj hu => ?_) (fun j x u hj hu => ?_)
          · have hjl : j < a.length := by rw [← hlena]; rcases Nat.lt_or_ge j da.length with h' | h'; exact h'; rw [List.getElem?_eq_none h'] at hj; cases hj
            have hbj : a[j]? = some a[j] := List.getElem?_eq_getElem hjl
            obtain ⟨y, hy, hfy⟩ := hgeta j _ hbj
            rw [hj] at hy
            obtain rfl := Option.some.inj hy
            exact ih _ _ _ (ra j _ u hbj hu) hfy (fun b' hb' => hids b' (by simp only [ids, List.mem_append, List.mem_flatMap]; exact .inl ⟨_, List.getElem_mem hjl, hb'⟩))
          · have hjl : j < c.length := by rw [← hlenc]; rcases Nat.lt_or_ge j dc.length with h' | h'; exact h'; rw [List.getElem?_eq_none h'] at hj; cases hj
            have hbj : c[j]? = some c[j] := List.getElem?_eq_getElem hjl
            obtain ⟨y, hy, hfy⟩ := hgetc j _ hbj
            rw [hj] at hy
            obtain rfl := Option.some.inj hy
            exact ih _ _ _ (rc j _ u hbj hu) hfy (fun b' hb' => hids b' (by simp only [ids, List.mem_append, List.mem_flatMap]; exact .inr ⟨_, List.getElem_mem hjl, hb'⟩))
    | iface t x =>
      simp only [fz] at hf
      cases hx : fz h d x with
      | none => simp [hx] at hf
      | some y =>
        simp only [hx] at hf
        obtain rfl := Option.some.inj hf
        obtain ⟨u', rfl, hu'⟩ := hr.inv_iface
        exact .iface t u' y (ih _ _ _ hu' hx (fun b' hb' => hids b' (by simpa only [ids] using hb')))
    | nils =>
      simp only [fz, Option.some.injEq] at hf
      subst hf
      obtain ⟨a, rfl⟩ := hr.inv_nils
      exact .sl0 a 0
    | tup vs => simp [fz] at hf
    | _ =>
      simp only [fz, Option.some.injEq] at hf
      subst hf
      cases hr with
      | data _ _ h => exact h

end Go.Pv

/- Operations: stores, new boxes, fields, indices. -/
namespace Go.Pv
open Go Go.RowKit

theorem length_of_get {α : Type} {l : List α} {j : Nat} {x : α} (h : l[j]? = some x) : j < l.length := by
  rcases Nat.lt_or_ge j l.length with h' | h'
  · exact h'
  · rw [List.getElem?_eq_none h'] at h; cases h

theorem all_one {g : G} {us : List Value} {xs : List V} (h : CellsRep g us xs) (ha : xs.all oneCell = true) : ∀ u ∈ us, u.oneCell' = true := by
  intro u hu
  obtain ⟨j, hj, rfl⟩ := List.mem_iff_getElem.1 hu
  have hjx : j < xs.length := by rw [← h.1]; exact hj
  exact (h.2 j xs[j] us[j] (List.getElem?_eq_getElem hjx) (List.getElem?_eq_getElem hj)).one (List.all_eq_true.1 ha _ (List.getElem_mem hjx))

/-- The cells of a value all of whose cells are single. -/
theorem Rep.cells_of_one {g : G} {u : Value} {v : V} (h : Rep g u v) (ha : v.cells.all oneCell = true) : CellsRep g u.cells.toList v.cells := by
  refine h.cellsRep (fun cs e => ?_) (fun e => ?_)
  · subst e; simp [V.cells, oneCell] at ha
  · subst e; simp [V.cells, oneCell] at ha

theorem info_cells {P : Program} {t : TypeId} (h : (P.info? t).isSome = true) (w : World) : (sizeOf t).run P w = .ok (P.cellsOf t) w := by
  obtain ⟨i, hi⟩ := Option.isSome_iff_exists.1 h
  simp [sizeOf, typeInfo, hi, Program.cellsOf]

/-- The concrete row behind a write. -/
def newRowOf (cur : Array Value) (off : Nat) (us : List Value) : Array Value := (cur.toList.take off ++ us ++ cur.toList.drop (off + us.length)).toArray

theorem storeAt_run {P : Program} {t : TypeId} {w : World} {k off : Nat} {cur : Array Value} {ty : TypeId} {u : Value} (hi : (P.info? t).isSome = true)
    (hk : w.heap[k]? = some (.cells cur ty (0, 0))) (hlen : u.cells.size = P.cellsOf t) (hfit : off + u.cells.size ≤ cur.size) (h1 : ∀ x ∈ u.cells.toList, x.oneCell' = true) :
    (Instr.storeAt t (.pointer (some ⟨k, off, none⟩)) u).run P w = .ok () (w.setRow k (newRowOf cur off u.cells.toList)) := by
  have hst := run_storeCells_at P k off ty u.cells.toList 0 cur w hk (by simpa using hfit) h1
  simp only [Nat.add_zero] at hst
  simp [Instr.storeAt, Instr.sureAddr, storeVar, info_cells hi, hlen, hst, newRowOf]

theorem storeC_ok {P : Program} {base : Nat} {t : TypeId} {g : G} {h : Heap} {w : World} {a v : V} {ua uv : Value} {K : Kont} {r : Res}
    (hI : Inv g base h w) (ha : Rep g ua a) (hv : Rep g uv v) (he : storeC P t a v h K = some r) :
    ∃ w' g' h', (Instr.storeAt t ua uv).run P w = .ok () w' ∧ Inv g' base h' w' ∧ g.le g' ∧ Below base w w' ∧ K .undef h' = some r := by
  unfold storeC at he
  cases a with
  | ptr b off =>
    simp only at he
    obtain ⟨k, hb, hl, rfl⟩ := ha.inv_ptr
    cases hB : h[b]? with
    | none => simp [hB] at he
    | some B =>
      simp only [hB] at he
      split at he
      case isFalse => cases he
      rename_i hc
      obtain ⟨hst, hlen, hone, hinf⟩ := hc
      have hcr := hv.cells_of_one hone
      have hsz : uv.cells.size = v.cells.length := by have := hcr.1; simpa using this
      split at he
      · rename_i hbx
        split at he
        case isFalse => cases he
        rename_i hfit
        obtain ⟨cur, ty, hat⟩ := (hI.blk b B hB (by omega)).place k hl
        have hfc : off + uv.cells.size ≤ cur.size := by rw [hsz]; exact Nat.le_trans hfit hat.len
        have hrun := storeAt_run (P := P) (t := t) hinf hat.at_ (by rw [hsz]; exact hlen) hfc (all_one hcr hone)
        obtain ⟨hI', hbl⟩ := hI.write (B' := { B with cells := setMany B.cells off v.cells }) (new := newRowOf cur off uv.cells.toList) hB hst hl hat hst rfl rfl (setMany_length _ _ _) (row_size cur off _ (by simpa using hfc))
          (fun _ j c u hj hu => by
            rw [newRowOf, row_get cur off _ (by simpa using hfc)] at hu
            rcases setMany_get _ _ _ hfit j c hj with ⟨h1, h2, h3⟩ | ⟨h1, h2⟩
            · rw [if_pos ⟨h1, by simpa [hsz] using h2⟩] at hu
              exact hcr.2 _ c u h3 hu
            · rw [if_neg (by simpa [hsz] using h1)] at hu
              exact hat.box hbx j c u h2 hu)
          (fun hx => by rw [hbx] at hx; cases hx)
          (fun j u hj hu => by
            rw [newRowOf, row_get cur off _ (by simpa using hfc)] at hu
            split at hu
            · exact all_one hcr hone u (List.mem_of_getElem? hu)
            · exact hat.one j u (by simpa [setMany_length] using hj) hu)
        exact ⟨_, g, _, hrun, hI', G.le_refl g, hbl, he⟩
      · rename_i hbx
        have hbx : B.box = false := by simpa using hbx
        cases hm : v.cells.mapM (fz h 4) with
        | none => simp [hm] at he
        | some cs =>
          simp only [hm] at he
          obtain ⟨g1, hI1, hle1, hn1, hl1, hag, hs1, hf1⟩ := markAll_ok (v.cells.flatMap (ids h 4)) hI
          obtain ⟨B1, hB1, hc1, hes1, hbx1, hst1⟩ := hag.2 b B hB
          simp only [hB1] at he
          split at he
          case isFalse => cases he
          rename_i hst0
          obtain ⟨hfit, hK⟩ := cond_some he
          have hfit : off + cs.length ≤ B.cells.length := by simpa using hfit
          obtain ⟨hlm, hgm⟩ := mapM_get _ _ hm
          obtain ⟨cur, ty, hat⟩ := (hI1.blk b B1 hB1 (by omega)).place k (by rw [hl1]; exact hl)
          have hfc : off + uv.cells.size ≤ cur.size := by
            have := hat.len
            rw [hc1] at this
            rw [hsz, ← hlm]; omega
          have hrun := storeAt_run (P := P) (t := t) hinf hat.at_ (by rw [hsz]; exact hlen) hfc (all_one hcr hone)
          obtain ⟨hI', hbl⟩ := hI1.write (B' := { B1 with cells := setMany B1.cells off cs }) (new := newRowOf cur off uv.cells.toList) hB1 hst0 (by rw [hl1]; exact hl) hat hst0 rfl rfl (setMany_length _ _ _) (row_size cur off _ (by simpa using hfc))
            (fun hx => by rw [hbx1, hbx] at hx; cases hx)
            (fun _ j c u hj hu => by
              rw [newRowOf, row_get cur off _ (by simpa using hfc)] at hu
              rcases setMany_get _ _ _ (by rw [hc1]; exact hfit) j c hj with ⟨h1, h2, h3⟩ | ⟨h1, h2⟩
              · rw [if_pos ⟨h1, by simpa [hsz, ← hlm] using h2⟩] at hu
                have hjl : j - off < v.cells.length := by rw [← hlm]; exact length_of_get h3
                have hvx := List.getElem?_eq_getElem hjl
                obtain ⟨y, hy, hfy⟩ := hgm (j - off) _ hvx
                rw [h3] at hy
                obtain rfl := Option.some.inj hy
                exact fz_rep hI1 hag 4 _ _ _ ((hcr.2 _ _ u hvx hu).mono hle1) hfy (fun b' hb' => hf1 b' (List.mem_flatMap.2 ⟨_, List.getElem_mem hjl, hb'⟩))
              · rw [if_neg (by simpa [hsz, ← hlm] using h1)] at hu
                exact hat.row (by rw [hbx1]; exact hbx) j c u h2 hu)
            (fun j u hj hu => by
              rw [newRowOf, row_get cur off _ (by simpa using hfc)] at hu
              split at hu
              · exact all_one hcr hone u (List.mem_of_getElem? hu)
              · exact hat.one j u (by simpa [setMany_length] using hj) hu)
          exact ⟨_, g1, _, hrun, hI', hle1, hbl, hK⟩
  | _ => simp at he

/-! ### Constants -/

theorem bytes_eta (s : ByteArray) : s = ⟨s.data.toList.toArray⟩ := by cases s; simp

theorem cellOf_rep (F : Fz) (v : Value) : RepD F v (cellOf v) := by
  unfold cellOf
  split
  · exact .bool _
  · exact .int _ _
  · rename_i s; have := RepD.str (F := F) s.data.toList; rwa [← bytes_eta] at this
  · exact .nilp
  · exact .nils _
  · exact .nilf
  · exact .nili
  · split
    · rename_i ha hb
      exact .fn _ _ _ _ _ (by rw [← Array.length_toList, ha]; rfl) (by rw [← Array.length_toList, hb]; rfl) (fun j x u h => by simp at h) (fun j x u h => by simp at h)
    · exact .undef _
  · exact .undef _

theorem ofValue_rep (F : Fz) (v : Value) : RepD F v (ofValue v) := by
  unfold ofValue
  split
  · rename_i cs
    refine .agg _ _ (by simp) (fun j x u hj hu => ?_)
    rw [List.getElem?_map] at hj
    cases hc : cs.toList[j]? with
    | none => rw [hc] at hj; cases hj
    | some y =>
      rw [hc] at hj
      simp at hj hc
      subst hj
      rw [hc] at hu
      obtain rfl := Option.some.inj hu
      exact cellOf_rep F _
  · exact cellOf_rep F _

theorem zeroOf_run {P : Program} {t : TypeId} {z : V} (h : zeroOf P t = some z) (w : World) : ∃ u, (zeroValue t).run P w = .ok u w ∧ (∀ F, RepD F u z) ∧ ∃ i, P.info? t = some i ∧ i.zero = some u := by
  unfold zeroOf at h
  cases hi : P.info? t with
  | none => simp [hi] at h
  | some i =>
    cases hz : i.zero with
    | none => simp [hi, hz] at h
    | some u =>
      simp only [hi, hz, Option.some.injEq] at h
      subst h
      exact ⟨u, by simp [zeroValue, typeInfo, hi, hz], fun F => ofValue_rep F u, i, rfl, hz⟩

/-! ### New blocks -/

theorem below_alloc {base : Nat} {w : World} (hb : base ≤ w.heap.size) (o : Obj) : Below base w (w.alloc o) := (Below.refl base w).alloc hb o

theorem later_alloc (w : World) (o : Obj) : Later w (w.alloc o) := ⟨by simp, fun k hk => heap_alloc_old w o hk⟩

theorem F_lt {g : G} {base : Nat} {h : Heap} {w : World} (hI : Inv g base h w) (k : Nat) (hk : w.heap.size ≤ k) (o : Nat) : g.F k o = none := by
  cases hF : g.F k o with
  | none => rfl
  | some u =>
    have := World.block_lt_of_cell? w _ (hI.F k o u hF)
    simp at this
    omega

theorem loc_lt {g : G} {base : Nat} {h : Heap} {w : World} (hI : Inv g base h w) {b : Nat} {B : Blk} (hB : h[b]? = some B) (hs : B.st < 3) {k : Nat} (hl : g.loc b = some k) : k < w.heap.size := by
  obtain ⟨cur, ty, hat⟩ := (hI.blk b B hB hs).place k hl
  exact lt_of_at hat.at_

/-- A new block: its cells are all of a new row. -/
theorem Inv.newBlk {g : G} {base : Nat} {h : Heap} {w w' : World} (hI : Inv g base h w) (hw : Later w w') {k : Nat} (hk : w.heap.size ≤ k) (cur : Array Value) (ty : TypeId) (hat : w'.heap[k]? = some (.cells cur ty (0, 0)))
    (B : Blk) (hst : B.st = 0) (es cnt : Nat) (hlen : B.cells.length ≤ cur.size) (hrow : B.box = false → B.cells.length = cnt * B.es ∧ B.es = es ∧ 0 < B.es)
    (hbx : B.box = true → ∀ (j : Nat) (c : V) (u : Value), B.cells[j]? = some c → cur[j]? = some u → Rep (g.add (some k) es cnt cur.size) u c)
    (hrw : B.box = false → ∀ (j : Nat) (c : V) (u : Value), B.cells[j]? = some c → cur[j]? = some u → RepD g.F u c)
    (hone : ∀ (j : Nat) (u : Value), j < B.cells.length → cur[j]? = some u → u.oneCell' = true) :
    Inv (g.add (some k) es cnt cur.size) base (h ++ [B]) w' := by
  refine hI.push hw B (some k) es cnt cur.size (fun _ => ?_) (fun k' e b B' hB' hs' hl => ?_)
  · refine ⟨fun hx => ?_, fun hn => ?_, fun k' hk' => ?_⟩
    · rw [G.add_cnt, G.add_es]; exact hrow hx
    · rw [G.add_loc] at hn; cases hn
    · rw [G.add_loc] at hk'
      obtain rfl := Option.some.inj hk'
      exact ⟨cur, ty, { base := Nat.le_trans hI.base hk, at_ := hat, len := hlen, box := hbx, row := hrw, live := fun _ o => F_lt hI k hk o, frozen := fun hp => by omega, spare := fun o _ => F_lt hI k hk o, size := by rw [G.add_sz], one := hone }⟩
  · obtain rfl := Option.some.inj e
    have := loc_lt hI hB' hs' hl
    omega

theorem boxC_ok {P : Program} {base : Nat} {t : TypeId} {g : G} {h : Heap} {w : World} {v : V} {u : Value} {K : Kont} {r : Res}
    (hI : Inv g base h w) (hv : Rep g u v) (he : boxC v h K = some r) : SemOk P base (do pure (.pointer (some (← newVar t u)))) g w K r := by
  unfold boxC at he
  split at he
  case isFalse => cases he
  rename_i hone
  have hcr := hv.cells_of_one hone
  have hnew := heap_alloc_new w (.cells u.cells t)
  have hI' := hI.newBlk (later_alloc w (.cells u.cells t)) (Nat.le_refl _) u.cells t hnew ⟨v.cells, 1, 0, true⟩ rfl 1 0 (by have := hcr.1; simp at this; simp [this]) (fun hx => by cases hx)
    (fun _ j c x hc hx => (hcr.2 j c x hc (by simpa using hx)).mono (g.le_add _ _ _ _)) (fun hx => by cases hx) (fun j u _ hu => all_one hcr hone u (List.mem_of_getElem? (by simpa using hu)))
  refine ⟨.pointer (some ⟨w.heap.size, 0, none⟩), _, _, _, _, ?_, ?_, hI', g.le_add _ _ _ _, below_alloc hI.base _, he⟩
  · simp [newVar, newRow]
  · rw [← hI.n]
    exact .ptr _ _ 0 (by simp [G.add]) (G.add_loc _ _ _ _ _)

end Go.Pv

/- Operations: fields, indices, slicing, lengths. -/
namespace Go.Pv
open Go Go.RowKit

theorem fieldOf_spec {P : Program} {t : TypeId} {f : Nat} {fd : Field} (h : fieldOf P t f = some fd) : ∃ fs, P.underlying t = some (.struct fs) ∧ fs[f]? = some fd := by
  unfold fieldOf at h
  split at h
  · rename_i fs hu; exact ⟨fs, hu, h⟩
  · cases h

theorem fieldAtC_ok {P : Program} {base : Nat} {t : TypeId} {f : Nat} {g : G} {h : Heap} {w : World} {a : V} {u : Value} {K : Kont} {r : Res}
    (hI : Inv g base h w) (hu : Rep g u a) (he : fieldAtC P t a f h K = some r) : SemOk P base (Instr.fieldAt t u f) g w K r := by
  unfold fieldAtC at he
  cases hf : fieldOf P t f with
  | none => simp [hf] at he
  | some fd =>
    simp only [hf] at he
    split at he
    · cases he
    rename_i hz
    obtain ⟨fs, hus, hfs⟩ := fieldOf_spec hf
    have hinf : (P.info? fd.type).isSome = true := by
      cases hi : P.info? fd.type with
      | none => simp [Program.cellsOf, hi] at hz
      | some i => rfl
    have hrun : ∀ (k o : Nat), (Instr.fieldAt t (.pointer (some ⟨k, o, none⟩)) f).run P w = .ok (.pointer (some ⟨k, o + fd.offset, none⟩)) w := by
      intro k o
      simp [Instr.fieldAt, run_underlying hus, hfs, Instr.sureAddr, fieldPlace, info_cells hinf, hz, Addr.add_lit]
    cases a with
    | ptr b off =>
      obtain ⟨k, hb, hl, rfl⟩ := hu.inv_ptr
      exact .same (hrun k off) (.ptr b k _ hb hl) hI he
    | rop cells off =>
      have hD := hu.inv_rop
      cases hD with
      | rop k o off cells hs hr =>
        refine .same (hrun k (o + off)) ?_ hI he
        rw [Nat.add_assoc]
        exact .data _ _ (.rop k o _ cells hs hr)
    | _ => simp at he

theorem fieldC_ok {P : Program} {base : Nat} {t : TypeId} {f : Nat} {g : G} {h : Heap} {w : World} {a : V} {u : Value} {K : Kont} {r : Res}
    (hI : Inv g base h w) (hu : Rep g u a) (he : fieldC P t a f h K = some r) : SemOk P base (Instr.field t u f) g w K r := by
  unfold fieldC at he
  cases hf : fieldOf P t f with
  | none => simp [hf] at he
  | some fd =>
    obtain ⟨fs, hus, hfs⟩ := fieldOf_spec hf
    cases a with
    | agg cs =>
      simp only [hf] at he
      cases hd : P.underlying fd.type with
      | none => simp [hd] at he
      | some d =>
        simp only [hd] at he
        obtain ⟨cs', rfl, hl, hr⟩ := hu.inv_agg
        cases ha : isAggT P fd.type with
        | true =>
          simp only [ha, if_true] at he
          split at he
          case isFalse => cases he
          rename_i hfit
          refine .same (u := .agg (cs'.extract fd.offset (fd.offset + P.cellsOf fd.type))) (by simp [Instr.field, run_underlying hus, hfs, asAgg, part, isAgg_run hd, ha, sizeOf_run hd]) ?_ hI he
          refine .agg _ _ (by simp [readP_length]; omega) (fun j x u hj hu => ?_)
          obtain ⟨hj1, rfl⟩ := readP_get _ _ _ _ _ hj
          rw [Array.getElem?_extract] at hu
          split at hu
          · exact hr _ _ u (getD_of_lt (by omega)) hu
          · cases hu
        | false =>
          simp only [ha, Bool.false_eq_true, if_false] at he
          split at he
          case isFalse => cases he
          rename_i hfit
          have hlt : fd.offset < cs'.size := by omega
          refine .same (u := cs'[fd.offset]) (by simp [Instr.field, run_underlying hus, hfs, asAgg, part, isAgg_run hd, ha, hlt]) (hr _ _ _ (getD_of_lt hfit) (by simp [hlt])) hI he
    | _ => simp [hf] at he

theorem notNone {α : Type} {x : Option α} (h : ¬ x.isNone = true) : x.isSome = true := by cases x <;> simp at h ⊢

theorem indexAtC_ok {P : Program} {base : Nat} {t : TypeId} {g : G} {h : Heap} {w : World} {x i : V} {ux ui : Value} {K : Kont} {r : Res}
    (hI : Inv g base h w) (hx : Rep g ux x) (hi : Rep g ui i) (he : indexAtC P t x i h K = some r) : SemOk P base (Instr.indexAt t ux ui) g w K r := by
  unfold indexAtC at he
  cases i with
  | int k i =>
    obtain rfl := hi.inv_int
    simp only at he
    cases hd : P.underlying t with
    | none => simp [hd] at he
    | some d =>
      simp only [hd] at he
      cases d with
      | array len e =>
        simp only at he
        split at he
        · cases he
        rename_i hn
        have hinf := notNone hn
        have hrun : ∀ (b o : Nat), 0 ≤ i → i < (len : Int) → (Instr.indexAt t (.pointer (some ⟨b, o, none⟩)) (.int k i)).run P w = .ok (.pointer (some ⟨b, o + i.toNat * P.cellsOf e, none⟩)) w := by
          intro b o h0 h1
          simp [Instr.indexAt, asIntOf, run_underlying hd, Instr.sureAddr, h0, h1, info_cells hinf, Addr.add_lit]
        cases x with
        | ptr b off =>
          simp only at he
          obtain ⟨h0, he⟩ := cond_some he
          obtain ⟨h1, he⟩ := cond_some he
          obtain ⟨kk, hb, hl, rfl⟩ := hx.inv_ptr
          exact .same (hrun kk off (by simpa using h0) (by simpa using h1)) (.ptr b kk _ hb hl) hI he
        | rop cells off =>
          simp only at he
          obtain ⟨h0, he⟩ := cond_some he
          obtain ⟨h1, he⟩ := cond_some he
          have hD := hx.inv_rop
          cases hD with
          | rop kk o off cells hs hr =>
            refine .same (hrun kk (o + off) (by simpa using h0) (by simpa using h1)) ?_ hI he
            rw [Nat.add_assoc]
            exact .data _ _ (.rop kk o _ cells hs hr)
        | _ => simp at he
      | slice e =>
        simp only at he
        split at he
        · cases he
        rename_i hn
        have hinf := notNone hn
        have hrun : ∀ (b o n cap : Nat), 0 ≤ i → i < (n : Int) → (Instr.indexAt t (.slice (some ⟨b, o, none⟩) n cap) (.int k i)).run P w = .ok (.pointer (some ⟨b, o + i.toNat * P.cellsOf e, none⟩)) w := by
          intro b o n cap h0 h1
          simp [Instr.indexAt, asIntOf, run_underlying hd, h0, h1, info_cells hinf, Addr.add_lit]
        cases x with
        | sl n cells =>
          simp only at he
          obtain ⟨h0, he⟩ := cond_some he
          obtain ⟨h1, he⟩ := cond_some he
          have h0 : 0 ≤ i := by simpa using h0
          have h1 : i < (n : Int) := by simpa using h1
          have hD := hx.inv_sl
          cases hD with
          | sl0 a cap => exact absurd h1 (by simp; omega)
          | sl b o n cap cells hn hs hr => exact .same (hrun b o n cap h0 h1) (.data _ _ (.rop b o _ cells hs hr)) hI he
        | own b n =>
          simp only at he
          obtain ⟨h0, he⟩ := cond_some he
          obtain ⟨h1, he⟩ := cond_some he
          have h0 : 0 ≤ i := by simpa using h0
          have h1 : i < (n : Int) := by simpa using h1
          obtain ⟨hb, hc, ⟨rfl, _⟩ | ⟨kk, cap, hl, rfl, hn, hz⟩⟩ := hx.inv_own
          · exact absurd h1 (by simp; omega)
          · have := hrun kk 0 n cap h0 h1
            rw [Nat.zero_add] at this
            exact .same this (.ptr b kk _ hb hl) hI he
        | ref b off n =>
          simp only at he
          obtain ⟨h0, he⟩ := cond_some he
          obtain ⟨h1, he⟩ := cond_some he
          have h0 : 0 ≤ i := by simpa using h0
          have h1 : i < (n : Int) := by simpa using h1
          obtain ⟨hb, hc, ⟨rfl, _⟩ | ⟨kk, cap, hl, rfl, hn, hz⟩⟩ := hx.inv_ref
          · exact absurd h1 (by simp; omega)
          · exact .same (hrun kk off n cap h0 h1) (.ptr b kk _ hb hl) hI he
        | _ => simp at he
      | _ => simp at he
  | _ => simp at he

theorem indexC_ok {P : Program} {base : Nat} {t : TypeId} {g : G} {h : Heap} {w : World} {x i : V} {ux ui : Value} {K : Kont} {r : Res}
    (hI : Inv g base h w) (hx : Rep g ux x) (hi : Rep g ui i) (he : indexC P t x i h K = some r) : SemOk P base (Instr.index t ux ui) g w K r := by
  unfold indexC at he
  cases i with
  | int k i =>
    obtain rfl := hi.inv_int
    cases x with
    | str s =>
      simp only at he
      obtain rfl := hx.inv_str
      cases hd : P.underlying t with
      | none => simp [hd] at he
      | some d =>
        simp only [hd] at he
        cases d with
        | string =>
          simp only at he
          obtain ⟨h0, he⟩ := cond_some he
          obtain ⟨h1, he⟩ := cond_some he
          have h0 : 0 ≤ i := by simpa using h0
          have h1 : i < (s.length : Int) := by simpa using h1
          have hlt : i.toNat < s.length := by omega
          refine .same (u := .int .u8 ((s.getD i.toNat 0).toNat)) ?_ (.data _ _ (.int _ _)) hI he
          have hget : (⟨s.toArray⟩ : ByteArray)[i.toNat]? = some (s.getD i.toNat 0) := by
            rw [getElem?_pos (⟨s.toArray⟩ : ByteArray) i.toNat (by show i.toNat < (s.toArray).size; simpa using hlt)]
            simp [ByteArray.getElem_eq_getElem_data, List.getD_eq_getElem?_getD, hlt]
          simp [Instr.index, asIntOf, run_underlying hd, h0, hget]
        | _ => simp at he
    | agg cs =>
      simp only at he
      cases hd : P.underlying t with
      | none => simp [hd] at he
      | some d =>
        simp only [hd] at he
        cases d with
        | array len e =>
          simp only at he
          cases hk : kinds P 20 e with
          | none => simp [hk] at he
          | some ks =>
            simp only [hk] at he
            obtain ⟨h0, he⟩ := cond_some he
            obtain ⟨h1, he⟩ := cond_some he
            split at he
            case isFalse => cases he
            rename_i hlen
            obtain ⟨h2, he⟩ := cond_some he
            have h0 : 0 ≤ i := by simpa using h0
            have h1 : i < (len : Int) := by simpa using h1
            obtain ⟨cs', rfl, hl, hr⟩ := hx.inv_agg
            obtain ⟨d, hde⟩ := kinds_underlying hk
            have hin := okT_lt _ _ _ h2
            rw [readT_eq _ _ _ h2] at he
            cases ha : isAggT P e with
            | true =>
              simp only [ha, mkV] at he
              refine .same (u := .agg (cs'.extract (i.toNat * P.cellsOf e) (i.toNat * P.cellsOf e + P.cellsOf e))) (by simp [Instr.index, asIntOf, run_underlying hd, h0, h1, part, isAgg_run hde, ha, sizeOf_run hde]) ?_ hI he
              refine .agg _ _ ?_ (fun j x u hj hu => ?_)
              · rw [readP_length, Array.size_extract, hl]
                by_cases hz : ks.length = 0
                · omega
                · have := hin (ks.length - 1) (by omega)
                  omega
              · obtain ⟨hj1, rfl⟩ := readP_get _ _ _ _ _ hj
                rw [Array.getElem?_extract] at hu
                split at hu
                · exact hr _ _ u (getD_of_lt (hin j hj1)) hu
                · cases hu
            | false =>
              have hone : ks.length = 1 := by have := hlen.2; simpa [ha] using this
              have hlt := hin 0 (by omega)
              simp only [Nat.add_zero] at hlt
              have hlt' : i.toNat * P.cellsOf e < cs'.size := by omega
              rw [hone] at he
              simp only [ha, readP, mkV] at he
              exact .same (u := cs'[i.toNat * P.cellsOf e]) (by simp [Instr.index, asIntOf, run_underlying hd, h0, h1, part, isAgg_run hde, ha, sizeOf_run hde, hlt']) (hr _ _ _ (getD_of_lt hlt) (by simp [hlt'])) hI he
        | _ => simp at he
    | _ => simp at he
  | _ => simp at he

end Go.Pv

/- Operations: slicing, lengths, arithmetic. -/
namespace Go.Pv
open Go Go.RowKit

/-- An operand that may lack. -/
inductive OptRep (g : G) : Option Value → Option V → Prop
  | none : OptRep g none none
  | some (u : Value) (v : V) (h : Rep g u v) : OptRep g (some u) (some v)

theorem lowOf_spec {g : G} {u : Option Value} {v : Option V} {l : Int} (h : OptRep g u v) (hl : lowOf v = some l) : (u = none ∧ v = none ∧ l = 0) ∨ ∃ k, u = some (.int k l) := by
  cases h with
  | none => simp [lowOf] at hl; exact .inl ⟨rfl, rfl, hl.symm⟩
  | some u v hr =>
    cases v with
    | int k n => simp [lowOf] at hl; subst hl; exact .inr ⟨k, by rw [hr.inv_int]⟩
    | _ => simp [lowOf] at hl

theorem highOf_spec {g : G} {u : Option Value} {v : Option V} {n : Nat} {l : Int} (h : OptRep g u v) (hl : highOf n v = some l) : (u = none ∧ v = none ∧ l = n) ∨ ∃ k, u = some (.int k l) := by
  cases h with
  | none => simp [highOf] at hl; exact .inl ⟨rfl, rfl, hl.symm⟩
  | some u v hr =>
    cases v with
    | int k n => simp [highOf] at hl; subst hl; exact .inr ⟨k, by rw [hr.inv_int]⟩
    | _ => simp [highOf] at hl

theorem sliceBound_run {P : Program} {w : World} {k : IntKind} {i : Int} {y : Nat} {c : BoundsCode} (h0 : 0 ≤ i) (h1 : i ≤ y) : (Instr.sliceBound (.int k i) y c).run P w = .ok i.toNat w := by
  simp [Instr.sliceBound, asIntOf, h0, h1]

/-- The bounds, in the model: the greatest one is mm. -/
theorem sliceBounds_run {P : Program} {w : World} {g : G} {isSlice : Bool} {n cap : Nat} {ulo uhi umx : Option Value} {lo hi mx : Option V} {l r m : Int}
    (hlo : OptRep g ulo lo) (hhi : OptRep g uhi hi) (hmx : OptRep g umx mx) (el : lowOf lo = some l) (er : highOf n hi = some r) (em : highOf n mx = some m)
    (hm : ¬ (mx.isSome && hi.isNone) = true) (h0 : 0 ≤ l) (h1 : l ≤ r) (h2 : r ≤ m) (h3 : m ≤ n) (hn : n ≤ cap) :
    ∃ mm : Nat, (Instr.sliceBounds isSlice n cap ulo uhi umx).run P w = .ok (l.toNat, r.toNat, mm) w ∧ r.toNat ≤ mm ∧ mm ≤ cap := by
  rcases highOf_spec hmx em with ⟨rfl, rfl, rfl⟩ | ⟨km, rfl⟩
  · rcases highOf_spec hhi er with ⟨rfl, rfl, rfl⟩ | ⟨kh, rfl⟩
    · rcases lowOf_spec hlo el with ⟨rfl, rfl, rfl⟩ | ⟨kl, rfl⟩
      · exact ⟨cap, by simp [Instr.sliceBounds], by simpa using hn, Nat.le_refl _⟩
      · refine ⟨cap, ?_, by simpa using hn, Nat.le_refl _⟩
        simp [Instr.sliceBounds, sliceBound_run (P := P) (w := w) (k := kl) (i := l) (y := n) (c := .sliceB) h0 (by omega)]
    · have hr : r.toNat ≤ cap := by omega
      have e1 := sliceBound_run (P := P) (w := w) (k := kh) (i := r) (y := cap) (c := if isSlice then .sliceAcap else .sliceAlen) (by omega) (by omega)
      rcases lowOf_spec hlo el with ⟨rfl, rfl, rfl⟩ | ⟨kl, rfl⟩
      · exact ⟨cap, by simp [Instr.sliceBounds, e1], hr, Nat.le_refl _⟩
      · refine ⟨cap, ?_, hr, Nat.le_refl _⟩
        have e2 := sliceBound_run (P := P) (w := w) (k := kl) (i := l) (y := r.toNat) (c := .sliceB) h0 (by omega)
        simp [Instr.sliceBounds, e1, e2]
  · have e0 := sliceBound_run (P := P) (w := w) (k := km) (i := m) (y := cap) (c := if isSlice then .slice3Acap else .slice3Alen) (by omega) (by omega)
    rcases highOf_spec hhi er with ⟨rfl, rfl, rfl⟩ | ⟨kh, rfl⟩
    · cases hmx with
      | some _ _ _ => simp at hm
    · have e1 := sliceBound_run (P := P) (w := w) (k := kh) (i := r) (y := m.toNat) (c := .slice3B) (by omega) (by omega)
      rcases lowOf_spec hlo el with ⟨rfl, rfl, rfl⟩ | ⟨kl, rfl⟩
      · exact ⟨m.toNat, by simp [Instr.sliceBounds, e0, e1], by omega, by omega⟩
      · have e2 := sliceBound_run (P := P) (w := w) (k := kl) (i := l) (y := r.toNat) (c := .slice3C) h0 (by omega)
        exact ⟨m.toNat, by simp [Instr.sliceBounds, e0, e1, e2], by omega, by omega⟩

theorem extract_str (s : List UInt8) (a b : Nat) : (⟨s.toArray⟩ : ByteArray).extract a b = ⟨((s.drop a).take (b - a)).toArray⟩ := by
  apply ByteArray.ext
  simp [ByteArray.data_extract]

theorem sliceC_ok {P : Program} {base : Nat} {t : TypeId} {g : G} {h : Heap} {w : World} {x : V} {lo hi mx : Option V} {ux : Value} {ulo uhi umx : Option Value} {K : Kont} {r : Res}
    (hI : Inv g base h w) (hx : Rep g ux x) (hlo : OptRep g ulo lo) (hhi : OptRep g uhi hi) (hmx : OptRep g umx mx) (he : sliceC P t x lo hi mx h K = some r) : SemOk P base (Instr.sliceAt t ux ulo uhi umx) g w K r := by
  unfold sliceC at he
  cases hd : P.underlying t with
  | none => simp [hd] at he
  | some d =>
    simp only [hd] at he
    cases d with
    | string =>
      simp only at he
      cases x with
      | str s =>
        obtain rfl := hx.inv_str
        cases el : lowOf lo with
        | none => simp [el] at he
        | some l =>
          cases hmx with
          | some _ _ _ => simp [el] at he
          | none =>
            simp only [el] at he
            cases er : highOf s.length hi with
            | none => simp [er] at he
            | some rr =>
              simp only [er] at he
              obtain ⟨h0, he⟩ := cond_some he
              obtain ⟨h1, he⟩ := cond_some he
              obtain ⟨h2, he⟩ := cond_some he
              have h0 : 0 ≤ l := by simpa using h0
              have h1 : l ≤ rr := by simpa using h1
              have h2 : rr ≤ (s.length : Int) := by simpa using h2
              obtain ⟨mm, hb, _, _⟩ := sliceBounds_run (P := P) (w := w) (isSlice := false) (n := s.length) (cap := s.length) (m := s.length) hlo hhi (OptRep.none (g := g)) el er rfl (by simp) h0 h1 h2 (by omega) (Nat.le_refl _)
              refine .same (u := .string ((⟨s.toArray⟩ : ByteArray).extract l.toNat rr.toNat)) ?_ ?_ hI he
              · have hsz : (⟨s.toArray⟩ : ByteArray).size = s.length := by simp [ByteArray.size]
                simp [Instr.sliceAt, run_underlying hd, Instr.slice, hsz, hb]
              · rw [extract_str]; exact .data _ _ (.str _)
      | _ => simp at he
    | slice e =>
      simp only at he
      -- the bounds, once
      have key : ∀ (n : Nat) (made : Nat → Nat → V), sliceGo P e lo hi mx h K n made = some r → ∃ l k : Nat, l + k ≤ n ∧ K (made l k) h = some r ∧ (∀ (a : Option Addr) (cap : Nat), n ≤ cap → ∃ mm : Nat, l + k ≤ mm ∧ mm ≤ cap ∧
            (Instr.sliceAt t (.slice a n cap) ulo uhi umx).run P w = .ok (.slice (if mm = l then a else a.map (·.add (l * P.cellsOf e))) k (mm - l)) w) := by
        intro n made he
        unfold sliceGo at he
        cases el : lowOf lo with
        | none => simp [el] at he
        | some l =>
          cases er : highOf n hi with
          | none => simp [el, er] at he
          | some rr =>
            cases em : highOf n mx with
            | none => simp [el, er, em] at he
            | some m =>
              simp only [el, er, em] at he
              split at he
              · cases he
              rename_i hc
              simp only [Bool.or_eq_true, not_or] at hc
              obtain ⟨h0, he⟩ := cond_some he
              obtain ⟨h1, he⟩ := cond_some he
              obtain ⟨h2, he⟩ := cond_some he
              obtain ⟨h3, he⟩ := cond_some he
              have h0 : 0 ≤ l := by simpa using h0
              have h1 : l ≤ rr := by simpa using h1
              have h2 : rr ≤ m := by simpa using h2
              have h3 : m ≤ (n : Int) := by simpa using h3
              refine ⟨l.toNat, rr.toNat - l.toNat, by omega, he, fun a cap hn => ?_⟩
              obtain ⟨mm, hb, hm1, hm2⟩ := sliceBounds_run (P := P) (w := w) (isSlice := true) hlo hhi hmx el er em hc.1 h0 h1 h2 h3 hn
              refine ⟨mm, by omega, hm2, ?_⟩
              simp [Instr.sliceAt, run_underlying hd, Instr.slice, hb, info_cells (notNone hc.2)]
      cases x with
      | sl n cells =>
        obtain ⟨l, k, hlk, hK, hrun⟩ := key n _ he
        have hD := hx.inv_sl
        cases hD with
        | sl0 a cap =>
          obtain ⟨mm, h1, h2, hr⟩ := hrun a cap (Nat.zero_le _)
          have : k = 0 := by omega
          subst this
          simp only [List.drop_nil, List.take_nil] at hK
          exact .same hr (.data _ _ (.sl0 _ _)) hI hK
        | sl b o n cap cells hn hs hr' =>
          obtain ⟨mm, h1, h2, hr⟩ := hrun (some ⟨b, o, none⟩) cap hn
          by_cases hml : mm = l
          · have : k = 0 := by omega
            subst this
            simp only [Nat.zero_mul, List.take_zero] at hK
            exact .same hr (.data _ _ (.sl0 _ _)) hI hK
          · rw [if_neg hml] at hr
            simp only [Option.map_some, Addr.add_lit] at hr
            have hget : ∀ (j : Nat) (c : V), ((cells.drop (l * P.cellsOf e)).take (k * P.cellsOf e))[j]? = some c → cells[l * P.cellsOf e + j]? = some c := by
              intro j c hj
              rw [List.getElem?_take] at hj
              split at hj
              · rwa [List.getElem?_drop] at hj
              · cases hj
            refine .same hr (.data _ _ (.sl b (o + l * P.cellsOf e) k (mm - l) _ (by omega) (fun j c hj => ?_) (fun j c u hj hu => ?_))) hI hK
            · rw [Nat.add_assoc]; exact hs _ c (hget j c hj)
            · rw [Nat.add_assoc] at hu; exact hr' _ c u (hget j c hj) hu
      | own b n =>
        simp only at he
        split at he
        case isFalse => cases he
        rename_i hok
        unfold rowOk at hok
        cases hB : h[b]? with
        | none => simp [hB] at hok
        | some B =>
          simp only [hB, Bool.and_eq_true, decide_eq_true_eq, beq_iff_eq, Bool.not_eq_true'] at hok
          have hes : g.es b = P.cellsOf e := by rw [← ((hI.blk b B hB hok.1.2).row hok.2).2.1]; exact hok.1.1
          obtain ⟨l, k, hlk, hK, hrun⟩ := key n _ he
          obtain ⟨hb, hc, ⟨rfl, a, rfl⟩ | ⟨kk, cap, hl, rfl, hn, hz⟩⟩ := hx.inv_own
          · obtain ⟨mm, h1, h2, hr⟩ := hrun a 0 (Nat.le_refl _)
            obtain rfl : k = 0 := by omega
            obtain rfl : l = 0 := by omega
            obtain rfl : mm = 0 := by omega
            exact .same hr (.ref0 b _ _ hb (by simp)) hI hK
          · obtain ⟨mm, h1, h2, hr⟩ := hrun (some ⟨kk, 0, none⟩) cap hn
            have hmul : ∀ a b : Nat, a ≤ b → a * P.cellsOf e ≤ b * P.cellsOf e := fun a b hab => Nat.mul_le_mul_right _ hab
            by_cases hml : mm = l
            · obtain rfl : k = 0 := by omega
              rw [if_pos hml] at hr
              subst hml
              simp only [Nat.sub_self] at hr
              exact .same hr (.ref0 b _ _ hb (by rw [hes, hc]; exact hmul _ _ (by omega))) hI hK
            · rw [if_neg hml] at hr
              simp only [Option.map_some, Addr.add_lit, Nat.zero_add] at hr
              refine .same hr (.ref b kk _ k _ hb hl (by omega) ?_ ?_) hI hK
              · rw [hes, hc, ← Nat.add_mul]; exact hmul _ _ (by omega)
              · have hz' : cap * P.cellsOf e ≤ g.sz b := by rw [← hes]; exact hz
                rw [hes, ← Nat.add_mul]
                exact Nat.le_trans (hmul _ _ (by omega)) hz'
      | ref b off n =>
        simp only at he
        split at he
        case isFalse => cases he
        rename_i hok
        unfold rowOk at hok
        cases hB : h[b]? with
        | none => simp [hB] at hok
        | some B =>
          simp only [hB, Bool.and_eq_true, decide_eq_true_eq, beq_iff_eq, Bool.not_eq_true'] at hok
          have hes : g.es b = P.cellsOf e := by rw [← ((hI.blk b B hB hok.1.2).row hok.2).2.1]; exact hok.1.1
          obtain ⟨l, k, hlk, hK, hrun⟩ := key n _ he
          have hmul : ∀ a b : Nat, a ≤ b → a * P.cellsOf e ≤ b * P.cellsOf e := fun a b hab => Nat.mul_le_mul_right _ hab
          obtain ⟨hb, hc, ⟨rfl, a, rfl⟩ | ⟨kk, cap, hl, rfl, hn, hz⟩⟩ := hx.inv_ref
          · obtain ⟨mm, h1, h2, hr⟩ := hrun a 0 (Nat.le_refl _)
            obtain rfl : k = 0 := by omega
            obtain rfl : l = 0 := by omega
            obtain rfl : mm = 0 := by omega
            exact .same hr (.ref0 b _ _ hb (by simp at hc ⊢; exact hc)) hI hK
          · obtain ⟨mm, h1, h2, hr⟩ := hrun (some ⟨kk, off, none⟩) cap hn
            by_cases hml : mm = l
            · obtain rfl : k = 0 := by omega
              rw [if_pos hml] at hr
              subst hml
              simp only [Nat.sub_self] at hr
              refine .same hr (.ref0 b _ _ hb ?_) hI hK
              refine Nat.le_trans ?_ hc
              rw [hes]
              have := hmul mm n (by omega)
              omega
            · rw [if_neg hml] at hr
              simp only [Option.map_some, Addr.add_lit] at hr
              refine .same hr (.ref b kk _ k _ hb hl (by omega) ?_ ?_) hI hK
              · refine Nat.le_trans ?_ hc
                rw [hes, Nat.add_assoc, ← Nat.add_mul]
                have := hmul (l + k) n (by omega)
                omega
              · refine Nat.le_trans ?_ hz
                rw [hes, Nat.add_assoc, ← Nat.add_mul]
                have := hmul (l + (mm - l)) cap (by omega)
                omega
      | nils =>
        obtain ⟨l, k, hlk, hK, hrun⟩ := key 0 _ he
        obtain ⟨a, rfl⟩ := hx.inv_nils
        obtain ⟨mm, h1, h2, hr⟩ := hrun a 0 (Nat.le_refl _)
        obtain rfl : k = 0 := by omega
        obtain rfl : l = 0 := by omega
        obtain rfl : mm = 0 := by omega
        exact .same hr (.data _ _ (.nils _)) hI hK
      | _ => simp at he
    | _ => simp at he

theorem lenC_ok {P : Program} {base : Nat} {t : TypeId} {ts : Array TypeId} {ty : TypeId} {us : Array Value} {g : G} {h : Heap} {w : World} {x : V} {ux : Value} {K : Kont} {r : Res}
    (hI : Inv g base h w) (hx : Rep g ux x) (hts : ts[0]? = some t) (hus : us[0]? = some ux) (he : lenC P t x h K = some r) : SemOk P base (Builtin.len_ ts ty us) g w K r := by
  unfold lenC at he
  cases hd : P.underlying t with
  | none => simp [hd] at he
  | some d =>
    simp only [hd] at he
    have arr : ∀ n e, d = .array n e → SemOk P base (Builtin.len_ ts ty us) g w K r := by
      intro n e hde
      subst hde
      simp only at he
      exact .same (u := .int .i64 n) (by simp [Builtin.len_, hts, hus, run_underlying hd, goInt]) (.data _ _ (.int _ _)) hI he
    cases d with
    | array n e => exact arr n e rfl
    | string =>
      cases x with
      | str s =>
        obtain rfl := hx.inv_str
        have hsz : (⟨s.toArray⟩ : ByteArray).size = s.length := by simp [ByteArray.size]
        exact .same (u := .int .i64 s.length) (by unfold Builtin.len_; simp only [hts, hus, Sem.run_bind, run_underlying hd, Result.andThen_ok, Sem.run_pure, hsz, goInt]) (.data _ _ (.int _ _)) hI he
      | _ => simp at he
    | slice e =>
      have sl : ∀ (a : Option Addr) (n cap : Nat), ux = .slice a n cap → K (.int .i64 n) h = some r → SemOk P base (Builtin.len_ ts ty us) g w K r := by
        intro a n cap hu hK
        subst hu
        exact .same (u := .int .i64 n) (by simp [Builtin.len_, hts, hus, run_underlying hd, goInt]) (.data _ _ (.int _ _)) hI hK
      cases x with
      | sl n cells =>
        have hD := hx.inv_sl
        cases hD with
        | sl0 a cap => exact sl _ _ _ rfl he
        | sl b o n cap cells hn hs hr => exact sl _ _ _ rfl he
      | own b n =>
        obtain ⟨_, _, ⟨rfl, a, rfl⟩ | ⟨kk, cap, hl, rfl, hn, hz⟩⟩ := hx.inv_own
        · exact sl _ _ _ rfl he
        · exact sl _ _ _ rfl he
      | ref b off n =>
        obtain ⟨_, _, ⟨rfl, a, rfl⟩ | ⟨kk, cap, hl, rfl, hn, hz⟩⟩ := hx.inv_ref
        · exact sl _ _ _ rfl he
        · exact sl _ _ _ rfl he
      | nils =>
        obtain ⟨a, rfl⟩ := hx.inv_nils
        exact sl _ _ _ rfl he
      | _ => simp at he
    | _ => simp at he

end Go.Pv

/- Operations: equality, arithmetic, conversions. -/
namespace Go.Pv
open Go Go.RowKit

theorem partV_ok {P : Program} {g : G} {w : World} {t : TypeId} {cs : List V} {cs' : Array Value} {off : Nat} {v : V} (hl : cs'.size = cs.length)
    (hr : ∀ (j : Nat) (x : V) (u : Value), cs[j]? = some x → cs'[j]? = some u → Rep g u x) (h : partV P t cs off = some v) :
    ∃ u, (part t cs' off).run P w = .ok u w ∧ Rep g u v := by
  unfold partV at h
  cases hd : P.underlying t with
  | none => simp [hd] at h
  | some d =>
    simp only [hd] at h
    cases ha : isAggT P t with
    | true =>
      simp only [ha, if_true] at h
      split at h
      case isFalse => cases h
      rename_i hfit
      obtain rfl := Option.some.inj h
      refine ⟨.agg (cs'.extract off (off + P.cellsOf t)), by simp [part, isAgg_run hd, ha, sizeOf_run hd], ?_⟩
      refine .agg _ _ (by simp [readP_length]; omega) (fun j x u hj hu => ?_)
      obtain ⟨hj1, rfl⟩ := readP_get _ _ _ _ _ hj
      rw [Array.getElem?_extract] at hu
      split at hu
      · exact hr _ _ u (getD_of_lt (by omega)) hu
      · cases hu
    | false =>
      simp only [ha, Bool.false_eq_true, if_false] at h
      split at h
      case isFalse => cases h
      rename_i hfit
      obtain rfl := Option.some.inj h
      have hlt : off < cs'.size := by omega
      exact ⟨cs'[off], by simp [part, isAgg_run hd, ha, hlt], hr _ _ _ (getD_of_lt hfit) (by simp [hlt])⟩

theorem eq2_some {f : V → V → Option Bool} {x y : Option V} {r : Bool} (h : eq2 f x y = some r) : ∃ a b, x = some a ∧ y = some b ∧ f a b = some r := by
  cases x with
  | none => simp [eq2] at h
  | some a =>
    cases y with
    | none => simp [eq2] at h
    | some b => exact ⟨a, b, rfl, rfl, h⟩

theorem andO_some {x y : Option Bool} {r : Bool} (h : andO x y = some r) : ∃ a b, x = some a ∧ y = some b ∧ r = (a && b) := by
  cases x with
  | none => simp [andO] at h
  | some a =>
    cases y with
    | none => simp [andO] at h
    | some b => exact ⟨a, b, rfl, rfl, by simpa [andO] using h.symm⟩

theorem toList_bytes (l : List UInt8) : (⟨l.toArray⟩ : ByteArray).toList = l := by rw [ByteArray.toList_eq]

theorem eqV_ok {P : Program} {eqs : List TypeId} (hq : ∀ t, t ∈ eqs → P.stoodInHeld t = false ∧ P.eqGuardType P.depth t = false) {g : G} {w : World} :
    ∀ (d D : Nat), d ≤ D → ∀ (t : TypeId) (x y : V) (ux uy : Value) (r : Bool), Rep g ux x → Rep g uy y → eqV P eqs d t x y = some r → (Op.equalIn D t ux uy).run P w = .ok r w
  | 0, _, _, _, _, _, _, _, _, _, _, h => by simp [eqV] at h
  | d + 1, D, hD, t, x, y, ux, uy, r, hx, hy, h => by
    obtain ⟨D, rfl⟩ : ∃ D', D = D' + 1 := ⟨D - 1, by omega⟩
    have ih := eqV_ok hq (g := g) (w := w) d D (by omega)
    unfold eqV at h
    cases hd : P.underlying t with
    | none => simp [hd] at h
    | some dsc =>
      simp only [hd] at h
      cases dsc with
      | bool =>
        cases x <;> (try simp only at h) <;> try (cases h; done)
        cases y <;> (try simp only at h) <;> try (cases h; done)
        obtain rfl := Option.some.inj h
        obtain rfl := hx.inv_bool
        obtain rfl := hy.inv_bool
        exact run_equalIn_bool w D t _ _ hd
      | int k =>
        cases x <;> (try simp only at h) <;> try (cases h; done)
        cases y <;> (try simp only at h) <;> try (cases h; done)
        split at h
        case isFalse => cases h
        rename_i hk
        obtain rfl := isK_eq hk
        obtain rfl := Option.some.inj h
        obtain rfl := hx.inv_int
        obtain rfl := hy.inv_int
        exact run_equalIn_int w D t _ _ _ _ hd
      | string =>
        cases x <;> (try simp only at h) <;> try (cases h; done)
        cases y <;> (try simp only at h) <;> try (cases h; done)
        obtain rfl := Option.some.inj h
        obtain rfl := hx.inv_str
        obtain rfl := hy.inv_str
        rw [run_equalIn_string w D t _ _ hd, toList_bytes, toList_bytes]
      | struct fs =>
        simp only at h
        split at h
        case isFalse => cases h
        rename_i ht
        have hq' := hq t (by simpa using ht)
        cases x <;> (try simp only at h) <;> try (cases h; done)
        cases y <;> (try simp only at h) <;> try (cases h; done)
        obtain ⟨xs', rfl, hlx, hrx⟩ := hx.inv_agg
        obtain ⟨ys', rfl, hly, hry⟩ := hy.inv_agg
        have hfo : P.underlying t = some (.struct (P.fieldsOf t)) := by rw [Program.fieldsOf, hd]
        have hfe : P.fieldsOf t = fs := by rw [Program.fieldsOf, hd]
        rw [run_equalIn_struct w D t xs' ys' hfo hq'.1, hfe]
        generalize fs.toList = l at h
        induction l generalizing r with
        | nil => simp at h; subst h; simp [Op.eqFields]
        | cons f l ihl =>
          simp only [List.foldr_cons] at h
          by_cases hn : f.name = "_"
          · rw [if_pos hn] at h
            simp only [Op.eqFields, hn, ne_eq, not_true_eq_false, if_false]
            exact ihl _ h
          · rw [if_neg hn] at h
            obtain ⟨a, b, ha, hb, rfl⟩ := andO_some h
            obtain ⟨va, vb, hva, hvb, hab⟩ := eq2_some ha
            obtain ⟨u1, r1, p1⟩ := partV_ok (P := P) (w := w) hlx hrx hva
            obtain ⟨u2, r2, p2⟩ := partV_ok (P := P) (w := w) hly hry hvb
            have he := ih _ _ _ _ _ _ p1 p2 hab
            simp only [Op.eqFields, ne_eq, hn, not_false_eq_true, if_true, Sem.run_bind, r1, r2, he, Result.andThen_ok, Sem.run_ite]
            cases a with
            | false => simp
            | true => simpa using ihl _ hb
      | array n e =>
        simp only at h
        split at h
        case isFalse => cases h
        rename_i ht
        cases x <;> (try simp only at h) <;> try (cases h; done)
        cases y <;> (try simp only at h) <;> try (cases h; done)
        obtain ⟨xs', rfl, hlx, hrx⟩ := hx.inv_agg
        obtain ⟨ys', rfl, hly, hry⟩ := hy.inv_agg
        obtain ⟨i, hi⟩ := Option.isSome_iff_exists.1 ht.2
        rw [run_equalIn_array w D xs' ys' hd hi]
        generalize List.range n = l at h
        induction l generalizing r with
        | nil => simp at h; subst h; simp [Op.eqItems]
        | cons j l ihl =>
          simp only [List.foldr_cons] at h
          obtain ⟨a, b, ha, hb, rfl⟩ := andO_some h
          obtain ⟨va, vb, hva, hvb, hab⟩ := eq2_some ha
          obtain ⟨u1, r1, p1⟩ := partV_ok (P := P) (w := w) hlx hrx hva
          obtain ⟨u2, r2, p2⟩ := partV_ok (P := P) (w := w) hly hry hvb
          have he := ih _ _ _ _ _ _ p1 p2 hab
          simp only [Op.eqItems, Sem.run_bind, r1, r2, he, Result.andThen_ok, Sem.run_ite]
          cases a with
          | false => simp
          | true => simpa using ihl _ hb
      | pointer e =>
        cases x <;> (try simp only at h) <;> try (cases h; done)
        · cases y <;> (try simp only at h) <;> try (cases h; done)
          · obtain rfl := Option.some.inj h
            obtain rfl := hx.inv_nilp
            obtain rfl := hy.inv_nilp
            simp [Op.equalIn, run_underlying hd]
          · obtain rfl := Option.some.inj h
            obtain rfl := hx.inv_nilp
            obtain ⟨k, _, _, rfl⟩ := hy.inv_ptr
            simp [Op.equalIn, run_underlying hd]
          · obtain rfl := Option.some.inj h
            obtain rfl := hx.inv_nilp
            cases hy.inv_rop
            simp [Op.equalIn, run_underlying hd]
        · cases y <;> (try simp only at h) <;> try (cases h; done)
          obtain rfl := Option.some.inj h
          obtain rfl := hy.inv_nilp
          obtain ⟨k, _, _, rfl⟩ := hx.inv_ptr
          simp [Op.equalIn, run_underlying hd]
        · cases y <;> (try simp only at h) <;> try (cases h; done)
          obtain rfl := Option.some.inj h
          obtain rfl := hy.inv_nilp
          cases hx.inv_rop
          simp [Op.equalIn, run_underlying hd]
      | func a b c =>
        cases x <;> (try simp only at h) <;> try (cases h; done)
        · cases y <;> (try simp only at h) <;> try (cases h; done)
          obtain rfl := Option.some.inj h
          obtain rfl := hy.inv_nilf
          obtain ⟨a', c', rfl, _⟩ := hx.inv_fn
          simp [Op.equalIn, run_underlying hd]
        · cases y <;> (try simp only at h) <;> try (cases h; done)
          · obtain rfl := Option.some.inj h
            obtain rfl := hx.inv_nilf
            obtain ⟨a', c', rfl, _⟩ := hy.inv_fn
            simp [Op.equalIn, run_underlying hd]
          · obtain rfl := Option.some.inj h
            obtain rfl := hx.inv_nilf
            obtain rfl := hy.inv_nilf
            simp [Op.equalIn, run_underlying hd]
      | _ => simp at h

theorem unC_ok {P : Program} {base : Nat} {op : UnOp} {g : G} {h : Heap} {w : World} {x : V} {ux : Value} {K : Kont} {r : Res}
    (hI : Inv g base h w) (hx : Rep g ux x) (he : unC op x h K = some r) : SemOk P base (Op.unary op ux) g w K r := by
  unfold unC at he
  split at he
  · obtain rfl := hx.inv_int
    exact .same (by simp only [Op.unary, Op.intArith, Sem.run_pure]) (.data _ _ (.int _ _)) hI he
  · obtain rfl := hx.inv_bool
    exact .same (by simp only [Op.unary, Sem.run_pure]) (.data _ _ (.bool _)) hI he
  · cases he

theorem convC_ok {P : Program} {base : Nat} {s d : TypeId} {g : G} {h : Heap} {w : World} {x : V} {ux : Value} {K : Kont} {r : Res}
    (hI : Inv g base h w) (hx : Rep g ux x) (he : convC P s d x h K = some r) : SemOk P base (convert s d ux) g w K r := by
  unfold convC at he
  split at he
  · rename_i h1 h2
    obtain rfl := hx.inv_int
    exact .same (by simp only [convert, run_underlying h1, run_underlying h2, Conv.intToInt, Sem.run_bind, Result.andThen_ok, Sem.run_pure]) (.data _ _ (.int _ _)) hI he
  · rename_i h1 h2
    obtain rfl := hx.inv_str
    exact .same (by simp only [convert, run_underlying h1, run_underlying h2, Sem.run_bind, Result.andThen_ok, Sem.run_pure]) (.data _ _ (.str _)) hI he
  · cases he

theorem foldV_ok {g : G} (f : Int → Int → Int) (F : Value → Value → Sem Value) {P : Program} {w : World} (k : IntKind) (hF : ∀ x y, (F (.int k x) (.int k y)).run P w = .ok (.int k (f x y)) w) :
    ∀ (vs : List V) (us : List Value) (x : Int) (v : V), CellsRep g us vs → foldV f k x vs = some v → ∃ u, (us.foldlM F (.int k x)).run P w = .ok u w ∧ Rep g u v
  | [], us, x, v, hc, h => by
    obtain rfl : us = [] := List.eq_nil_of_length_eq_zero hc.1
    simp only [foldV, Option.some.injEq] at h
    subst h
    exact ⟨_, by simp, .data _ _ (.int _ _)⟩
  | y :: vs, us, x, v, hc, h => by
    match us, hc with
    | [], hc => exact absurd hc.1 (by simp)
    | u :: us, hc =>
      cases y <;> simp only [foldV] at h <;> try (cases h; done)
      split at h
      case isFalse => cases h
      rename_i hk
      obtain rfl := isK_eq hk
      have hu := hc.head.inv_int
      subst hu
      obtain ⟨u', hr, hrep⟩ := foldV_ok f F k hF vs us _ v hc.tail h
      exact ⟨u', by simp [hF, hr], hrep⟩

theorem maxV_ok {P : Program} {base : Nat} {ts : Array TypeId} {ty : TypeId} {us : Array Value} {g : G} {h : Heap} {w : World} {vs : List V} {v : V} {K : Kont} {r : Res}
    (hI : Inv g base h w) (hc : CellsRep g us.toList vs) (hv : maxV vs = some v) (he : K v h = some r) : SemOk P base (Builtin.max_ ts ty us) g w K r := by
  cases vs with
  | nil => simp [maxV] at hv
  | cons y vs =>
    cases hu : us.toList with
    | nil => rw [hu] at hc; exact absurd hc.1 (by simp)
    | cons u us' =>
      rw [hu] at hc
      cases y <;> simp only [maxV] at hv <;> try (cases hv; done)
      have hh := hc.head.inv_int
      subst hh
      obtain ⟨u', hr, hrep⟩ := foldV_ok (P := P) (w := w) _ Builtin.max2 _ (fun x y => by simp [Builtin.max2]) vs us' _ v hc.tail hv
      exact .same (by simp only [Builtin.max_, hu]; exact hr) hrep hI he

theorem minV_ok {P : Program} {base : Nat} {ts : Array TypeId} {ty : TypeId} {us : Array Value} {g : G} {h : Heap} {w : World} {vs : List V} {v : V} {K : Kont} {r : Res}
    (hI : Inv g base h w) (hc : CellsRep g us.toList vs) (hv : minV vs = some v) (he : K v h = some r) : SemOk P base (Builtin.min_ ts ty us) g w K r := by
  cases vs with
  | nil => simp [minV] at hv
  | cons y vs =>
    cases hu : us.toList with
    | nil => rw [hu] at hc; exact absurd hc.1 (by simp)
    | cons u us' =>
      rw [hu] at hc
      cases y <;> simp only [minV] at hv <;> try (cases hv; done)
      have hh := hc.head.inv_int
      subst hh
      obtain ⟨u', hr, hrep⟩ := foldV_ok (P := P) (w := w) _ Builtin.min2 _ (fun x y => by simp [Builtin.min2]) vs us' _ v hc.tail hv
      exact .same (by simp only [Builtin.min_, hu]; exact hr) hrep hI he

end Go.Pv

/- Operations: binary ones. -/
namespace Go.Pv
open Go Go.RowKit

theorem eqGuard_other {P : Program} {w : World} {op : BinOp} {t : TypeId} {ox oy : Operand} {a b : Value} (h : (op = .eql ∨ op = .neq) → (∀ cs cs', ¬ (a = .agg cs ∧ b = .agg cs')) ∧ ¬ (a = .nilIface ∧ b = .nilIface)) :
    (eqGuard op t ox oy a b).run P w = .ok () w := by
  cases op with
  | eql =>
    have := h (.inl rfl)
    cases a <;> cases b <;> first | rfl | exact absurd ⟨rfl, rfl⟩ this.2 | exact absurd ⟨rfl, rfl⟩ (this.1 _ _)
  | neq =>
    have := h (.inr rfl)
    cases a <;> cases b <;> first | rfl | exact absurd ⟨rfl, rfl⟩ this.2 | exact absurd ⟨rfl, rfl⟩ (this.1 _ _)
  | _ => rfl

theorem binOp_int {P : Program} {w : World} {op : BinOp} {t : TypeId} {ox oy : Operand} {k : IntKind} {a b : Int} {u : Value}
    (h : (binOp op t (.int k a) (.int k b)).run P w = .ok u w) : (do eqGuard op t ox oy (.int k a) (.int k b); binOp op t (.int k a) (.int k b)).run P w = .ok u w := by
  simp only [Sem.run_bind, eqGuard_other (P := P) (w := w) (op := op) (t := t) (ox := ox) (oy := oy) (a := .int k a) (b := .int k b) (fun _ => ⟨fun _ _ h => (by cases h.1), fun h => (by cases h.1)⟩), Result.andThen_ok, h]

theorem binOp_int2 {P : Program} {w : World} {op : BinOp} {t : TypeId} {ox oy : Operand} {k k' : IntKind} {a b : Int} {u : Value}
    (h : (binOp op t (.int k a) (.int k' b)).run P w = .ok u w) : (do eqGuard op t ox oy (.int k a) (.int k' b); binOp op t (.int k a) (.int k' b)).run P w = .ok u w := by
  simp only [Sem.run_bind, eqGuard_other (P := P) (w := w) (op := op) (t := t) (ox := ox) (oy := oy) (a := .int k a) (b := .int k' b) (fun _ => ⟨fun _ _ h => (by cases h.1), fun h => (by cases h.1)⟩), Result.andThen_ok, h]

theorem binOp_str {P : Program} {w : World} {op : BinOp} {t : TypeId} {ox oy : Operand} {a b : ByteArray} {u : Value}
    (h : (binOp op t (.string a) (.string b)).run P w = .ok u w) : (do eqGuard op t ox oy (.string a) (.string b); binOp op t (.string a) (.string b)).run P w = .ok u w := by
  simp only [Sem.run_bind, eqGuard_other (P := P) (w := w) (op := op) (t := t) (ox := ox) (oy := oy) (a := .string a) (b := .string b) (fun _ => ⟨fun _ _ h => (by cases h.1), fun h => (by cases h.1)⟩), Result.andThen_ok, h]

theorem cond_some' {c : Bool} {x : Option Res} {r : Res} (h : cond c none x = some r) : c = false ∧ x = some r := by cases c <;> simp at h; exact ⟨rfl, h⟩

/-- Integers alone. -/
theorem binI {P : Program} {base : Nat} {op : BinOp} {t : TypeId} {ox oy : Operand} {xc yc : Bool} {eqs : List TypeId} {g : G} {h : Heap} {w : World} {k k' : IntKind} {a b : Int} {K : Kont} {r : Res}
    (hI : Inv g base h w) (he : binC P eqs op t xc yc (.int k a) (.int k' b) h K = some r) :
    SemOk P base (do eqGuard op t ox oy (.int k a) (.int k' b); binOp op t (.int k a) (.int k' b)) g w K r := by
  cases op <;> simp only [binC] at he
  case shl =>
    obtain ⟨h0, he⟩ := cond_some' he
    have h0 : ¬ b < 0 := by simpa using h0
    exact .same (binOp_int2 (by simp only [binOp, Op.shift, if_neg h0, Sem.run_pure])) (.data _ _ (.int _ _)) hI he
  case shr =>
    obtain ⟨h0, he⟩ := cond_some' he
    have h0 : ¬ b < 0 := by simpa using h0
    exact .same (binOp_int2 (by simp only [binOp, Op.shift, if_neg h0, Sem.run_pure])) (.data _ _ (.int _ _)) hI he
  case andNot => split at he <;> simp [cmpI] at he
  all_goals
    split at he
    case isFalse => cases he
    rename_i hk
    obtain rfl := isK_eq hk
  case quo =>
    obtain ⟨h0, he⟩ := cond_some' he
    have h0 : ¬ b = 0 := by simpa using h0
    exact .same (binOp_int (by simp only [binOp, ne_eq, not_true_eq_false, if_false, Op.intDiv, if_neg h0, Sem.run_pure])) (.data _ _ (.int _ _)) hI he
  case rem =>
    obtain ⟨h0, he⟩ := cond_some' he
    have h0 : ¬ b = 0 := by simpa using h0
    exact .same (binOp_int (by simp only [binOp, ne_eq, not_true_eq_false, if_false, Op.intDiv, if_neg h0, Sem.run_pure])) (.data _ _ (.int _ _)) hI he
  case add => exact .same (binOp_int (by simp only [binOp, ne_eq, not_true_eq_false, if_false, Op.intArith, Sem.run_pure])) (.data _ _ (.int _ _)) hI he
  case sub => exact .same (binOp_int (by simp only [binOp, ne_eq, not_true_eq_false, if_false, Op.intArith, Sem.run_pure])) (.data _ _ (.int _ _)) hI he
  case mul => exact .same (binOp_int (by simp only [binOp, ne_eq, not_true_eq_false, if_false, Op.intArith, Sem.run_pure])) (.data _ _ (.int _ _)) hI he
  case and => exact .same (binOp_int (by simp only [binOp, ne_eq, not_true_eq_false, if_false, Op.intBits, Sem.run_pure])) (.data _ _ (.int _ _)) hI he
  case or => exact .same (binOp_int (by simp only [binOp, ne_eq, not_true_eq_false, if_false, Op.intBits, Sem.run_pure])) (.data _ _ (.int _ _)) hI he
  case xor => exact .same (binOp_int (by simp only [binOp, ne_eq, not_true_eq_false, if_false, Op.intBits, Sem.run_pure])) (.data _ _ (.int _ _)) hI he
  all_goals
    simp only [cmpI] at he
    exact .same (binOp_int (by simp only [binOp, ne_eq, not_true_eq_false, if_false, Op.intCmp, Sem.run_pure])) (.data _ _ (.bool _)) hI he

theorem str_size (l : List UInt8) : (⟨l.toArray⟩ : ByteArray).size = l.length := by simp [ByteArray.size]

theorem str_append (a b : List UInt8) : (⟨a.toArray⟩ : ByteArray) ++ ⟨b.toArray⟩ = ⟨(a ++ b).toArray⟩ := by
  apply ByteArray.ext
  simp [ByteArray.data_append]

theorem binS {P : Program} {base : Nat} {op : BinOp} {t : TypeId} {ox oy : Operand} {xc yc : Bool} {eqs : List TypeId} {g : G} {h : Heap} {w : World} {a b : List UInt8} {K : Kont} {r : Res}
    (hI : Inv g base h w) (he : binC P eqs op t xc yc (.str a) (.str b) h K = some r) :
    SemOk P base (do eqGuard op t ox oy (.string ⟨a.toArray⟩) (.string ⟨b.toArray⟩); binOp op t (.string ⟨a.toArray⟩) (.string ⟨b.toArray⟩)) g w K r := by
  cases op <;> simp only [binC] at he <;> try (cases he; done)
  case add =>
    obtain ⟨h0, he⟩ := cond_some he
    have h0 : a.length + b.length ≤ 2 ^ 62 := by simpa using h0
    refine .same (u := .string ⟨(a ++ b).toArray⟩) (binOp_str ?_) (.data _ _ (.str _)) hI he
    have hmax : ¬ (((a.length + b.length : Nat) : Int) > IntKind.i64.max) := by simp [IntKind.max, IntKind.signed, IntKind.bits]; omega
    simp only [binOp, Op.stringOp, str_size, if_neg hmax, Sem.run_pure, str_append]
  case eql => exact .same (binOp_str (by simp only [binOp, Op.stringOp, toList_bytes, Sem.run_pure])) (.data _ _ (.bool _)) hI he
  case neq => exact .same (binOp_str (by simp only [binOp, Op.stringOp, toList_bytes, Sem.run_pure])) (.data _ _ (.bool _)) hI he
  case lss => exact .same (binOp_str (by simp only [binOp, Op.stringOp, toList_bytes, Sem.run_pure])) (.data _ _ (.bool _)) hI he

theorem eqV_eqs {P : Program} {eqs : List TypeId} {d : Nat} {t : TypeId} {xs ys : List V} {b : Bool} (h : eqV P eqs d t (.agg xs) (.agg ys) = some b) : t ∈ eqs := by
  cases d with
  | zero => simp [eqV] at h
  | succ d =>
    unfold eqV at h
    cases hd : P.underlying t with
    | none => simp [hd] at h
    | some dsc =>
      simp only [hd] at h
      cases dsc <;> simp only at h <;> try (cases h; done)
      · split at h
        · rename_i ht; simpa using ht.1
        · cases h
      · split at h
        · rename_i ht; simpa using ht
        · cases h

theorem eqV_noIface {P : Program} {eqs : List TypeId} {d : Nat} {t : TypeId} {y : V} {b : Bool} (h : eqV P eqs d t .nili y = some b) : False := by
  cases d with
  | zero => simp [eqV] at h
  | succ d =>
    unfold eqV at h
    cases hd : P.underlying t with
    | none => simp [hd] at h
    | some dsc =>
      simp only [hd] at h
      cases dsc <;> simp at h

/-- The shapes of what is compared. -/
inductive EqShape : Value → Value → Prop
  | bool (a b : Bool) : EqShape (.bool a) (.bool b)
  | agg (a b : Array Value) : EqShape (.agg a) (.agg b)
  | ptr (a b : Option Addr) : EqShape (.pointer a) (.pointer b)
  | ff (f f' : Fn) (a c a' c' : Array Value) : EqShape (.func f a c) (.func f' a' c')
  | fn (f : Fn) (a c : Array Value) : EqShape (.func f a c) .nilFunc
  | nf (f : Fn) (a c : Array Value) : EqShape .nilFunc (.func f a c)
  | nn : EqShape .nilFunc .nilFunc

theorem eqV_shape {P : Program} {eqs : List TypeId} {g : G} {d : Nat} {t : TypeId} {x y : V} {ux uy : Value} {b : Bool} (hx : Rep g ux x) (hy : Rep g uy y) (h : eqV P eqs d t x y = some b)
    (hni : ∀ k a, x ≠ .int k a) (hns : ∀ s, x ≠ .str s) : EqShape ux uy := by
  cases d with
  | zero => simp [eqV] at h
  | succ d =>
    unfold eqV at h
    cases hd : P.underlying t with
    | none => simp [hd] at h
    | some dsc =>
      simp only [hd] at h
      cases dsc with
      | bool =>
        cases x <;> (try simp only at h) <;> try (cases h; done)
        cases y <;> (try simp only at h) <;> try (cases h; done)
        rw [hx.inv_bool, hy.inv_bool]; exact .bool _ _
      | int k =>
        cases x <;> (try simp only at h) <;> try (cases h; done)
        exact absurd rfl (hni _ _)
      | string =>
        cases x <;> (try simp only at h) <;> try (cases h; done)
        exact absurd rfl (hns _)
      | struct fs =>
        simp only at h
        split at h
        case isFalse => cases h
        cases x <;> (try simp only at h) <;> try (cases h; done)
        cases y <;> (try simp only at h) <;> try (cases h; done)
        obtain ⟨_, rfl, _⟩ := hx.inv_agg
        obtain ⟨_, rfl, _⟩ := hy.inv_agg
        exact .agg _ _
      | array n e =>
        simp only at h
        split at h
        case isFalse => cases h
        cases x <;> (try simp only at h) <;> try (cases h; done)
        cases y <;> (try simp only at h) <;> try (cases h; done)
        obtain ⟨_, rfl, _⟩ := hx.inv_agg
        obtain ⟨_, rfl, _⟩ := hy.inv_agg
        exact .agg _ _
      | pointer e =>
        cases x <;> (try simp only at h) <;> try (cases h; done)
        · obtain rfl := hx.inv_nilp
          cases y <;> (try simp only at h) <;> try (cases h; done)
          · obtain rfl := hy.inv_nilp; exact .ptr _ _
          · obtain ⟨_, _, _, rfl⟩ := hy.inv_ptr; exact .ptr _ _
          · cases hy.inv_rop; exact .ptr _ _
        · obtain ⟨_, _, _, rfl⟩ := hx.inv_ptr
          cases y <;> (try simp only at h) <;> try (cases h; done)
          obtain rfl := hy.inv_nilp; exact .ptr _ _
        · cases hx.inv_rop
          cases y <;> (try simp only at h) <;> try (cases h; done)
          obtain rfl := hy.inv_nilp; exact .ptr _ _
      | func a b c =>
        cases x <;> (try simp only at h) <;> try (cases h; done)
        · obtain ⟨_, _, rfl, _⟩ := hx.inv_fn
          cases y <;> (try simp only at h) <;> try (cases h; done)
          obtain rfl := hy.inv_nilf; exact .fn _ _ _
        · obtain rfl := hx.inv_nilf
          cases y <;> (try simp only at h) <;> try (cases h; done)
          · obtain ⟨_, _, rfl, _⟩ := hy.inv_fn; exact .nf _ _ _
          · obtain rfl := hy.inv_nilf; exact .nn
      | _ => simp at h

/-- Equality, beyond integers and strings. -/
theorem binE {P : Program} {base : Nat} {op : BinOp} {t : TypeId} {ox oy : Operand} {eqs : List TypeId} (hq : ∀ t, t ∈ eqs → P.stoodInHeld t = false ∧ P.eqGuardType P.depth t = false)
    {g : G} {h : Heap} {w : World} {x y : V} {ux uy : Value} {b : Bool} {K : Kont} {r : Res} (hI : Inv g base h w) (hx : Rep g ux x) (hy : Rep g uy y) (hb : eqV P eqs 20 t x y = some b)
    (hni : ∀ k a, x ≠ .int k a) (hns : ∀ s, x ≠ .str s) (hop : op = .eql ∨ op = .neq) (he : K (.bool (if op = .eql then b else !b)) h = some r) :
    SemOk P base (do eqGuard op t ox oy ux uy; binOp op t ux uy) g w K r := by
  have hrun : (Op.equal t ux uy).run P w = .ok b w := eqV_ok hq 20 10000 (by omega) t x y ux uy b hx hy hb
  have hsh := eqV_shape hx hy hb hni hns
  have hgd : (eqGuard op t ox oy ux uy).run P w = .ok () w := by
    by_cases hagg : ∃ cs cs', ux = .agg cs ∧ uy = .agg cs'
    · obtain ⟨cs, cs', rfl, rfl⟩ := hagg
      have ht : t ∈ eqs := by
        cases x with
        | agg xs =>
          cases y with
          | agg ys => exact eqV_eqs hb
          | undef =>
            exfalso
            unfold eqV at hb
            cases hd : P.underlying t with
            | none => simp [hd] at hb
            | some dsc => simp only [hd] at hb; cases dsc <;> simp at hb
          | _ => exfalso; cases hy with | data _ _ h => cases h
        | undef =>
          exfalso
          unfold eqV at hb
          cases hd : P.underlying t with
          | none => simp [hd] at hb
          | some dsc => simp only [hd] at hb; cases dsc <;> simp at hb
        | _ => exfalso; cases hx with | data _ _ h => cases h
      exact run_eqGuard_agg w op t ox oy cs cs' (hq t ht).2
    · refine eqGuard_other (fun _ => ⟨fun cs cs' h => hagg ⟨cs, cs', h⟩, fun h => ?_⟩)
      obtain ⟨rfl, rfl⟩ := h
      cases hsh
  have hbin : (binOp op t ux uy).run P w = .ok (.bool (if op = .eql then b else !b)) w := by
    rcases hop with rfl | rfl
    · cases hsh <;> simp only [binOp, Sem.run_bind, hrun, Result.andThen_ok, Sem.run_pure, if_true]
    · cases hsh <;> simp only [binOp, Sem.run_bind, hrun, Result.andThen_ok, Sem.run_pure, reduceCtorEq, if_false]
  exact .same (by simp only [Sem.run_bind, hgd, Result.andThen_ok, hbin]) (.data _ _ (.bool _)) hI he

/-- Interfaces against nil. -/
theorem isNilIf_rep {g : G} {u : Value} {v : V} {b : Bool} (h : Rep g u v) (hb : isNilIf v = some b) : (b = true ∧ u = .nilIface) ∨ (b = false ∧ ∃ t x, u = .iface t x) := by
  cases v <;> simp [isNilIf] at hb
  · subst hb; exact .inl ⟨rfl, h.inv_nili⟩
  · subst hb; obtain ⟨x, rfl, _⟩ := h.inv_iface; exact .inr ⟨rfl, _, _, rfl⟩

theorem binN {P : Program} {base : Nat} {op : BinOp} {t : TypeId} {ms : Array (String × TypeId)} {ox oy : Operand} (hd : P.underlying t = some (.interface ms)) (hc : (isConstO ox || isConstO oy) = true)
    {g : G} {h : Heap} {w : World} {x y : V} {ux uy : Value} {a b : Bool} {K : Kont} {r : Res} (hI : Inv g base h w) (hx : Rep g ux x) (hy : Rep g uy y) (ha : isNilIf x = some a) (hb : isNilIf y = some b) (hab : a = true ∨ b = true)
    (hop : op = .eql ∨ op = .neq) (he : K (.bool (if op = .eql then a && b else !(a && b))) h = some r) :
    SemOk P base (do eqGuard op t ox oy ux uy; binOp op t ux uy) g w K r := by
  have hgd : (eqGuard op t ox oy ux uy).run P w = .ok () w := by
    have hc' : (match ox with | .const _ => true | _ => false) = true ∨ (match oy with | .const _ => true | _ => false) = true := by
      simp only [Bool.or_eq_true] at hc
      rcases hc with hc | hc
      · left; cases ox <;> simp [isConstO] at hc ⊢
      · right; cases oy <;> simp [isConstO] at hc ⊢
    rcases isNilIf_rep hx ha with ⟨rfl, rfl⟩ | ⟨rfl, _, _, rfl⟩ <;> rcases isNilIf_rep hy hb with ⟨rfl, rfl⟩ | ⟨rfl, _, _, rfl⟩
    · cases ox <;> cases oy <;> first | (exfalso; simp at hc'; done) | (rcases hop with rfl | rfl <;> rfl)
    · rcases hop with rfl | rfl <;> rfl
    · rcases hop with rfl | rfl <;> rfl
    · rcases hop with rfl | rfl <;> rfl
  have heq : (Op.equal t ux uy).run P w = .ok (a && b) w := by
    have key : ∀ d, (Op.equalIn (d + 1) t ux uy).run P w = .ok (a && b) w := by
      intro d
      rcases isNilIf_rep hx ha with ⟨rfl, rfl⟩ | ⟨rfl, _, _, rfl⟩ <;> rcases isNilIf_rep hy hb with ⟨rfl, rfl⟩ | ⟨rfl, _, _, rfl⟩
      · simp [Op.equalIn, run_underlying hd]
      · simp [Op.equalIn, run_underlying hd]
      · simp [Op.equalIn, run_underlying hd]
      · simp at hab
    exact key 9999
  have hbin : (binOp op t ux uy).run P w = .ok (.bool (if op = .eql then a && b else !(a && b))) w := by
    have hs : (binOp .eql t ux uy) = (do pure (.bool (← Op.equal t ux uy))) ∧ (binOp .neq t ux uy) = (do pure (.bool (!(← Op.equal t ux uy)))) := by
      rcases isNilIf_rep hx ha with ⟨rfl, rfl⟩ | ⟨rfl, _, _, rfl⟩ <;> rcases isNilIf_rep hy hb with ⟨rfl, rfl⟩ | ⟨rfl, _, _, rfl⟩ <;> exact ⟨rfl, rfl⟩
    rcases hop with rfl | rfl
    · rw [hs.1]; simp only [Sem.run_bind, heq, Result.andThen_ok, Sem.run_pure, if_true]
    · rw [hs.2]; simp only [Sem.run_bind, heq, Result.andThen_ok, Sem.run_pure, reduceCtorEq, if_false]
  exact .same (by simp only [Sem.run_bind, hgd, Result.andThen_ok, hbin]) (.data _ _ (.bool _)) hI he

theorem binC_ok {P : Program} {base : Nat} {op : BinOp} {t : TypeId} {ox oy : Operand} {eqs : List TypeId} (hq : ∀ t, t ∈ eqs → P.stoodInHeld t = false ∧ P.eqGuardType P.depth t = false)
    {g : G} {h : Heap} {w : World} {x y : V} {ux uy : Value} {K : Kont} {r : Res} (hI : Inv g base h w) (hx : Rep g ux x) (hy : Rep g uy y)
    (he : binC P eqs op t (isConstO ox) (isConstO oy) x y h K = some r) :
    SemOk P base (do eqGuard op t ox oy ux uy; binOp op t ux uy) g w K r := by
  by_cases hii : ∃ k a k' b, x = .int k a ∧ y = .int k' b
  · obtain ⟨k, a, k', b, rfl, rfl⟩ := hii
    obtain rfl := hx.inv_int
    obtain rfl := hy.inv_int
    exact binI hI he
  · by_cases hss : ∃ a b, x = .str a ∧ y = .str b
    · obtain ⟨a, b, rfl, rfl⟩ := hss
      obtain rfl := hx.inv_str
      obtain rfl := hy.inv_str
      exact binS hI he
    · -- what is left compares
      have key : ∀ (op : BinOp), op = .eql ∨ op = .neq →
          (match P.underlying t with
            | some (.interface _) =>
              if (isConstO ox || isConstO oy) = true then
                match isNilIf x, isNilIf y with
                | some true, some b => K (.bool (if op = .eql then b else !b)) h
                | some a, some true => K (.bool (if op = .eql then a else !a)) h
                | _, _ => none
              else none
            | _ => match eqV P eqs 20 t x y with
              | some r => K (.bool (if op = .eql then r else !r)) h
              | none => none) = some r → SemOk P base (do eqGuard op t ox oy ux uy; binOp op t ux uy) g w K r := by
        intro op hop he
        have val : ∀ b, eqV P eqs 20 t x y = some b → K (.bool (if op = .eql then b else !b)) h = some r → SemOk P base (do eqGuard op t ox oy ux uy; binOp op t ux uy) g w K r := by
          intro b hb hK
          refine binE hq hI hx hy hb (fun k a e => ?_) (fun s e => ?_) hop hK
          · subst e
            cases y with
            | int k' b' => exact hii ⟨_, _, _, _, rfl, rfl⟩
            | _ =>
              unfold eqV at hb
              cases hd : P.underlying t with
              | none => simp [hd] at hb
              | some dsc => simp only [hd] at hb; cases dsc <;> simp at hb
          · subst e
            cases y with
            | str s' => exact hss ⟨_, _, rfl, rfl⟩
            | _ =>
              unfold eqV at hb
              cases hd : P.underlying t with
              | none => simp [hd] at hb
              | some dsc => simp only [hd] at hb; cases dsc <;> simp at hb
        cases hd : P.underlying t with
        | none => simp [hd, eqV] at he
        | some dsc =>
          simp only [hd] at he
          cases dsc with
          | interface ms =>
            simp only at he
            split at he
            case isFalse => cases he
            rename_i hc
            split at he
            · rename_i b h1 h2
              exact binN hd hc hI hx hy h1 h2 (.inl rfl) hop (by simpa using he)
            · rename_i a h1 h2
              exact binN hd hc hI hx hy h1 h2 (.inr rfl) hop (by simpa using he)
            · cases he
          | _ =>
            simp only at he
            cases hb : eqV P eqs 20 t x y with
            | none => simp [hb] at he
            | some b => simp only [hb] at he; exact val b hb he
      cases op with
      | eql =>
        refine key .eql (.inl rfl) ?_
        simp only [if_true]
        cases x <;> cases y <;> first | exact he | exact absurd ⟨_, _, _, _, rfl, rfl⟩ hii | exact absurd ⟨_, _, rfl, rfl⟩ hss
      | neq =>
        refine key .neq (.inr rfl) ?_
        simp only [reduceCtorEq, if_false]
        cases x <;> cases y <;> first | exact he | exact absurd ⟨_, _, _, _, rfl, rfl⟩ hii | exact absurd ⟨_, _, rfl, rfl⟩ hss
      | _ =>
        exfalso
        cases x with
        | int k a => cases y <;> first | (cases he; done) | exact absurd ⟨_, _, _, _, rfl, rfl⟩ hii
        | str a => cases y <;> first | (cases he; done) | exact absurd ⟨_, _, rfl, rfl⟩ hss
        | _ => cases he

end Go.Pv

/- Operations: composite values, new rows. -/
namespace Go.Pv
open Go Go.RowKit

theorem fold_set (off : Nat) : ∀ (l : List Value) (n : Nat) (cs : Array Value), off + n + l.length ≤ cs.size →
    (((l.zipIdx n).foldl (fun cs p => cs.setIfInBounds (off + p.2) p.1) cs).size = cs.size) ∧
    ∀ j, ((l.zipIdx n).foldl (fun cs p => cs.setIfInBounds (off + p.2) p.1) cs)[j]? = if off + n ≤ j ∧ j < off + n + l.length then l[j - (off + n)]? else cs[j]?
  | [], n, cs, _ => ⟨rfl, fun j => by rw [if_neg (by simp)]; rfl⟩
  | v :: l, n, cs, h => by
    simp only [List.length_cons] at h
    obtain ⟨h1, h2⟩ := fold_set off l (n + 1) (cs.setIfInBounds (off + n) v) (by simp; omega)
    refine ⟨by simp only [List.zipIdx_cons, List.foldl_cons]; rw [h1]; simp, fun j => ?_⟩
    simp only [List.zipIdx_cons, List.foldl_cons]
    rw [h2 j]
    by_cases hj : off + n ≤ j ∧ j < off + n + (l.length + 1)
    · rw [List.length_cons, if_pos hj]
      by_cases he : j = off + n
      · subst he
        rw [if_neg (by omega)]
        have : off + n < cs.size := by omega
        simp [this]
      · rw [if_pos (by omega), show j - (off + n) = (j - (off + (n + 1))) + 1 by omega, List.getElem?_cons_succ]
    · rw [List.length_cons, if_neg hj, if_neg (by omega), Array.getElem?_setIfInBounds_ne (by omega)]

/-- The parts of a composite literal. -/
inductive PartsRep (g : G) : List (Nat × Value) → List (Nat × V) → Prop
  | nil : PartsRep g [] []
  | cons (i : Nat) (u : Value) (v : V) (us : List (Nat × Value)) (vs : List (Nat × V)) (h : Rep g u v) (hs : PartsRep g us vs) : PartsRep g ((i, u) :: us) ((i, v) :: vs)

theorem fill_ok {g : G} {pl pl' : Nat → Option (Nat × Nat)} (hp : ∀ i x, pl i = some x → pl' i = some x) : ∀ (vs : List (Nat × V)) (us : List (Nat × Value)) (xs xs' : List V) (cs : Array Value),
    PartsRep g us vs → CellsRep g cs.toList xs → (∀ u ∈ cs.toList, u.oneCell' = true) → fillV pl xs vs = some xs' → ∃ cs', Instr.fill pl' cs us = some cs' ∧ CellsRep g cs'.toList xs' ∧ (∀ u ∈ cs'.toList, u.oneCell' = true)
  | [], us, xs, xs', cs, hr, hc, ho, h => by
    cases hr
    simp only [fillV, Option.some.injEq] at h
    subst h
    exact ⟨cs, rfl, hc, ho⟩
  | (i, v) :: vs, us, xs, xs', cs, hr, hc, ho, h => by
    cases hr with
    | cons _ u _ us _ hu hs =>
      simp only [fillV] at h
      cases hpi : pl i with
      | none => simp [hpi] at h
      | some p =>
        obtain ⟨off, size⟩ := p
        simp only [hpi] at h
        split at h
        case isFalse => cases h
        rename_i hcd
        obtain ⟨h1, h2, h3⟩ := hcd
        have hcr := hu.cells_of_one h3
        have hsz : u.cells.size = v.cells.length := by have := hcr.1; simpa using this
        have hcl : cs.size = xs.length := by have := hc.1; simpa using this
        obtain ⟨f1, f2⟩ := fold_set off u.cells.toList 0 cs (by simp; omega)
        have hfold : u.cells.zipIdx.foldl (fun cs (x : Value × Nat) => cs.setIfInBounds (off + x.2) x.1) cs = (u.cells.toList.zipIdx 0).foldl (fun cs p => cs.setIfInBounds (off + p.2) p.1) cs := by
          rw [← Array.foldl_toList, Array.toList_zipIdx]
        have hnext : CellsRep g (u.cells.zipIdx.foldl (fun cs (x : Value × Nat) => cs.setIfInBounds (off + x.2) x.1) cs).toList (setMany xs off v.cells) := by
          rw [hfold]
          refine ⟨by rw [Array.length_toList, f1, setMany_length, hcl], fun j x w hj hw => ?_⟩
          have hw' := hw
          simp only [Array.getElem?_toList] at hw'
          rw [f2 j] at hw'
          simp only [Nat.add_zero, Array.length_toList] at hw'
          rcases setMany_get _ _ _ (by omega) j x hj with ⟨g1, g2, g3⟩ | ⟨g1, g2⟩
          · rw [if_pos ⟨g1, by omega⟩] at hw'
            exact hcr.2 _ x w g3 hw'
          · rw [if_neg (by rw [hsz]; exact g1)] at hw'
            exact hc.2 j x w g2 (by simpa using hw')
        have hnone : ∀ w ∈ (u.cells.zipIdx.foldl (fun cs (x : Value × Nat) => cs.setIfInBounds (off + x.2) x.1) cs).toList, w.oneCell' = true := by
          intro w hw
          rw [hfold] at hw
          obtain ⟨j, hj⟩ := List.mem_iff_getElem?.1 hw
          simp only [Array.getElem?_toList] at hj
          rw [f2 j] at hj
          split at hj
          · exact all_one hcr h3 w (List.mem_of_getElem? hj)
          · exact ho w (List.mem_of_getElem? (by simpa using hj))
        obtain ⟨cs', k1, k2, k3⟩ := fill_ok hp vs us _ xs' _ hs hnext hnone h
        refine ⟨cs', ?_, k2, k3⟩
        simp only [Instr.fill, hp i _ hpi]
        rw [if_neg (by simp only [ne_eq, Bool.or_eq_true, decide_eq_true_eq, not_or]; omega)]
        exact k1

theorem mapM_info {P : Program} : ∀ (fs : List Field), (fs.all fun f => (P.info? f.type).isSome) = true → fs.mapM (fun f => (P.info? f.type).map fun i => (f.offset, i.size)) = some (fs.map fun f => (f.offset, P.cellsOf f.type))
  | [], _ => rfl
  | f :: fs, h => by
    simp only [List.all_cons, Bool.and_eq_true] at h
    obtain ⟨i, hi⟩ := Option.isSome_iff_exists.1 h.1
    rw [List.mapM_cons, mapM_info fs h.2]
    simp [hi, Program.cellsOf]

theorem cells_rep_const {F : Fz} {u : Value} {z : V} (h : RepD F u z) (ho : z.cells.all oneCell = true) (g : G) (hg : g.F = F) : CellsRep g u.cells.toList z.cells :=
  (Rep.data u z (by rw [hg]; exact h)).cells_of_one ho

theorem buildC_ok {P : Program} {base : Nat} {t : TypeId} {g : G} {h : Heap} {w : World} {vs : List (Nat × V)} {us : Array (Nat × Value)} {K : Kont} {r : Res}
    (hI : Inv g base h w) (hp : PartsRep g us.toList vs) (he : buildC P t vs h K = some r) : SemOk P base (Instr.build t us) g w K r := by
  unfold buildC at he
  split at he
  case isFalse => cases he
  rename_i hinf
  cases hz : zeroOf P t with
  | none => simp [hz] at he
  | some z =>
    simp only [hz] at he
    split at he
    case isFalse => cases he
    rename_i hzo
    cases hf : fillV (placeOf P t) z.cells vs with
    | none => simp [hf] at he
    | some cs =>
      simp only [hf] at he
      obtain ⟨u, _, hrep, i, hi, hiz⟩ := zeroOf_run hz w
      have hzc := cells_rep_const (hrep g.F) hzo g rfl
      have hone := all_one hzc hzo
      have fin : ∀ (pl' : Nat → Option (Nat × Nat)), (∀ i x, placeOf P t i = some x → pl' i = some x) → (∀ cs', Instr.fill pl' u.cells us.toList = some cs' → P.built t us.toList = some cs') → SemOk P base (Instr.build t us) g w K r := by
        intro pl' hpl hb
        obtain ⟨cs', h1, h2, h3⟩ := fill_ok hpl vs us.toList z.cells cs u.cells hp hzc hone hf
        exact .same (run_build w t us cs' (hb cs' h1)) (.agg _ _ (by have := h2.1; simpa using this) (fun j x u hj hu => h2.2 j x u hj (by simpa using hu))) hI he
      unfold infoAll at hinf
      cases hd : P.underlying t with
      | none => simp [hd] at hinf
      | some d =>
        simp only [hd] at hinf
        cases d with
        | struct fs =>
          simp only at hinf
          refine fin (fun j => ((fs.toList.map fun f => (f.offset, P.cellsOf f.type)).toArray)[j]?) (fun j x hj => ?_) (fun cs' hcs' => ?_)
          · simp only [placeOf, hd] at hj
            cases hfj : fs[j]? with
            | none => simp [hfj] at hj
            | some f =>
              simp only [hfj, Option.some.injEq] at hj
              subst hj
              simp [hfj]
          · simp only [Program.built, hi, hd, hiz, mapM_info fs.toList hinf]
            exact hcs'
        | array n e =>
          simp only at hinf
          obtain ⟨ie, hie⟩ := Option.isSome_iff_exists.1 hinf
          refine fin (fun j => some (j * ie.size, ie.size)) (fun j x hj => ?_) (fun cs' hcs' => ?_)
          · simp only [placeOf, hd, Option.some.injEq] at hj
            subst hj
            simp [Program.cellsOf, hie]
          · simp only [Program.built, hi, hd, hiz, hie]
            exact hcs'
        | _ => simp at hinf

/-- Cells that repeat. -/
theorem flatten_replicate_get {α : Type} (l : List α) : ∀ (n j : Nat), ((List.replicate n l).flatten)[j]? = if j < n * l.length then l[j % l.length]? else none
  | 0, j => by simp
  | n + 1, j => by
    rw [List.replicate_succ, List.flatten_cons, List.getElem?_append]
    by_cases h : j < l.length
    · rw [if_pos h, if_pos (by rw [Nat.add_mul]; omega), Nat.mod_eq_of_lt h]
    · rw [if_neg h, flatten_replicate_get l n (j - l.length)]
      have hm : (j - l.length) % l.length = j % l.length := by
        rw [Nat.mod_eq_sub_mod (a := j) (by omega)]
      rw [hm]
      by_cases h2 : j - l.length < n * l.length
      · rw [if_pos h2, if_pos (by rw [Nat.add_mul]; omega)]
      · rw [if_neg h2, if_neg (by rw [Nat.add_mul]; omega)]

theorem flatten_replicate_length {α : Type} (l : List α) (n : Nat) : ((List.replicate n l).flatten).length = n * l.length := by simp

/-- The model's zero cells of a row. -/
theorem zeros_get (zero : Array Value) (m j : Nat) (u : Value) (h : ((Array.range m).map (zero[· % zero.size]!))[j]? = some u) (hz : 0 < zero.size) : j < m ∧ zero[j % zero.size]? = some u := by
  rw [Array.getElem?_map] at h
  rcases Nat.lt_or_ge j m with hj | hj
  · rw [Array.getElem?_range, if_pos hj] at h
    simp only [Option.map_some, Option.some.injEq] at h
    refine ⟨hj, ?_⟩
    have hlt : j % zero.size < zero.size := Nat.mod_lt _ hz
    rw [← h, getElem!_pos zero (j % zero.size) hlt, Array.getElem?_eq_getElem hlt]
  · rw [Array.getElem?_eq_none (by simpa using hj)] at h; cases h

theorem zeros_rep {g : G} {zero : Array Value} {zs : List V} (hc : CellsRep g zero.toList zs) (hz : 0 < zero.size) (n : Nat) (m : Nat) (hm : m = n * zero.size) :
    CellsRep g ((Array.range m).map (zero[· % zero.size]!)).toList (List.replicate n zs).flatten := by
  have hl : zs.length = zero.size := by have := hc.1; simpa using this.symm
  refine ⟨by simp [hm, hl], fun j x u hj hu => ?_⟩
  obtain ⟨h1, h2⟩ := zeros_get zero m j u (by rw [← Array.getElem?_toList]; exact hu) hz
  rw [flatten_replicate_get, hl, if_pos (by omega)] at hj
  exact hc.2 _ x u hj (by simpa using h2)

/-- A new row out of represented cells. -/
theorem rowC_ok {base : Nat} {g : G} {h : Heap} {w : World} {n es : Nat} {cells : List V} {K : Kont} {r : Res} {ty : TypeId} {us : Array Value}
    (hI : Inv g base h w) (hc : CellsRep g us.toList cells) (hone : ∀ u ∈ us.toList, u.oneCell' = true) (hn : cells.length = n * es) (hes : 0 < es) (he : rowC n es cells h K = some r) :
    ∃ g' h' v, Rep g' (.slice (some ⟨w.heap.size, 0, none⟩) n n) v ∧ Inv g' base h' (w.alloc (.cells us ty)) ∧ g.le g' ∧ Below base w (w.alloc (.cells us ty)) ∧ K v h' = some r := by
  unfold rowC at he
  cases hm : cells.mapM (fz h 4) with
  | none => simp [hm] at he
  | some cs =>
    simp only [hm] at he
    obtain ⟨hlm, hgm⟩ := mapM_get _ _ hm
    obtain ⟨g1, hI1, hle1, hn1, hl1, hag, hs1, hf1⟩ := markAll_ok (cells.flatMap (ids h 4)) hI
    have hul : us.size = cs.length := by have := hc.1; rw [hlm]; simpa using this
    have hI2 := hI1.newBlk (later_alloc w (.cells us ty)) (Nat.le_refl _) us ty (heap_alloc_new w _) ⟨cs, es, 0, false⟩ rfl es n (by simp [hul]) (fun _ => ⟨by simp [hlm, hn], rfl, hes⟩) (fun hx => by cases hx)
      (fun _ j c u hj hu => by
        have hjl : j < cells.length := by rw [← hlm]; exact length_of_get hj
        have hcx := List.getElem?_eq_getElem hjl
        obtain ⟨y, hy, hfy⟩ := hgm j _ hcx
        have hj' : cs[j]? = some c := hj
        rw [hj'] at hy
        obtain rfl := Option.some.inj hy
        exact fz_rep hI1 hag 4 _ _ _ ((hc.2 _ _ u hcx (by simpa using hu)).mono hle1) hfy (fun b' hb' => hf1 b' (List.mem_flatMap.2 ⟨_, List.getElem_mem hjl, hb'⟩)))
      (fun j u _ hu => hone u (List.mem_of_getElem? (by simpa using hu)))
    refine ⟨_, _, _, ?_, hI2, G.le_trans hle1 (g1.le_add _ _ _ _), below_alloc hI.base _, he⟩
    rw [hag.1, ← hI1.n]
    refine .own _ _ n n (by simp [G.add]) (G.add_loc _ _ _ _ _) (Nat.le_refl _) (G.add_cnt _ _ _ _ _) ?_
    rw [G.add_es, G.add_sz, hul, hlm, hn]
    exact Nat.le_refl _

theorem buildSliceC_ok {P : Program} {base : Nat} {t : TypeId} {g : G} {h : Heap} {w : World} {len : Nat} {vs : List (Nat × V)} {us : Array (Nat × Value)} {K : Kont} {r : Res}
    (hI : Inv g base h w) (hp : PartsRep g us.toList vs) (he : buildSliceC P t len vs h K = some r) : SemOk P base (Instr.buildSlice t len us) g w K r := by
  unfold buildSliceC at he
  cases hd : P.underlying t with
  | none => simp [hd] at he
  | some d =>
    simp only [hd] at he
    cases d with
    | slice e =>
      simp only at he
      cases hz : zeroOf P e with
      | none => simp [hz] at he
      | some z =>
        simp only [hz] at he
        split at he
        case isFalse => cases he
        rename_i hcd
        obtain ⟨c1, c2, c3, c4⟩ := hcd
        obtain ⟨u, hzr, hrep, i, hi, hiz⟩ := zeroOf_run hz w
        have hzc := cells_rep_const (hrep g.F) c4 g rfl
        have hzs : u.cells.size = P.cellsOf e := by have := hzc.1; rw [← c1]; simpa using this
        have hsz : (sizeOf e).run P w = .ok (P.cellsOf e) w := info_cells (by simp [hi]) w
        have hbig : ¬ (len * P.cellsOf e > 2 ^ 24) := by omega
        by_cases hl0 : len = 0
        · subst hl0
          simp only [if_true] at he
          split at he
          case isFalse => cases he
          rename_i hvs
          have hus : us.toList = [] := by
            have hnil : ∀ l, PartsRep g l [] → l = [] := by intro l h; cases h; rfl
            cases vs with
            | nil => exact hnil _ hp
            | cons a b => simp at hvs
          refine ⟨.slice (some ⟨w.heap.size, 0, none⟩) 0 0, w.alloc (.cells #[] e), g, .nils, h, ?_, .data _ _ (.nils _), hI.later (later_alloc w _), G.le_refl g, below_alloc hI.base _, he⟩
          simp [Instr.buildSlice, run_underlying hd, hsz, hus, Instr.fill, newRow]
          rw [show Array.range 0 = #[] from by apply Array.ext'; simp]; simp only [Array.map_empty]
        · rw [if_neg hl0] at he
          have hpos : 0 < P.cellsOf e := by omega
          have hn0 : ¬ len * P.cellsOf e = 0 := by
            intro e'
            rcases Nat.mul_eq_zero.1 e' with h' | h' <;> omega
          cases hf : fillV (placeOf P t) (List.replicate len z.cells).flatten vs with
          | none => simp [hf] at he
          | some cs =>
            simp only [hf] at he
            split at he
            case isFalse => cases he
            rename_i hone'
            have hzero := zeros_rep hzc (by rw [hzs]; exact hpos) len (len * P.cellsOf e) (by rw [hzs])
            have hzone : ∀ x ∈ ((Array.range (len * P.cellsOf e)).map (u.cells[· % u.cells.size]!)).toList, x.oneCell' = true := by
              intro x hx
              obtain ⟨j, hj⟩ := List.mem_iff_getElem?.1 hx
              obtain ⟨_, h2⟩ := zeros_get _ _ j x (by rw [← Array.getElem?_toList]; exact hj) (by rw [hzs]; exact hpos)
              exact all_one hzc c4 x (List.mem_of_getElem? (by simpa using h2))
            obtain ⟨cs', k1, k2, k3⟩ := fill_ok (pl' := fun j => some (j * P.cellsOf e, P.cellsOf e)) (fun j x hj => by simpa only [placeOf, hd] using hj) vs us.toList _ cs _ hp hzero hzone hf
            have hcl : cs.length = len * P.cellsOf e := by
              have hfl : ∀ (ps : List (Nat × V)) (xs xs' : List V), fillV (placeOf P t) xs ps = some xs' → xs'.length = xs.length := by
                intro ps
                induction ps with
                | nil => intro xs xs' h; simp only [fillV, Option.some.injEq] at h; rw [h]
                | cons p ps ih =>
                  intro xs xs' h
                  simp only [fillV] at h
                  split at h
                  · cases h
                  · split at h
                    · have := ih _ _ h; rw [this, setMany_length]
                    · cases h
              rw [hfl _ _ _ hf, flatten_replicate_length, c1]
            obtain ⟨g', h', v, r1, r2, r3, r4, r5⟩ := rowC_ok (ty := e) (us := cs') hI k2 k3 hcl hpos he
            refine ⟨_, _, g', v, h', ?_, r1, r2, r3, r4, r5⟩
            simp [Instr.buildSlice, run_underlying hd, hsz, hbig, hn0, hzr, k1, newRow]
    | _ => simp at he

end Go.Pv

/- Operations: make, append, copy. -/
namespace Go.Pv
open Go Go.RowKit

theorem wrapB_i64 {n : Int} (h0 : -9223372036854775808 ≤ n) (h1 : n ≤ 9223372036854775807) : IntKind.i64.wrap n = n := IntWalk.i64_in n ⟨h0, h1⟩

theorem makeSliceC_ok {P : Program} {base : Nat} {t : TypeId} {g : G} {h : Heap} {w : World} {l c : V} {ul uc : Value} {K : Kont} {r : Res}
    (hI : Inv g base h w) (hl : Rep g ul l) (hc : Rep g uc c) (he : makeSliceC P t l c h K = some r) : SemOk P base (Instr.makeSlice t ul uc) g w K r := by
  unfold makeSliceC at he
  split at he
  case h_2 => cases he
  rename_i e kl l kc c hd
  obtain rfl := hl.inv_int
  obtain rfl := hc.inv_int
  cases hz : zeroOf P e with
  | none => simp [hz] at he
  | some z =>
    simp only [hz] at he
    split at he
    case isFalse => cases he
    rename_i hcd
    obtain ⟨c1, c2, c3, c4⟩ := hcd
    obtain ⟨h0, he⟩ := cond_some he
    obtain ⟨h1, he⟩ := cond_some he
    obtain ⟨h2, he⟩ := cond_some he
    have h0 : 0 ≤ l := by simpa using h0
    have h1 : l ≤ c := by simpa using h1
    have h2 : c ≤ (4294967296 : Int) := by have := of_decide_eq_true h2; simp only [bound] at this; omega
    have c3 : P.bytesOf e ≤ 4096 := by simpa [boundB] using c3
    cases hm : z.cells.mapM (fz h 4) with
    | none => simp [hm] at he
    | some zs =>
      simp only [hm] at he
      have hK := he
      obtain ⟨hlm, hgm⟩ := mapM_get _ _ hm
      obtain ⟨u, hzr, hrep, i, hi, hiz⟩ := zeroOf_run hz w
      have hpos : 0 < P.cellsOf e := by omega
      have hzc := cells_rep_const (hrep g.F) c4 g rfl
      have hzs : u.cells.size = P.cellsOf e := by have := hzc.1; rw [← c1]; simpa using this
      -- the frozen zeros are data
      have hzd : ∀ (j : Nat) (x : V) (v : Value), zs[j]? = some x → u.cells.toList[j]? = some v → RepD g.F v x := by
        intro j x v hj hv
        have hjl : j < z.cells.length := by rw [← hlm]; exact length_of_get hj
        have hcx := List.getElem?_eq_getElem hjl
        obtain ⟨y, hy, hfy⟩ := hgm j _ hcx
        rw [hj] at hy
        obtain rfl := Option.some.inj hy
        have hR := (cells_rep_const (hrep g.F) c4 g rfl).2 j _ v hcx hv
        refine fz_rep hI (Agree.refl h) 4 _ _ _ hR hfy (fun b hb => ?_)
        -- a constant has no local blocks
        exfalso
        have hno : ∀ (x : V) (v : Value), Rep g v x → RepD g.F v x → ids h 4 x = [] ∨ (∃ f a c, x = .fn f a c) ∨ (∃ t y, x = .iface t y) ∨ (∃ cs, x = .agg cs) ∨ (∃ cs, x = .tup cs) := by
          intro x v _ hD
          cases hD <;> first | exact .inl rfl | exact .inr (.inl ⟨_, _, _, rfl⟩) | exact .inr (.inr (.inl ⟨_, _, rfl⟩)) | exact .inr (.inr (.inr (.inl ⟨_, rfl⟩))) | exact .inr (.inr (.inr (.inr ⟨_, rfl⟩)))
        have hz0 : z = ofValue u := by
          unfold zeroOf at hz
          simp only [hi, hiz, Option.some.injEq] at hz
          exact hz.symm
        have hcell : ∀ x ∈ z.cells, ids h 4 x = [] := by
          intro x hx
          have hc0 : ∀ v : Value, ids h 4 (cellOf v) = [] := by
            intro v
            unfold cellOf
            split <;> first | rfl | (split <;> rfl)
          rw [hz0] at hx
          unfold ofValue at hx
          split at hx
          · simp only [V.cells, List.mem_map] at hx
            obtain ⟨y, _, rfl⟩ := hx
            exact hc0 y
          · have hxe : (cellOf u).cells = [cellOf u] := by
              unfold cellOf
              split <;> first | rfl | (split <;> rfl)
            rw [hxe, List.mem_singleton] at hx
            subst hx
            exact hc0 u
        rw [hcell _ (List.getElem_mem hjl)] at hb
        cases hb
      have hzl : zs.length = P.cellsOf e := by rw [hlm]; exact c1
      -- the run
      obtain ⟨L, rfl⟩ := Int.eq_ofNat_of_zero_le h0
      obtain ⟨C, rfl⟩ := Int.eq_ofNat_of_zero_le (Int.le_trans h0 h1)
      have hLC : L ≤ C := by omega
      have hC : C ≤ 4294967296 := by omega
      have wl : IntKind.i64.wrap (L : Int) = L := wrapB_i64 (by omega) (by omega)
      have wc : IntKind.i64.wrap (C : Int) = C := wrapB_i64 (by omega) (by omega)
      have hby : i.bytes ≤ 4096 := by have := c3; simp [Program.bytesOf, hi] at this; exact this
      have hbig : ¬ (281474976710656 < (i.bytes : Int) * (C : Int)) := by
        have h3 : i.bytes * C ≤ 4096 * 4294967296 := Nat.mul_le_mul hby hC
        have h4 : ((i.bytes * C : Nat) : Int) = (i.bytes : Int) * (C : Int) := by simp
        rw [← h4]; omega
      let cells : Array Value := if C * P.cellsOf e = 0 then #[] else (Array.range (C * P.cellsOf e)).map (u.cells[· % u.cells.size]!)
      have hsz : (sizeOf e).run P w = .ok (P.cellsOf e) w := info_cells (by simp [hi]) w
      have hrun : (Instr.makeSlice t (.int kl (L : Int)) (.int kc (C : Int))).run P w = .ok (.slice (some ⟨w.heap.size, 0, none⟩) L C) (w.alloc (.cells cells e)) := by
        have hneg : ¬ ((C : Int) < 0) := by omega
        have hneg2 : ¬ ((L : Int) < 0) := by omega
        have hneg3 : ¬ ((L : Int) > (C : Int)) := by omega
        have hinfo : (typeInfo e).run P w = .ok i w := by simp [typeInfo, hi]
        by_cases hc0 : C * P.cellsOf e = 0
        · simp [Instr.makeSlice, run_underlying hd, asInt, asIntOf, hinfo, wl, wc, hneg, hneg2, hneg3, hbig, hsz, hc0, newRow, cells]
          rw [show Array.range 0 = #[] from by apply Array.ext'; simp]; simp only [Array.map_empty]
        · simp [Instr.makeSlice, run_underlying hd, asInt, asIntOf, hinfo, wl, wc, hneg, hneg2, hneg3, hbig, hsz, hc0, newRow, cells, hzr]
      have hcsz : cells.size = C * P.cellsOf e := by
        by_cases hc0 : C * P.cellsOf e = 0
        · simp [cells, hc0]
        · simp [cells, hc0]
      have hcget : ∀ (j : Nat) (v : Value), cells[j]? = some v → u.cells[j % u.cells.size]? = some v := by
        intro j v hv
        by_cases hc0 : C * P.cellsOf e = 0
        · simp [cells, hc0] at hv
        · simp only [cells, if_neg hc0] at hv
          exact (zeros_get _ _ j v hv (by rw [hzs]; exact hpos)).2
      have hI2 := hI.newBlk (later_alloc w (.cells cells e)) (Nat.le_refl _) cells e (heap_alloc_new w _) ⟨(List.replicate L zs).flatten, P.cellsOf e, 0, false⟩ rfl (P.cellsOf e) L
        (by simp only [flatten_replicate_length, hzl, hcsz]; exact Nat.mul_le_mul_right _ hLC) (fun _ => ⟨by simp only [flatten_replicate_length, hzl], rfl, hpos⟩) (fun hx => by cases hx)
        (fun _ j x v hj hv => by
          have hj' : (List.replicate L zs).flatten[j]? = some x := hj
          rw [flatten_replicate_get] at hj'
          split at hj'
          · refine hzd _ x v hj' ?_
            have := hcget j v hv
            rw [hzs] at this
            rw [hzl]
            simpa using this
          · cases hj')
        (fun j v _ hv => all_one hzc c4 v (List.mem_of_getElem? (by simpa using hcget j v hv)))
      simp only [Int.toNat_natCast] at hK
      refine ⟨_, _, _, _, _, hrun, ?_, hI2, g.le_add _ _ _ _, below_alloc hI.base _, hK⟩
      rw [← hI.n]
      refine .own _ _ L C (by simp [G.add]) (G.add_loc _ _ _ _ _) hLC (G.add_cnt _ _ _ _ _) ?_
      rw [G.add_es, G.add_sz, hcsz]
      exact Nat.le_refl _

end Go.Pv

/- Operations: append and copy. -/
namespace Go.Pv
open Go Go.RowKit

/-- What an operand of append or copy holds. -/
structure SrcRun (P : Program) (size m : Nat) (u : Value) (news : List Value) (w : World) : Prop where
  len : ∀ w', (Builtin.lenOf u).run P w' = .ok m w'
  cells : ∀ w', w'.heap = w.heap → ∀ k, k ≤ m → (Builtin.firstCells size k u).run P w' = .ok (news.take (k * size)).toArray w'

theorem loadCells_at {P : Program} {w : World} {b o : Nat} (us : List Value) (h : ∀ (j : Nat) (u : Value), us[j]? = some u → w.cell? ⟨b, o + j, none⟩ = some u) :
    (loadCells ⟨b, o, none⟩ us.length).run P w = .ok us.toArray w :=
  run_loadCells_list (P := P) w ⟨b, o, none⟩ us (fun j u hj => by rw [Addr.add_lit]; exact h j u hj)

theorem cell_heap {w w' : World} (h : w'.heap = w.heap) (a : Addr) : w'.cell? a = w.cell? a := by simp [World.cell?, h]

/-- A slice whose elements' cells are known. -/
theorem srcRun_slice {P : Program} {w : World} {size b o n cap : Nat} (news : List Value) (hl : news.length = n * size) (h : ∀ (j : Nat) (u : Value), news[j]? = some u → w.cell? ⟨b, o + j, none⟩ = some u) :
    SrcRun P size n (.slice (some ⟨b, o, none⟩) n cap) news w where
  len := fun w' => by simp [Builtin.lenOf]
  cells := fun w' hw k hk => by
    have hlen : (news.take (k * size)).length = k * size := by
      rw [List.length_take, hl]; exact Nat.min_eq_left (Nat.mul_le_mul_right _ hk)
    have := loadCells_at (P := P) (w := w') (b := b) (o := o) (news.take (k * size)) (fun j u hj => by
      rw [List.getElem?_take] at hj
      split at hj
      · rw [cell_heap hw]; exact h j u hj
      · cases hj)
    rw [hlen] at this
    simpa [Builtin.firstCells] using this

theorem srcRun_empty {P : Program} {w : World} {size cap : Nat} (a : Option Addr) : SrcRun P size 0 (.slice a 0 cap) [] w where
  len := fun w' => by simp [Builtin.lenOf]
  cells := fun w' hw k hk => by
    obtain rfl : k = 0 := by omega
    cases a <;> simp [Builtin.firstCells, loadCells, loadCellsFrom]

theorem srcOf_ok {P : Program} {base : Nat} {g : G} {h : Heap} {w : World} {x : V} {ux : Value} {m size : Nat} {new : List V} (hI : Inv g base h w) (hx : Rep g ux x)
    (he : srcOf h x = some (m, new)) (hlen : new.length = m * size) :
    ∃ news, SrcRun P size m ux news w ∧ news.length = new.length ∧ (∀ (j : Nat) (c : V) (u : Value), new[j]? = some c → news[j]? = some u → RepD g.F u c) ∧ ∀ u ∈ news, u.oneCell' = true := by
  -- out of a row
  have fromRow : ∀ (b n off : Nat) (B : Blk), h[b]? = some B → B.box = false → B.st < 3 → (∀ (j : Nat) (c : V), new[j]? = some c → B.cells[off + j]? = some c) → n = m →
      ((n = 0 ∧ ∃ a, ux = .slice a 0 0) ∨ ∃ k cap, g.loc b = some k ∧ ux = .slice (some ⟨k, off, none⟩) n cap) → (n = 0 → new = []) →
      ∃ news, SrcRun P size m ux news w ∧ news.length = new.length ∧ (∀ (j : Nat) (c : V) (u : Value), new[j]? = some c → news[j]? = some u → RepD g.F u c) ∧ ∀ u ∈ news, u.oneCell' = true := by
    intro b n off B hB hbx hst hnew hnm hform hn0
    subst hnm
    rcases hform with ⟨rfl, a, rfl⟩ | ⟨k, cap, hl, rfl⟩
    · have := hn0 rfl
      subst this
      exact ⟨[], srcRun_empty a, rfl, fun j c u hj => by simp at hj, fun u hu => by cases hu⟩
    · obtain ⟨cur, ty, hat⟩ := (hI.blk b B hB hst).place k hl
      have hin : ∀ j, j < new.length → off + j < B.cells.length := fun j hj => length_of_get (hnew j _ (List.getElem?_eq_getElem hj))
      refine ⟨(List.range new.length).map fun j => cur.getD (off + j) undef, srcRun_slice _ (by simp [hlen]) (fun j u hj => ?_), by simp, fun j c u hj hu => ?_, fun u hu => ?_⟩
      · obtain ⟨h1, rfl⟩ := list_of_fun_get hj
        rw [cell_at hat.at_]
        have hlt : off + j < cur.size := Nat.lt_of_lt_of_le (hin j h1) hat.len
        simp [Array.getElem?_eq_getElem hlt]
      · obtain ⟨h1, rfl⟩ := list_of_fun_get hu
        have hlt : off + j < cur.size := Nat.lt_of_lt_of_le (hin j h1) hat.len
        exact hat.row hbx _ c _ (hnew j c hj) (by simp [Array.getElem?_eq_getElem hlt])
      · obtain ⟨j, hj⟩ := List.mem_iff_getElem?.1 hu
        obtain ⟨h1, rfl⟩ := list_of_fun_get hj
        have hlt : off + j < cur.size := Nat.lt_of_lt_of_le (hin j h1) hat.len
        exact hat.one (off + j) _ (hin j h1) (by simp [Array.getElem?_eq_getElem hlt])
  cases x with
  | sl n cells =>
    simp only [srcOf, Option.some.injEq, Prod.mk.injEq] at he
    obtain ⟨rfl, rfl⟩ := he
    have hD := hx.inv_sl
    cases hD with
    | sl0 a cap => exact ⟨[], srcRun_empty a, rfl, fun j c u hj => by simp at hj, fun u hu => by cases hu⟩
    | sl b o n cap cells hn hs hr =>
      refine ⟨(List.range cells.length).map fun j => (g.F b (o + j)).getD undef, srcRun_slice _ (by simp [hlen]) (fun j u hj => ?_), by simp, fun j c u hj hu => ?_, fun u hu => ?_⟩
      · obtain ⟨h1, rfl⟩ := list_of_fun_get hj
        obtain ⟨v, hv⟩ := Option.isSome_iff_exists.1 (hs j _ (List.getElem?_eq_getElem h1))
        rw [hI.F _ _ _ hv, hv]; rfl
      · obtain ⟨h1, rfl⟩ := list_of_fun_get hu
        obtain ⟨v, hv⟩ := Option.isSome_iff_exists.1 (hs j _ hj)
        rw [hv]; exact hr j c v hj hv
      · obtain ⟨j, hj⟩ := List.mem_iff_getElem?.1 hu
        obtain ⟨h1, rfl⟩ := list_of_fun_get hj
        obtain ⟨v, hv⟩ := Option.isSome_iff_exists.1 (hs j _ (List.getElem?_eq_getElem h1))
        rw [hv]; exact hI.one _ _ _ hv
  | nils =>
    simp only [srcOf, Option.some.injEq, Prod.mk.injEq] at he
    obtain ⟨rfl, rfl⟩ := he
    obtain ⟨a, rfl⟩ := hx.inv_nils
    exact ⟨[], srcRun_empty a, rfl, fun j c u hj => by simp at hj, fun u hu => by cases hu⟩
  | own b n =>
    simp only [srcOf] at he
    cases hB : h[b]? with
    | none => simp [hB] at he
    | some B =>
      simp only [hB] at he
      split at he
      · cases he
      rename_i hc
      simp only [Bool.or_eq_true, decide_eq_true_eq, not_or, Bool.not_eq_true] at hc
      simp only [Option.some.injEq, Prod.mk.injEq] at he
      obtain ⟨rfl, rfl⟩ := he
      have hrow := (hI.blk b B hB (by omega)).row hc.1
      obtain ⟨hb, hcnt, hf⟩ := hx.inv_own
      refine fromRow b n 0 B hB hc.1 (by omega) (fun j c hj => by rw [Nat.zero_add]; exact hj) rfl ?_ (fun h0 => ?_)
      · rcases hf with h0 | ⟨k, cap, hl, hv, _⟩
        · exact .inl h0
        · exact .inr ⟨k, cap, hl, hv⟩
      · subst h0
        rw [hcnt, Nat.zero_mul] at hrow
        exact List.eq_nil_of_length_eq_zero hrow.1
  | ref b off n =>
    simp only [srcOf] at he
    cases hB : h[b]? with
    | none => simp [hB] at he
    | some B =>
      simp only [hB] at he
      split at he
      · cases he
      rename_i hc
      simp only [Bool.or_eq_true, decide_eq_true_eq, not_or, Bool.not_eq_true] at hc
      simp only [Option.some.injEq, Prod.mk.injEq] at he
      obtain ⟨rfl, rfl⟩ := he
      obtain ⟨hb, hcnt, hf⟩ := hx.inv_ref
      refine fromRow b n off B hB hc.1 (by omega) (fun j c hj => ?_) rfl ?_ (fun h0 => by subst h0; simp)
      · rw [List.getElem?_take] at hj
        split at hj
        · rwa [List.getElem?_drop] at hj
        · cases hj
      · rcases hf with h0 | ⟨k, cap, hl, hv, _⟩
        · exact .inl h0
        · exact .inr ⟨k, cap, hl, hv⟩
  | str s =>
    simp only [srcOf, Option.some.injEq, Prod.mk.injEq] at he
    obtain ⟨rfl, rfl⟩ := he
    obtain rfl := hx.inv_str
    refine ⟨s.map fun c => .int .u8 c.toNat, ⟨fun w' => by simp [Builtin.lenOf, str_size], fun w' hw k hk => ?_⟩, by simp, fun j c u hj hu => ?_, fun u hu => ?_⟩
    · have hs1 : (s.map fun c => Value.int .u8 c.toNat).take (k * size) = (s.map fun c => Value.int .u8 c.toNat).take k := by
        simp only [List.length_map] at hlen
        rcases Nat.eq_zero_or_pos s.length with h0 | hp
        · obtain rfl : k = 0 := by omega
          simp
        · have : size = 1 := by
            have h1 : s.length * 1 = s.length * size := by omega
            exact (Nat.eq_of_mul_eq_mul_left hp h1).symm
          rw [this, Nat.mul_one]
      rw [hs1]
      simp only [Builtin.firstCells, extract_str, Sem.run_pure]
      simp [List.map_take]
    · rw [List.getElem?_map] at hj hu
      cases hc : s[j]? with
      | none => simp [hc] at hj
      | some y =>
        simp only [hc, Option.map_some, Option.some.injEq] at hj hu
        subst hj hu
        exact .int _ _
    · simp only [List.mem_map] at hu
      obtain ⟨y, _, rfl⟩ := hu
      rfl
  | _ => simp [srcOf] at he

/-! ### The three ways of an append -/

section ways
variable {P : Program} {t tx e : TypeId} {i : TypeInfo} {d' : TypeDesc}

theorem append_stays (ht : P.underlying t = some (.slice e)) (htx : P.underlying tx = some d') (hni : ∀ k, d' ≠ .int k) (hi : P.info? e = some i) {ty : TypeId} {a : Option Addr} {ux : Value} {news : List Value} {w : World}
    (hs : SrcRun P i.size 0 ux news w) : (Builtin.append_ #[t, tx] ty #[.slice a 0 0, ux]).run P w = .ok (.slice a 0 0) w := by
  have hc := hs.cells w rfl 0 (Nat.le_refl _)
  simp only [Nat.zero_mul, List.take_zero] at hc
  cases a <;> simp [Builtin.append_, run_underlying ht, run_underlying htx, sizeOf, typeInfo, hi, hs.len w, hc, storeCells]

theorem append_in (ht : P.underlying t = some (.slice e)) (htx : P.underlying tx = some d') (hni : ∀ k, d' ≠ .int k) (hi : P.info? e = some i) {ty : TypeId} {k n cap m : Nat} {ux : Value} {news : List Value} {w : World} {cur : Array Value} {et : TypeId}
    (hs : SrcRun P i.size m ux news w) (hl : news.length = m * i.size) (hone : ∀ u ∈ news, u.oneCell' = true) (hk : w.heap[k]? = some (.cells cur et (0, 0))) (hroom : n + m ≤ cap) (hfit : n * i.size + news.length ≤ cur.size) :
    (Builtin.append_ #[t, tx] ty #[.slice (some ⟨k, 0, none⟩) n cap, ux]).run P w = .ok (.slice (some ⟨k, 0, none⟩) (n + m) cap) (w.setRow k (newRowOf cur (n * i.size) news)) := by
  have hc := hs.cells w rfl m (Nat.le_refl _)
  rw [List.take_of_length_le (by omega)] at hc
  have hst := run_storeCells_at P k (n * i.size) et news 0 cur w hk (by simpa using hfit) hone
  simp only [Nat.add_zero] at hst
  simp [Builtin.append_, run_underlying ht, run_underlying htx, sizeOf, typeInfo, hi, hs.len w, hc, hroom, Addr.add_lit, hst, newRowOf]

theorem append_grows (ht : P.underlying t = some (.slice e)) (htx : P.underlying tx = some d') (hni : ∀ k, d' ≠ .int k) (hi : P.info? e = some i) {z : Value} (hz0 : i.zero = some z) {ty : TypeId} {a : Option Addr} {n cap m : Nat} {ux : Value} {olds news : List Value} {w : World}
    (hs : SrcRun P i.size m ux news w) (hl : news.length = m * i.size) (ho : SrcRun P i.size n (.slice a n cap) olds w) (hol : olds.length = n * i.size) (hg : cap < n + m) (hb : n + m ≤ bound) (hby : i.bytes ≤ boundB) :
    (Builtin.append_ #[t, tx] ty #[.slice a n cap, ux]).run P w = .ok (.slice (some ⟨w.heap.size, 0, none⟩) (n + m) (grownCap w (n + m) cap e))
        (w.drew.alloc (.cells ((olds ++ news).toArray ++ Builtin.zeroCells z.cells (grownCap w (n + m) cap e - (n + m))) e)) := by
  have hc := hs.cells w.drew rfl m (Nat.le_refl _)
  rw [List.take_of_length_le (by omega)] at hc
  have hco := ho.cells w.drew rfl n (Nat.le_refl _)
  rw [List.take_of_length_le (by omega)] at hco
  have hn : ¬ (n + m ≤ cap) := by omega
  have h63' : ¬ (9223372036854775807 < ((n : Int) + (m : Int))) := by simp only [bound] at hb; omega
  have h48 : (n + m) * i.bytes ≤ 140737488355328 := by
    have := Nat.mul_le_mul hb hby
    simp only [bound, boundB] at this
    omega
  have h48' : ¬ (281474976710656 < Builtin.nextslicecap (n + m) cap * i.bytes) := by have := growslice_fits hg h48; omega
  by_cases hbz : i.bytes = 0
  · simp [Builtin.append_, run_underlying ht, run_underlying htx, sizeOf, typeInfo, zeroValue, hi, hz0, hs.len w, hn, h63', h48', Question.forced, hc, hco, newRow, grownCap, IntKind.max, IntKind.signed, IntKind.bits]
    congr 2; apply Array.ext'; simp
  · simp [Builtin.append_, run_underlying ht, run_underlying htx, sizeOf, typeInfo, zeroValue, hi, hz0, hs.len w, hn, h63', h48', Question.forced, hc, hco, newRow, grownCap, hbz]
    congr 2; apply Array.ext'; simp

end ways

end Go.Pv

/- Operations: append and copy, put together. -/
namespace Go.Pv
open Go Go.RowKit

theorem get_lt {h : Heap} {b : Nat} {B : Blk} (hB : h[b]? = some B) : b < h.length := length_of_get hB

/-- A row that has grown where it lay. -/
theorem Inv.regrow {g : G} {base : Nat} {h : Heap} {w : World} (hI : Inv g base h w) {b : Nat} {B : Blk} {k : Nat} {cur : Array Value} {ty : TypeId}
    (hB : h[b]? = some B) (hst : B.st < 2) (hbx : B.box = false) (hes : 0 < B.es) (hl : g.loc b = some k) (hat : BlkAt g base w b B k cur ty) (p : Nat) (hp : p ≤ B.cells.length) (hfull : B.st ≠ 0 → p = B.cells.length)
    (new : List V) (news : List Value) (hnl : news.length = new.length) (hfit : p + news.length ≤ cur.size) (hrep : ∀ (j : Nat) (c : V) (u : Value), new[j]? = some c → news[j]? = some u → RepD g.F u c)
    (hone : ∀ u ∈ news, u.oneCell' = true) (cnt : Nat) (hcnt : p + new.length = cnt * B.es) :
    ∃ g', Inv g' base (h.set b { B with st := 3 } ++ [⟨B.cells.take p ++ new, B.es, B.st, false⟩]) (w.setRow k (newRowOf cur p news)) ∧ g.le g' ∧
      h.length < g'.n ∧ g'.loc h.length = some k ∧ g'.cnt h.length = cnt ∧ g'.es h.length = B.es ∧ g'.sz h.length = cur.size ∧ Below base w (w.setRow k (newRowOf cur p news)) := by
  have hbl := get_lt hB
  have hcz : (newRowOf cur p news).size = cur.size := row_size cur p news hfit
  have hcg : ∀ j, (newRowOf cur p news)[j]? = if p ≤ j ∧ j < p + news.length then news[j - p]? else cur[j]? := row_get cur p news hfit
  let F' : Fz := fun x o => if x = k ∧ B.st ≠ 0 then (if o < p + new.length then (newRowOf cur p news)[o]? else none) else g.F x o
  have hF1 : ∀ x, x ≠ k → ∀ o, F' x o = g.F x o := fun x hx o => if_neg (fun h => hx h.1)
  have hF2 : B.st = 0 → ∀ x o, F' x o = g.F x o := fun h0 x o => if_neg (fun h => h.2 h0)
  have hF3 : B.st ≠ 0 → ∀ o, F' k o = if o < p + new.length then (newRowOf cur p news)[o]? else none := fun h0 o => if_pos ⟨rfl, h0⟩
  have hFle : Fz.le g.F F' := by
    intro x o u hu
    by_cases hx : x = k
    · subst hx
      by_cases h0 : B.st = 0
      · rw [hF2 h0]; exact hu
      · have hlt : o < B.cells.length := by
          rcases Nat.lt_or_ge o B.cells.length with h' | h'
          · exact h'
          · rw [hat.spare o h'] at hu; cases hu
        have hpe := hfull h0
        rw [hF3 h0, if_pos (by omega), hcg, if_neg (by omega)]
        rw [hat.frozen (by omega) o hlt] at hu
        exact hu
    · rw [hF1 x hx]; exact hu
  let g' : G := { g.add (some k) B.es cnt cur.size with F := F' }
  have hgle : g.le g' := ⟨hFle, rfl, (g.le_add (some k) B.es cnt cur.size).n, (g.le_add (some k) B.es cnt cur.size).loc, (g.le_add (some k) B.es cnt cur.size).es, (g.le_add (some k) B.es cnt cur.size).cnt, (g.le_add (some k) B.es cnt cur.size).sz⟩
  have hloc : g'.loc g.n = some k := G.add_loc g (some k) B.es cnt cur.size
  have hold : ∀ (x : Nat) (X : Blk), (h.set b { B with st := 3 })[x]? = some X → X.st < 3 → x ≠ b ∧ h[x]? = some X := by
    intro x X hx hs
    by_cases e : b = x
    · subst e
      rw [List.getElem?_set_self hbl] at hx
      obtain rfl := Option.some.inj hx
      exact absurd hs (by simp)
    · rw [List.getElem?_set_ne e] at hx
      exact ⟨fun e' => e e'.symm, hx⟩
  have hne : ∀ (x : Nat) (X : Blk), x ≠ b → h[x]? = some X → X.st < 3 → ∀ k', g.loc x = some k' → k' ≠ k := by
    intro x X hxb hx hs k' hk' e
    subst e
    exact hI.apart b x B X k' hB hx (by omega) hs (Ne.symm hxb) hl hk'
  have hlen : (h.set b { B with st := 3 }).length = h.length := by simp
  refine ⟨g', ⟨fun x o u hu => ?_, ?_, fun x X hx hs => ?_, fun x y X Y j hx hy hsx hsy hxy hlx => ?_, by rw [setRow_size]; exact hI.base, fun x o u hu => ?_, fun x o hx => (hF1 x (by have := hat.base; omega) o).trans (hI.old x o hx)⟩, hgle, ?_, ?_, ?_, ?_, ?_, ?_⟩
  · have hu' : F' x o = some u := hu
    by_cases hx : x = k
    · subst hx
      by_cases h0 : B.st = 0
      · rw [hF2 h0, hat.live h0] at hu'; cases hu'
      · rw [hF3 h0] at hu'
        split at hu'
        · rw [cell_at (by rw [heap_setRow hat.at_, if_pos rfl])]; exact hu'
        · cases hu'
    · rw [hF1 x hx] at hu'
      rw [← hI.F x o u hu']
      exact World.cell?_of_block (by rw [heap_setRow hat.at_, if_neg hx])
  · show g.n + 1 = _
    simp [hI.n]
  · rcases getElem?_append_new hx with ⟨hlt, hx1⟩ | ⟨rfl, rfl⟩
    · obtain ⟨hxb, hx2⟩ := hold x X hx1 hs
      have hok := (hI.blk x X hx2 hs).mono hgle (by rw [hI.n]; exact get_lt hx2) (fun k' hk' o => hF1 k' (hne x X hxb hx2 hs k' hk') o)
      refine ⟨hok.row, hok.none_, fun k' hk' => ?_⟩
      obtain ⟨cur', ty', hat'⟩ := hok.place k' hk'
      have hk'' : g.loc x = some k' := by rw [← hgle.loc x (by rw [hI.n]; exact get_lt hx2)]; exact hk'
      exact ⟨cur', ty', { hat' with at_ := by rw [heap_setRow hat.at_, if_neg (hne x X hxb hx2 hs k' hk'')]; exact hat'.at_ }⟩
    · rw [hlen, ← hI.n]
      refine ⟨fun _ => ⟨?_, ?_, hes⟩, fun hn => ?_, fun k' hk' => ?_⟩
      · show _ = (g.add (some k) B.es cnt cur.size).cnt g.n * _
        rw [G.add_cnt]
        simp only [List.length_append, List.length_take]
        rw [Nat.min_eq_left hp]; exact hcnt
      · show _ = (g.add (some k) B.es cnt cur.size).es g.n
        rw [G.add_es]
      · rw [hloc] at hn; cases hn
      · rw [hloc] at hk'
        obtain rfl := Option.some.inj hk'
        have hNl : (B.cells.take p ++ new).length = p + new.length := by simp only [List.length_append, List.length_take]; rw [Nat.min_eq_left hp]
        refine ⟨newRowOf cur p news, ty, { base := hat.base, at_ := by rw [heap_setRow hat.at_, if_pos rfl], len := ?_, box := fun hx => (by cases hx), row := fun _ j c u hc hu => ?_,
                                           live := fun h0 o => ?_, frozen := fun h0 o ho => ?_, spare := fun o ho => ?_, size := ?_, one := fun j u hj hu => ?_ }⟩
        · simp only; rw [hNl, hcz, ← hnl]; exact hfit
        · have hc' : (B.cells.take p ++ new)[j]? = some c := hc
          rw [hcg] at hu
          rw [List.getElem?_append, List.length_take, Nat.min_eq_left hp] at hc'
          by_cases hjp : j < p
          · rw [if_pos hjp, List.getElem?_take, if_pos hjp] at hc'
            rw [if_neg (by omega)] at hu
            exact (hat.row hbx j c u hc' hu).mono hFle
          · rw [if_neg hjp] at hc'
            have := length_of_get hc'
            rw [if_pos (by omega)] at hu
            exact (hrep _ c u hc' hu).mono hFle
        · show F' k o = none
          rw [hF2 h0]; exact hat.live h0 o
        · have ho' : o < (B.cells.take p ++ new).length := ho
          rw [hNl] at ho'
          show F' k o = _
          have h0' : B.st ≠ 0 := by have : 0 < B.st := h0; omega
          rw [hF3 h0', if_pos ho']
        · have ho' : (B.cells.take p ++ new).length ≤ o := ho
          rw [hNl] at ho'
          show F' k o = none
          by_cases h0 : B.st = 0
          · rw [hF2 h0]; exact hat.live h0 o
          · rw [hF3 h0, if_neg (by omega)]
        · show _ = (g.add (some k) B.es cnt cur.size).sz g.n
          rw [G.add_sz, hcz]
        · have hj' : j < (B.cells.take p ++ new).length := hj
          rw [hNl] at hj'
          rw [hcg] at hu
          split at hu
          · exact hone u (List.mem_of_getElem? hu)
          · exact hat.one j u (by omega) hu
  · rcases getElem?_append_new hx with ⟨hlt, hx1⟩ | ⟨rfl, rfl⟩
    · obtain ⟨hxb, hx2⟩ := hold x X hx1 hsx
      rw [hgle.loc x (by rw [hI.n]; exact get_lt hx2)] at hlx
      rcases getElem?_append_new hy with ⟨hlt', hy1⟩ | ⟨rfl, rfl⟩
      · obtain ⟨hyb, hy2⟩ := hold y Y hy1 hsy
        rw [hgle.loc y (by rw [hI.n]; exact get_lt hy2)]
        exact hI.apart x y X Y j hx2 hy2 hsx hsy hxy hlx
      · rw [hlen, ← hI.n, hloc]
        intro e
        exact hne x X hxb hx2 hsx j hlx (Option.some.inj e).symm
    · rw [hlen, ← hI.n, hloc] at hlx
      obtain rfl := Option.some.inj hlx
      rcases getElem?_append_new hy with ⟨hlt', hy1⟩ | ⟨rfl, rfl⟩
      · obtain ⟨hyb, hy2⟩ := hold y Y hy1 hsy
        rw [hgle.loc y (by rw [hI.n]; exact get_lt hy2)]
        intro e
        exact hne y Y hyb hy2 hsy _ e rfl
      · exact absurd rfl hxy
  · have hu' : F' x o = some u := hu
    by_cases hx : x = k
    · subst hx
      by_cases h0 : B.st = 0
      · rw [hF2 h0, hat.live h0] at hu'; cases hu'
      · rw [hF3 h0] at hu'
        split at hu'
        · rename_i ho
          rw [hcg] at hu'
          split at hu'
          · exact hone u (List.mem_of_getElem? hu')
          · exact hat.one o u (by omega) hu'
        · cases hu'
    · rw [hF1 x hx] at hu'
      exact hI.one x o u hu'
  · show h.length < g.n + 1
    rw [hI.n]; omega
  · rw [← hI.n]; exact hloc
  · rw [← hI.n]; exact G.add_cnt g (some k) B.es cnt cur.size
  · rw [← hI.n]; exact G.add_es g (some k) B.es cnt cur.size
  · rw [← hI.n]; exact G.add_sz g (some k) B.es cnt cur.size
  · refine ⟨by simp, by simp, by simp, by simp, fun j hj => ?_⟩
    rw [heap_setRow hat.at_, if_neg (by have := hat.base; omega)]

/-- A block that is gone. -/
theorem Inv.gone {g : G} {base : Nat} {h : Heap} {w : World} (hI : Inv g base h w) {b : Nat} {B : Blk} (hB : h[b]? = some B) : Inv g base (h.set b { B with st := 3 }) w := by
  have hbl := get_lt hB
  have hold : ∀ (x : Nat) (X : Blk), (h.set b { B with st := 3 })[x]? = some X → X.st < 3 → h[x]? = some X := by
    intro x X hx hs
    by_cases e : b = x
    · subst e
      rw [List.getElem?_set_self hbl] at hx
      obtain rfl := Option.some.inj hx
      exact absurd hs (by simp)
    · rwa [List.getElem?_set_ne e] at hx
  exact ⟨hI.F, by simp [hI.n], fun x X hx hs => hI.blk x X (hold x X hx hs) hs, fun x y X Y j hx hy hsx hsy => hI.apart x y X Y j (hold x X hx hsx) (hold y Y hy hsy) hsx hsy, hI.base, hI.one, hI.old⟩

/-- A row without a place: nothing in it. -/
theorem Inv.pushNone {g : G} {base : Nat} {h : Heap} {w : World} (hI : Inv g base h w) (es st : Nat) (hes : 0 < es) : Inv (g.add none es 0 0) base (h ++ [⟨[], es, st, false⟩]) w :=
  hI.push (Later.refl w) ⟨[], es, st, false⟩ none es 0 0 (fun _ => ⟨fun _ => ⟨by rw [G.add_cnt]; simp, by rw [G.add_es], hes⟩, fun _ => ⟨rfl, rfl⟩, fun k hk => by rw [G.add_loc] at hk; cases hk⟩) (fun k' e => by cases e)

theorem later_drew_alloc (w : World) (o : Obj) : Later w (w.drew.alloc o) := ⟨by simp, fun k hk => heap_alloc_old w.drew o hk⟩
theorem below_drew_alloc {base : Nat} {w : World} (hb : base ≤ w.heap.size) (o : Obj) : Below base w (w.drew.alloc o) := ((Below.refl base w).drew).alloc hb o

/-- A row that has grown elsewhere. -/
theorem Inv.grownNew {g : G} {base : Nat} {h : Heap} {w : World} (hI : Inv g base h w) (cells : List V) (es cnt : Nat) (hes : 0 < es) (hcnt : cells.length = cnt * es) (us : List Value) (hul : us.length = cells.length)
    (hrep : ∀ (j : Nat) (c : V) (u : Value), cells[j]? = some c → us[j]? = some u → RepD g.F u c) (hone : ∀ u ∈ us, u.oneCell' = true) (rest : Array Value) (ty : TypeId) :
    Inv (g.add (some w.heap.size) es cnt (us.toArray ++ rest).size) base (h ++ [⟨cells, es, 0, false⟩]) (w.drew.alloc (.cells (us.toArray ++ rest) ty)) := by
  have hget : ∀ (j : Nat) (u : Value), j < cells.length → (us.toArray ++ rest)[j]? = some u → us[j]? = some u := by
    intro j u hj hu
    rw [Array.getElem?_append, if_pos (by simp; omega)] at hu
    simpa using hu
  refine hI.newBlk (later_drew_alloc w _) (Nat.le_refl _) (us.toArray ++ rest) ty (heap_alloc_new w.drew _) ⟨cells, es, 0, false⟩ rfl es cnt (by simp; omega) (fun _ => ⟨hcnt, rfl, hes⟩) (fun hx => by cases hx)
    (fun _ j c u hj hu => hrep j c u hj (hget j u (length_of_get hj) hu)) (fun j u hj hu => hone u (List.mem_of_getElem? (hget j u hj hu)))

/-- The old cells of an own row. -/
theorem oldRow {P : Program} {g : G} {base : Nat} {h : Heap} {w : World} (hI : Inv g base h w) {b : Nat} {B : Blk} {k n cap q : Nat} (hB : h[b]? = some B) (hst : B.st < 3) (hbx : B.box = false) (hl : g.loc b = some k) (hq : q ≤ B.cells.length) (hqn : q = n * B.es) :
    ∃ olds, SrcRun P B.es n (.slice (some ⟨k, 0, none⟩) n cap) olds w ∧ olds.length = q ∧ (∀ (j : Nat) (c : V) (u : Value), (B.cells.take q)[j]? = some c → olds[j]? = some u → RepD g.F u c) ∧ ∀ u ∈ olds, u.oneCell' = true := by
  obtain ⟨cur, ty, hat⟩ := (hI.blk b B hB hst).place k hl
  refine ⟨(List.range q).map fun j => cur.getD j undef, srcRun_slice _ (by simp [hqn]) (fun j u hj => ?_), by simp, fun j c u hj hu => ?_, fun u hu => ?_⟩
  · obtain ⟨h1, rfl⟩ := list_of_fun_get hj
    rw [Nat.zero_add, cell_at hat.at_]
    have hlt : j < cur.size := Nat.lt_of_lt_of_le (Nat.lt_of_lt_of_le h1 hq) hat.len
    simp [Array.getElem?_eq_getElem hlt]
  · obtain ⟨h1, rfl⟩ := list_of_fun_get hu
    rw [List.getElem?_take, if_pos h1] at hj
    have hlt : j < cur.size := Nat.lt_of_lt_of_le (Nat.lt_of_lt_of_le h1 hq) hat.len
    exact hat.row hbx j c _ hj (by simp [Array.getElem?_eq_getElem hlt])
  · obtain ⟨j, hj⟩ := List.mem_iff_getElem?.1 hu
    obtain ⟨h1, rfl⟩ := list_of_fun_get hj
    have hlt : j < cur.size := Nat.lt_of_lt_of_le (Nat.lt_of_lt_of_le h1 hq) hat.len
    exact hat.one j _ (Nat.lt_of_lt_of_le h1 hq) (by simp [Array.getElem?_eq_getElem hlt])

theorem zeroCells_size (z : Array Value) (n : Nat) : (Builtin.zeroCells z n).size = n * z.size := by simp [Builtin.zeroCells]

theorem ofValue_len (u : Value) : (ofValue u).cells.length = u.cells.size := by
  cases u with
  | agg cs => simp [ofValue, V.cells, Value.cells]
  | _ =>
    have h1 : ∀ v : Value, (cellOf v).cells = [cellOf v] := by
      intro v
      unfold cellOf
      split <;> first | rfl | (split <;> rfl)
    simp only [ofValue, h1]; rfl

theorem zero_len {P : Program} {e : TypeId} {z : V} {i : TypeInfo} {zv : Value} (hz : zeroOf P e = some z) (hi : P.info? e = some i) (hiz : i.zero = some zv) : z.cells.length = zv.cells.size := by
  unfold zeroOf at hz
  simp only [hi, hiz, Option.some.injEq] at hz
  rw [← hz]; exact ofValue_len zv

theorem appendC_ok {P : Program} {base : Nat} {ts : Array TypeId} {ty : TypeId} {us : Array Value} {g : G} {h : Heap} {w : World} {s x : V} {vs vx : Value} {K : Kont} {r : Res}
    (hI : Inv g base h w) (hs : Rep g vs s) (hx : Rep g vx x) (hus : us = #[vs, vx]) (he : appendC P ts.toList s x h K = some r) : SemOk P base (Builtin.append_ ts ty us) g w K r := by
  subst hus
  unfold appendC at he
  split at he
  case h_2 => cases he
  rename_i t tx hts
  have hts' : ts = #[t, tx] := Array.ext' hts
  subst hts'
  cases hd : P.underlying t with
  | none => simp [hd] at he
  | some d =>
    simp only [hd] at he
    cases d with
    | slice e =>
      simp only at he
      split at he
      case isFalse => cases he
      rename_i hcd
      obtain ⟨hby, hes0, htx, hoz⟩ := hcd
      unfold notIntT at htx
      unfold okZero at hoz
      obtain ⟨d', hdx, hni⟩ : ∃ d', P.underlying tx = some d' ∧ ∀ k, d' ≠ .int k := by
        cases hdx : P.underlying tx with
        | none => simp [hdx] at htx
        | some d' => exact ⟨d', rfl, fun k e => by subst e; simp [hdx] at htx⟩
      obtain ⟨i, hi⟩ : ∃ i, P.info? e = some i := by
        cases hi : P.info? e with
        | none => simp [Program.cellsOf, hi] at hes0
        | some i => exact ⟨i, rfl⟩
      have hsz : P.cellsOf e = i.size := by simp [Program.cellsOf, hi]
      have hbyi : i.bytes ≤ boundB := by simpa [Program.bytesOf, hi] using hby
      cases hsrc : srcOf h x with
      | none => simp [hsrc] at he
      | some mn =>
        obtain ⟨m, new⟩ := mn
        simp only [hsrc] at he
        obtain ⟨hlen, he⟩ := cond_some he
        have hlen : new.length = m * P.cellsOf e := by simpa using hlen
        cases hz : zeroOf P e with
        | none => simp [hz] at hoz
        | some z =>
        simp only [hz, beq_iff_eq] at hoz
        obtain ⟨zv, _, _, i', hi', hiz⟩ := zeroOf_run hz w
        rw [hi] at hi'
        obtain rfl := Option.some.inj hi'
        obtain ⟨news, hsr, hnl, hnr, hno⟩ := srcOf_ok (P := P) (size := P.cellsOf e) hI hx hsrc hlen
        have hes : 0 < P.cellsOf e := by omega
        rw [hsz] at hsr
        have hnli : news.length = m * i.size := by rw [hnl, hlen, hsz]
        -- grown elsewhere: the old cells, the old block gone or none
        have grow : ∀ (h1 : Heap), Inv g base h1 w → h1.length = h.length → ∀ (a : Option Addr) (n cap : Nat) (oc : List V) (olds : List Value), SrcRun P i.size n (.slice a n cap) olds w → olds.length = oc.length → oc.length = n * P.cellsOf e →
            (∀ (j : Nat) (c : V) (u : Value), oc[j]? = some c → olds[j]? = some u → RepD g.F u c) → (∀ u ∈ olds, u.oneCell' = true) → cap < n + m → n + m ≤ bound → ∀ st, st < 2 → K (.own h.length (n + m)) (h1 ++ [⟨oc ++ new, P.cellsOf e, st, false⟩]) = some r →
            SemOk P base (Builtin.append_ #[t, tx] ty #[.slice a n cap, vx]) g w K r := by
          intro h1 hI1 hl1 a n cap oc olds ho hol hoc hor hoo hg hb st hst2 hK
          have hrun := append_grows (ty := ty) hd hdx hni hi hiz hsr hnli ho (by rw [hol, hoc, hsz]) hg hb hbyi
          have hI2 := hI1.grownNew (oc ++ new) (P.cellsOf e) (n + m) hes (by rw [List.length_append, hoc, hlen, Nat.add_mul]) (olds ++ news) (by rw [List.length_append, List.length_append, hol, hnl])
            (fun j c u hj hu => by
              rw [List.getElem?_append] at hj hu
              rw [hol] at hu
              split at hj
              · rename_i hlt; rw [if_pos hlt] at hu; exact hor j c u hj hu
              · rename_i hlt; rw [if_neg hlt] at hu; exact hnr _ c u hj hu)
            (fun u hu => by rcases List.mem_append.1 hu with hu | hu; exact hoo u hu; exact hno u hu)
            (Builtin.zeroCells zv.cells (grownCap w (n + m) cap e - (n + m))) e
          have hrep : Rep (g.add (some w.heap.size) (P.cellsOf e) (n + m) ((olds ++ news).toArray ++ Builtin.zeroCells zv.cells (grownCap w (n + m) cap e - (n + m))).size) (.slice (some ⟨w.heap.size, 0, none⟩) (n + m) (grownCap w (n + m) cap e)) (.own h.length (n + m)) := by
            rw [← hl1, ← hI1.n]
            refine .own _ _ _ _ (by simp [G.add]) (G.add_loc _ _ _ _ _) (grownCap_ge w _ _ _) (G.add_cnt _ _ _ _ _) ?_
            rw [G.add_es, G.add_sz]
            have hzs : zv.cells.size = P.cellsOf e := by rw [← hoz, zero_len hz hi hiz]
            simp only [Array.size_append, List.size_toArray, List.length_append, hol, hoc, hnl, hlen, zeroCells_size, hzs, ← Nat.add_mul]
            have := grownCap_ge w (n + m) cap e
            refine Nat.mul_le_mul_right _ ?_
            omega
          by_cases hst0 : st = 0
          · subst hst0
            exact ⟨_, _, _, _, _, hrun, hrep, hI2, g.le_add _ _ _ _, below_drew_alloc hI.base _, hK⟩
          · obtain rfl : st = 1 := by omega
            obtain ⟨g3, hI3, hle3, _⟩ := mark1_ok hI2 h1.length
            have hmk : mark1 (h1 ++ [⟨oc ++ new, P.cellsOf e, 0, false⟩]) h1.length = h1 ++ [⟨oc ++ new, P.cellsOf e, 1, false⟩] := by
              unfold mark1
              simp
            rw [hmk] at hI3
            exact ⟨_, _, _, _, _, hrun, hrep.mono hle3, hI3, G.le_trans (g.le_add _ _ _ _) hle3, below_drew_alloc hI.base _, hK⟩
        cases s with
        | nils =>
          simp only at he
          obtain ⟨hb, hK⟩ := cond_some he
          have hb : m ≤ bound := by simpa using hb
          obtain ⟨a, rfl⟩ := hs.inv_nils
          by_cases hm : m = 0
          · subst hm
            have hn0 : new = [] := List.eq_nil_of_length_eq_zero (by simpa using hlen)
            subst hn0
            have hrun := append_stays (ty := ty) (a := a) hd hdx hni hi hsr
            refine ⟨_, w, _, _, _, hrun, ?_, hI.pushNone (P.cellsOf e) 0 hes, g.le_add _ _ _ _, Below.refl _ _, hK⟩
            rw [← hI.n]
            exact .own0 _ a (by simp [G.add]) (G.add_cnt _ _ _ _ _)
          · have := grow h hI rfl a 0 0 [] [] (srcRun_empty a) rfl (by simp) (fun j c u hj => by simp at hj) (fun u hu => by cases hu) (by omega) (by omega) 0 (by omega) (by simpa using hK)
            simpa using this
        | own b n =>
          simp only at he
          cases hB : h[b]? with
          | none => simp [hB] at he
          | some B =>
            simp only [hB] at he
            split at he
            · cases he
            rename_i hc
            simp only [Bool.or_eq_true, decide_eq_true_eq, not_or, Bool.not_eq_true, bne_eq_false_iff_eq] at hc
            obtain ⟨⟨hbx, hst⟩, hBes⟩ := hc
            obtain ⟨hb, hK⟩ := cond_some he
            have hb : n + m ≤ bound := by simpa using hb
            obtain ⟨hbn, hcnt, hf⟩ := hs.inv_own
            have hrow := (hI.blk b B hB (by omega)).row hbx
            have hcl : B.cells.length = n * P.cellsOf e := by rw [hrow.1, hcnt, hBes]
            rcases hf with ⟨rfl, a, rfl⟩ | ⟨k, cap, hl, rfl, hnc, hcz⟩
            · have hBn : B.cells = [] := List.eq_nil_of_length_eq_zero (by rw [hcl]; simp)
              by_cases hm : m = 0
              · subst hm
                have hn0 : new = [] := List.eq_nil_of_length_eq_zero (by simpa using hlen)
                subst hn0
                have hrun := append_stays (ty := ty) (a := a) hd hdx hni hi hsr
                have hI2 := (hI.gone hB).pushNone B.es B.st hrow.2.2
                rw [hBn] at hK hI2
                refine ⟨_, w, _, _, _, hrun, ?_, hI2, g.le_add _ _ _ _, Below.refl _ _, hK⟩
                rw [← hI.n]
                exact .own0 _ a (by simp [G.add]) (G.add_cnt _ _ _ _ _)
              · have hG := hI.gone hB
                rw [hBn, hBes] at hK hG
                exact grow _ hG (by simp) a 0 0 [] [] (srcRun_empty a) rfl (by simp) (fun j c u hj => by simp at hj) (fun u hu => by cases hu) (by omega) hb B.st (by omega) hK
            · obtain ⟨cur, ety, hat⟩ := (hI.blk b B hB (by omega)).place k hl
              by_cases hroom : n + m ≤ cap
              · have hfit : B.cells.length + news.length ≤ cur.size := by
                  rw [hcl, hnl, hlen, ← Nat.add_mul, hat.size]
                  refine Nat.le_trans (Nat.mul_le_mul_right _ hroom) ?_
                  rw [← hBes, hrow.2.1]; exact hcz
                have hrun := append_in (ty := ty) (n := n) (cap := cap) hd hdx hni hi hsr hnli hno hat.at_ hroom (by rw [← hsz, ← hcl]; exact hfit)
                obtain ⟨g', hI2, hle, h1, h2, h3, h4, h5, hbl⟩ := hI.regrow hB (by omega) hbx hrow.2.2 hl hat B.cells.length (Nat.le_refl _) (fun _ => rfl) new news hnl hfit hnr hno (n + m) (by rw [hcl, hlen, hBes, Nat.add_mul])
                rw [List.take_length] at hI2
                rw [← hsz, ← hcl] at hrun
                refine ⟨_, _, g', _, _, hrun, ?_, hI2, hle, hbl, hK⟩
                refine .own _ _ _ _ h1 h2 hroom h3 ?_
                rw [h4, h5, hat.size, hrow.2.1]; exact hcz
              · obtain ⟨olds, ho, hol, hor, hoo⟩ := oldRow (P := P) (cap := cap) hI hB (by omega) hbx hl (Nat.le_refl _) (n := n) (by rw [hcl, hBes])
                rw [List.take_length] at hor
                have hG := hI.gone hB
                rw [hBes] at hK hG
                rw [hBes, hsz] at ho
                exact grow _ hG (by simp) _ n cap B.cells olds ho hol hcl hor hoo (by omega) hb B.st (by omega) hK
        | ref b off n =>
          simp only at he
          cases hB : h[b]? with
          | none => simp [hB] at he
          | some B =>
            simp only [hB] at he
            split at he
            · cases he
            rename_i hc
            simp only [Bool.or_eq_true, decide_eq_true_eq, not_or, Bool.not_eq_true, bne_eq_false_iff_eq] at hc
            obtain ⟨⟨⟨hbx, hst⟩, hoff⟩, hBes⟩ := hc
            obtain ⟨hb, hK⟩ := cond_some he
            have hb : n + m ≤ bound := by simpa using hb
            clear he
            obtain rfl : off = 0 := by omega
            have hst0 : B.st = 0 := by omega
            obtain ⟨hbn, hcnt, hf⟩ := hs.inv_ref
            have hrow := (hI.blk b B hB (by omega)).row hbx
            have hpl : n * B.es ≤ B.cells.length := by rw [hrow.1, hrow.2.1]; omega
            rcases hf with ⟨rfl, a, rfl⟩ | ⟨k, cap, hl, rfl, hnc, hcz⟩
            · simp only [Nat.zero_mul, List.take_zero] at hK
              by_cases hm : m = 0
              · subst hm
                have hn0 : new = [] := List.eq_nil_of_length_eq_zero (by simpa using hlen)
                subst hn0
                have hrun := append_stays (ty := ty) (a := a) hd hdx hni hi hsr
                have hI2 := (hI.gone hB).pushNone B.es 0 hrow.2.2
                refine ⟨_, w, _, _, _, hrun, ?_, hI2, g.le_add _ _ _ _, Below.refl _ _, hK⟩
                rw [← hI.n]
                exact .own0 _ a (by simp [G.add]) (G.add_cnt _ _ _ _ _)
              · have hG := hI.gone hB
                rw [hBes] at hK hG
                exact grow _ hG (by simp) a 0 0 [] [] (srcRun_empty a) rfl (by simp) (fun j c u hj => by simp at hj) (fun u hu => by cases hu) (by omega) hb 0 (by omega) hK
            · obtain ⟨cur, ety, hat⟩ := (hI.blk b B hB (by omega)).place k hl
              by_cases hroom : n + m ≤ cap
              · have hfit : n * B.es + news.length ≤ cur.size := by
                  rw [hnl, hlen, ← hBes, ← Nat.add_mul, hat.size]
                  refine Nat.le_trans (Nat.mul_le_mul_right _ hroom) ?_
                  rw [hrow.2.1]; omega
                have hrun := append_in (ty := ty) (n := n) (cap := cap) hd hdx hni hi hsr hnli hno hat.at_ hroom (by rw [← hsz, ← hBes]; exact hfit)
                obtain ⟨g', hI2, hle, h1, h2, h3, h4, h5, hbl⟩ := hI.regrow hB (by omega) hbx hrow.2.2 hl hat (n * B.es) hpl (fun h => absurd hst0 h) new news hnl hfit hnr hno (n + m) (by rw [hlen, ← hBes, Nat.add_mul])
                rw [← hsz, ← hBes] at hrun
                rw [hst0] at hI2
                refine ⟨_, _, g', _, _, hrun, ?_, hI2, hle, hbl, hK⟩
                refine .own _ _ _ _ h1 h2 hroom h3 ?_
                rw [h4, h5, hat.size, hrow.2.1]; omega
              · obtain ⟨olds, ho, hol, hor, hoo⟩ := oldRow (P := P) (cap := cap) hI hB (by omega) hbx hl hpl (n := n) rfl
                have hG := hI.gone hB
                rw [hBes] at hK hol hor ho hG
                rw [hsz] at ho
                exact grow _ hG (by simp) _ n cap (B.cells.take (n * P.cellsOf e)) olds ho (by rw [hol, List.length_take, Nat.min_eq_left (by rw [← hBes]; exact hpl)]) (by rw [List.length_take, Nat.min_eq_left (by rw [← hBes]; exact hpl)]) hor hoo (by omega) hb 0 (by omega) hK
        | _ => simp at he
    | _ => simp at he

end Go.Pv

/- Operations: copy; all of them. -/
namespace Go.Pv
open Go Go.RowKit

theorem copyC_ok {P : Program} {base : Nat} {ts : Array TypeId} {ty : TypeId} {us : Array Value} {g : G} {h : Heap} {w : World} {d x : V} {vd vx : Value} {K : Kont} {r : Res}
    (hI : Inv g base h w) (hd : Rep g vd d) (hx : Rep g vx x) (hus : us = #[vd, vx]) (he : copyC P ts.toList d x h K = some r) : SemOk P base (Builtin.copy_ ts ty us) g w K r := by
  subst hus
  unfold copyC at he
  split at he
  case h_2 => cases he
  rename_i t tx hts
  have hts' : ts = #[t, tx] := Array.ext' hts
  subst hts'
  cases hu : P.underlying t with
  | none => simp [hu] at he
  | some dd =>
    simp only [hu] at he
    cases dd with
    | slice e =>
      simp only at he
      split at he
      · cases he
      rename_i hn
      obtain ⟨i, hi⟩ := Option.isSome_iff_exists.1 (notNone hn)
      have hsz : P.cellsOf e = i.size := by simp [Program.cellsOf, hi]
      cases hsrc : srcOf h x with
      | none => simp [hsrc] at he
      | some mn =>
        obtain ⟨m, new⟩ := mn
        simp only [hsrc] at he
        obtain ⟨hlen, he⟩ := cond_some he
        have hlen : new.length = m * P.cellsOf e := by simpa using hlen
        obtain ⟨news, hsr, hnl, hnr, hno⟩ := srcOf_ok (P := P) (size := P.cellsOf e) hI hx hsrc hlen
        rw [hsz] at hsr
        -- the run
        have run0 : ∀ (a : Option Addr), (Builtin.copy_ #[t, tx] ty #[.slice a 0 0, vx]).run P w = .ok (.int .i64 0) w := by
          intro a
          have hc := hsr.cells w rfl 0 (Nat.zero_le _)
          simp only [Nat.zero_mul, List.take_zero] at hc
          cases a <;> simp [Builtin.copy_, run_underlying hu, sizeOf, typeInfo, hi, hsr.len w, hc, storeCells, goInt]
        cases d with
        | own b n =>
          simp only at he
          cases hB : h[b]? with
          | none => simp [hB] at he
          | some B =>
            simp only [hB] at he
            split at he
            · cases he
            rename_i hc
            simp only [Bool.or_eq_true, decide_eq_true_eq, not_or, Bool.not_eq_true, bne_eq_false_iff_eq] at hc
            obtain ⟨⟨hbx, hst⟩, hBes⟩ := hc
            have hst0 : B.st = 0 := by omega
            obtain ⟨hbn, hcnt, hf⟩ := hd.inv_own
            have hrow := (hI.blk b B hB (by omega)).row hbx
            have hcl : B.cells.length = n * P.cellsOf e := by rw [hrow.1, hcnt, hBes]
            have hq1 : min m n * P.cellsOf e ≤ new.length := by rw [hlen]; exact Nat.mul_le_mul_right _ (Nat.min_le_left _ _)
            have hq2 : min m n * P.cellsOf e ≤ B.cells.length := by rw [hcl]; exact Nat.mul_le_mul_right _ (Nat.min_le_right _ _)
            have hnl2 : (news.take (min m n * P.cellsOf e)).length = min m n * P.cellsOf e := by rw [List.length_take, hnl]; exact Nat.min_eq_left hq1
            rcases hf with ⟨rfl, a, rfl⟩ | ⟨k, cap, hl, rfl, hnc, hcz⟩
            · simp only [Nat.min_zero, Nat.zero_mul, List.take_zero, List.nil_append, List.drop_zero] at he
              have hset : h.set b { B with cells := B.cells } = h := by
                apply List.ext_getElem?
                intro j
                by_cases e' : b = j
                · subst e'; rw [List.getElem?_set_self (get_lt hB), hB]
                · rw [List.getElem?_set_ne e']
              rw [hset] at he
              exact .same (run0 a) (.data _ _ (.int _ _)) hI he
            · obtain ⟨cur, ety, hat⟩ := (hI.blk b B hB (by omega)).place k hl
              have hfit : 0 + (news.take (min m n * P.cellsOf e)).length ≤ cur.size := by
                rw [hnl2]; have := hat.len; omega
              have hcells := hsr.cells w rfl (min m n) (Nat.min_le_left _ _)
              rw [← hsz] at hcells
              have hst' := run_storeCells_at P k 0 ety (news.take (min m n * P.cellsOf e)) 0 cur w hat.at_ (by simpa using hfit) (fun v hv => hno v (List.mem_of_mem_take hv))
              simp only [Nat.add_zero] at hst'
              have hmin : Nat.min m n = min m n := rfl
              have hrun : (Builtin.copy_ #[t, tx] ty #[.slice (some ⟨k, 0, none⟩) n cap, vx]).run P w = .ok (.int .i64 (min m n : Nat)) (w.setRow k (newRowOf cur 0 (news.take (min m n * P.cellsOf e)))) := by
                have hszr : (sizeOf e).run P w = .ok (P.cellsOf e) w := info_cells (by simp [hi]) w
                simp only [Builtin.copy_, List.getElem?_toArray, List.getElem?_cons_zero, List.getElem?_cons_succ, Sem.run_bind, run_underlying hu, Result.andThen_ok, hsr.len w, hszr, hmin, hcells, hst', Sem.run_pure, goInt, newRowOf, List.take_zero, List.nil_append]
              obtain ⟨hI2, hbl⟩ := hI.write (B' := { B with cells := new.take (min m n * P.cellsOf e) ++ B.cells.drop (min m n * P.cellsOf e) }) (new := newRowOf cur 0 (news.take (min m n * P.cellsOf e))) hB hst0 hl hat hst0 rfl rfl
                (by simp only [List.length_append, List.length_take, List.length_drop]; omega) (row_size cur 0 _ hfit) (fun hx => by rw [hbx] at hx; cases hx)
                (fun _ j c u hj hu => by
                  have hj' : (new.take (min m n * P.cellsOf e) ++ B.cells.drop (min m n * P.cellsOf e))[j]? = some c := hj
                  have htl : (new.take (min m n * P.cellsOf e)).length = min m n * P.cellsOf e := by rw [List.length_take]; exact Nat.min_eq_left hq1
                  rw [newRowOf, row_get cur 0 _ hfit, hnl2] at hu
                  rw [List.getElem?_append, htl] at hj'
                  by_cases hjp : j < min m n * P.cellsOf e
                  · rw [if_pos hjp, List.getElem?_take, if_pos hjp] at hj'
                    rw [if_pos (by omega), Nat.sub_zero, List.getElem?_take, if_pos hjp] at hu
                    exact hnr j c u hj' hu
                  · rw [if_neg hjp, List.getElem?_drop] at hj'
                    rw [if_neg (by omega)] at hu
                    rw [show min m n * P.cellsOf e + (j - min m n * P.cellsOf e) = j by omega] at hj'
                    exact hat.row hbx j c u hj' hu)
                (fun j u hj hu => by
                  rw [newRowOf, row_get cur 0 _ hfit] at hu
                  have hj' : j < (new.take (min m n * P.cellsOf e) ++ B.cells.drop (min m n * P.cellsOf e)).length := hj
                  simp only [List.length_append, List.length_take, List.length_drop] at hj'
                  split at hu
                  · exact hno u (List.mem_of_mem_take (List.mem_of_getElem? hu))
                  · exact hat.one j u (by omega) hu)
              exact ⟨_, _, g, _, _, hrun, .data _ _ (.int _ _), hI2, G.le_refl g, hbl, he⟩
        | ref b off n =>
          simp only at he
          cases hB : h[b]? with
          | none => simp [hB] at he
          | some B =>
            simp only [hB] at he
            split at he
            · cases he
            rename_i hc
            simp only [Bool.or_eq_true, decide_eq_true_eq, not_or, Bool.not_eq_true, bne_eq_false_iff_eq] at hc
            obtain ⟨⟨hbx, hst⟩, hBes⟩ := hc
            have hst0 : B.st = 0 := by omega
            obtain ⟨hbn, hcnt, hf⟩ := hd.inv_ref
            have hrow := (hI.blk b B hB (by omega)).row hbx
            rw [← hrow.2.1, ← hrow.1, hBes] at hcnt
            have hq1 : min m n * P.cellsOf e ≤ new.length := by rw [hlen]; exact Nat.mul_le_mul_right _ (Nat.min_le_left _ _)
            have hq2 : off + min m n * P.cellsOf e ≤ B.cells.length := Nat.le_trans (Nat.add_le_add_left (Nat.mul_le_mul_right _ (Nat.min_le_right _ _)) _) hcnt
            have hnl2 : (news.take (min m n * P.cellsOf e)).length = min m n * P.cellsOf e := by rw [List.length_take, hnl]; exact Nat.min_eq_left hq1
            rcases hf with ⟨rfl, a, rfl⟩ | ⟨k, cap, hl, rfl, hnc, hcz⟩
            · simp only [Nat.min_zero, Nat.zero_mul, List.take_zero, List.nil_append, Nat.add_zero, List.take_append_drop] at he
              have hset : h.set b { B with cells := B.cells } = h := by
                apply List.ext_getElem?
                intro j
                by_cases e' : b = j
                · subst e'; rw [List.getElem?_set_self (get_lt hB), hB]
                · rw [List.getElem?_set_ne e']
              rw [hset] at he
              exact .same (run0 a) (.data _ _ (.int _ _)) hI he
            · obtain ⟨cur, ety, hat⟩ := (hI.blk b B hB (by omega)).place k hl
              have hfit : off + (news.take (min m n * P.cellsOf e)).length ≤ cur.size := by
                rw [hnl2]; have := hat.len; omega
              have hcells := hsr.cells w rfl (min m n) (Nat.min_le_left _ _)
              rw [← hsz] at hcells
              have hst' := run_storeCells_at P k off ety (news.take (min m n * P.cellsOf e)) 0 cur w hat.at_ (by simpa using hfit) (fun v hv => hno v (List.mem_of_mem_take hv))
              simp only [Nat.add_zero] at hst'
              have hmin : Nat.min m n = min m n := rfl
              have hrun : (Builtin.copy_ #[t, tx] ty #[.slice (some ⟨k, off, none⟩) n cap, vx]).run P w = .ok (.int .i64 (min m n : Nat)) (w.setRow k (newRowOf cur off (news.take (min m n * P.cellsOf e)))) := by
                have hszr : (sizeOf e).run P w = .ok (P.cellsOf e) w := info_cells (by simp [hi]) w
                simp only [Builtin.copy_, List.getElem?_toArray, List.getElem?_cons_zero, List.getElem?_cons_succ, Sem.run_bind, run_underlying hu, Result.andThen_ok, hsr.len w, hszr, hmin, hcells, hst', Sem.run_pure, goInt, newRowOf]
              have hta : (B.cells.take off).length = off := by rw [List.length_take]; omega
              have htl : (new.take (min m n * P.cellsOf e)).length = min m n * P.cellsOf e := by rw [List.length_take]; exact Nat.min_eq_left hq1
              obtain ⟨hI2, hbl⟩ := hI.write (B' := { B with cells := B.cells.take off ++ (new.take (min m n * P.cellsOf e) ++ B.cells.drop (off + min m n * P.cellsOf e)) }) (new := newRowOf cur off (news.take (min m n * P.cellsOf e))) hB hst0 hl hat hst0 rfl rfl
                (by simp only [List.length_append, hta, htl, List.length_drop]; omega) (row_size cur off _ hfit) (fun hx => by rw [hbx] at hx; cases hx)
                (fun _ j c u hj hu => by
                  have hj' : (B.cells.take off ++ (new.take (min m n * P.cellsOf e) ++ B.cells.drop (off + min m n * P.cellsOf e)))[j]? = some c := hj
                  rw [newRowOf, row_get cur off _ hfit, hnl2] at hu
                  rw [List.getElem?_append, hta] at hj'
                  by_cases hjo : j < off
                  · rw [if_pos hjo, List.getElem?_take, if_pos hjo] at hj'
                    rw [if_neg (by omega)] at hu
                    exact hat.row hbx j c u hj' hu
                  · rw [if_neg hjo, List.getElem?_append, htl] at hj'
                    by_cases hjp : j - off < min m n * P.cellsOf e
                    · rw [if_pos hjp, List.getElem?_take, if_pos hjp] at hj'
                      rw [if_pos (by omega), List.getElem?_take, if_pos hjp] at hu
                      exact hnr _ c u hj' hu
                    · rw [if_neg hjp, List.getElem?_drop] at hj'
                      rw [if_neg (by omega)] at hu
                      rw [show off + min m n * P.cellsOf e + (j - off - min m n * P.cellsOf e) = j by omega] at hj'
                      exact hat.row hbx j c u hj' hu)
                (fun j u hj hu => by
                  rw [newRowOf, row_get cur off _ hfit] at hu
                  have hj' : j < (B.cells.take off ++ (new.take (min m n * P.cellsOf e) ++ B.cells.drop (off + min m n * P.cellsOf e))).length := hj
                  simp only [List.length_append, hta, htl, List.length_drop] at hj'
                  split at hu
                  · exact hno u (List.mem_of_mem_take (List.mem_of_getElem? hu))
                  · exact hat.one j u (by omega) hu)
              exact ⟨_, _, g, _, _, hrun, .data _ _ (.int _ _), hI2, G.le_refl g, hbl, he⟩
        | nils =>
          obtain ⟨a, rfl⟩ := hd.inv_nils
          exact .same (run0 a) (.data _ _ (.int _ _)) hI he
        | _ => simp at he
    | _ => simp at he

/-- The slots of a frame. -/
def EnvRep (g : G) (tmps : Array Value) (env : List V) : Prop := ∀ t, Rep g (tmps.getD t undef) (env.getD t .undef)

theorem EnvRep.mono {g g' : G} (hg : g.le g') {tmps : Array Value} {env : List V} (h : EnvRep g tmps env) : EnvRep g' tmps env := fun t => (h t).mono hg

theorem evO_rep {g : G} {a : Act} {env : List V} (h : EnvRep g a.tmps env) (x : Operand) : Rep g (a.eval x) (evO env x) := by
  cases x with
  | tmp t => exact h t
  | const v => exact .data _ _ (ofValue_rep g.F v)
  | global n => exact .data _ _ (.undef _)
  | func f => exact .data _ _ (.fn f #[] #[] [] [] rfl rfl (fun j x u h => by simp at h) (fun j x u h => by simp at h))

theorem evL_rep {g : G} {a : Act} {env : List V} (h : EnvRep g a.tmps env) : ∀ (l : List Operand), CellsRep g (l.map a.eval) (evL env l)
  | [] => CellsRep.nil g
  | x :: l => CellsRep.cons (evO_rep h x) (evL_rep h l)

theorem partsRep {g : G} {a : Act} {env : List V} (h : EnvRep g a.tmps env) : ∀ (l : List (Nat × Operand)), PartsRep g (l.map fun (i, x) => (i, a.eval x)) (l.map fun p => (p.1, evO env p.2))
  | [] => .nil
  | (i, x) :: l => .cons i _ _ _ _ (evO_rep h x) (partsRep h l)

theorem optRep {g : G} {a : Act} {env : List V} (h : EnvRep g a.tmps env) (o : Option Operand) : OptRep g (o.map a.eval) (o.map (evO env)) := by
  cases o with
  | none => exact .none
  | some x => exact .some _ _ (evO_rep h x)

/-- What an operation that is no call of a function owes. -/
def OpOk (P : Program) (base : Nat) (o : Oper) (a : Act) (g : G) (w : World) (K : Kont) (r : Res) : Prop :=
  ∃ nx u w' g' v h', (execOp a.eval o).run P w = .ok nx w' ∧ (nx = .value u ∨ (nx = .skip ∧ u = undef)) ∧ Rep g' u v ∧ Inv g' base h' w' ∧ g.le g' ∧ Below base w w' ∧ K v h' = some r

theorem OpOk.of {P : Program} {base : Nat} {o : Oper} {a : Act} {g : G} {w : World} {K : Kont} {r : Res} {s : Sem Value} (h : SemOk P base s g w K r) (he : execOp a.eval o = (do pure (.value (← s)))) : OpOk P base o a g w K r := by
  obtain ⟨u, w', g', v, h', h1, h2⟩ := h
  exact ⟨.value u, u, w', g', v, h', by rw [he]; simp [h1], .inl rfl, h2⟩

theorem OpOk.val {P : Program} {base : Nat} {o : Oper} {a : Act} {g : G} {h : Heap} {w : World} {K : Kont} {r : Res} {u : Value} {v : V} (hI : Inv g base h w) (he : execOp a.eval o = pure (.value u)) (hr : Rep g u v) (hK : K v h = some r) : OpOk P base o a g w K r :=
  ⟨.value u, u, w, g, v, h, by rw [he]; rfl, .inl rfl, hr, hI, G.le_refl g, Below.refl _ _, hK⟩

set_option maxHeartbeats 4000000 in
theorem opC_ok {c : Cfg} (hq : ∀ t, t ∈ c.eqs → c.P.stoodInHeld t = false ∧ c.P.eqGuardType c.P.depth t = false) {base : Nat} {o : Oper} {a : Act} {env : List V} {g : G} {h : Heap} {w : World} {K : Kont} {r : Res}
    (hI : Inv g base h w) (hE : EnvRep g a.tmps env) (he : opC c o env h K = some r) : OpOk c.P base o a g w K r := by
  obtain ⟨dst, op, type, pos, after, guard⟩ := o
  unfold opC at he
  cases op with
  | move x => exact .val hI rfl (evO_rep hE x) he
  | assign x => exact .val hI rfl (evO_rep hE x) he
  | pick q x y =>
    simp only at he
    have hqr := evO_rep hE q
    cases hv : evO env q with
    | bool b =>
      rw [hv] at hqr
      simp only [hv] at he
      have hq' := hqr.inv_bool
      cases b with
      | true =>
        refine ⟨.value (a.eval x), a.eval x, w, g, _, h, ?_, .inl rfl, evO_rep hE x, hI, G.le_refl g, Below.refl _ _, he⟩
        simp [execOp, hq', asBool]
      | false =>
        refine ⟨.value (a.eval y), a.eval y, w, g, _, h, ?_, .inl rfl, evO_rep hE y, hI, G.le_refl g, Below.refl _ _, he⟩
        simp [execOp, hq', asBool]
    | _ => simp [hv] at he
  | alloc t =>
    simp only at he
    cases hz : zeroOf c.P t with
    | none => simp [hz] at he
    | some z =>
      simp only [hz] at he
      obtain ⟨u, hzr, hrep, _⟩ := zeroOf_run hz w
      obtain ⟨u', w', g', v, h', h1, h2⟩ := boxC_ok (P := c.P) (t := t) hI (.data u z (hrep g.F)) he
      refine ⟨.value u', u', w', g', v, h', ?_, .inl rfl, h2⟩
      simp only [Sem.run_bind, Sem.run_pure] at h1
      simp only [execOp, Instr.alloc, Sem.run_bind, hzr, Result.andThen_ok]
      generalize (newVar t u).run c.P w = rr at h1 ⊢
      cases rr with
      | ok x y =>
        simp only [Result.andThen_ok, Sem.run_pure, Result.ok.injEq] at h1 ⊢
        obtain ⟨rfl, rfl⟩ := h1
        exact ⟨rfl, rfl⟩
      | halt x y => simp at h1
  | box t x =>
    exact .of (boxC_ok (P := c.P) (t := t) hI (evO_rep hE x) he) (by simp [execOp, Instr.box])
  | build t parts => exact .of (buildC_ok hI (us := parts.map fun (i, x) => (i, a.eval x)) (by rw [Array.toList_map]; exact partsRep hE parts.toList) he) rfl
  | buildSlice t len parts => exact .of (buildSliceC_ok hI (us := parts.map fun (i, x) => (i, a.eval x)) (by rw [Array.toList_map]; exact partsRep hE parts.toList) he) rfl
  | load t x => exact .of (loadC_ok hI (evO_rep hE x) he) rfl
  | store t x y =>
    obtain ⟨w', g', h', h1, h2, h3, h4, h5⟩ := storeC_ok hI (evO_rep hE x) (evO_rep hE y) he
    exact ⟨.skip, undef, w', g', .undef, h', by simp [execOp, h1], .inr ⟨rfl, rfl⟩, .data _ _ (.undef _), h2, h3, h4, h5⟩
  | nilCheck x =>
    simp only at he
    have hx := evO_rep hE x
    cases hv : evO env x with
    | ptr b off =>
      rw [hv] at hx
      simp only [hv] at he
      obtain ⟨k, _, _, hu⟩ := hx.inv_ptr
      refine .val hI ?_ hx he
      simp [execOp, hu]
    | rop cells off =>
      rw [hv] at hx
      simp only [hv] at he
      have hu : ∃ ad, a.eval x = .pointer (some ad) := by
        have := hx.inv_rop
        generalize a.eval x = u at this
        cases this; exact ⟨_, rfl⟩
      obtain ⟨ad, hu⟩ := hu
      refine .val hI ?_ hx he
      simp [execOp, hu]
    | fn f p q =>
      rw [hv] at hx
      simp only [hv] at he
      obtain ⟨a', c', hu, _⟩ := hx.inv_fn
      refine .val hI ?_ hx he
      simp [execOp, hu]
    | _ => simp [hv] at he
  | binOp op t x y yt => exact .of (binC_ok hq hI (evO_rep hE x) (evO_rep hE y) he) rfl
  | unOp op t x => exact .of (unC_ok hI (evO_rep hE x) he) rfl
  | convert s d x => exact .of (convC_ok hI (evO_rep hE x) he) rfl
  | makeInterface t x =>
    simp only at he
    split at he
    case isFalse => cases he
    rename_i hni
    cases hu : c.P.underlying t with
    | none => simp [notIfT, hu] at hni
    | some d =>
      refine ⟨.value (.iface t (a.eval x)), _, w, g, _, h, ?_, .inl rfl, .iface t _ _ (evO_rep hE x), hI, G.le_refl g, Below.refl _ _, he⟩
      cases d <;> first | (simp [notIfT, hu] at hni; done) | simp [execOp, Instr.makeInterface, run_underlying hu]
  | makeFunc fn first captured =>
    cases fn with
    | func f =>
      refine .val hI (u := .func (.func f) (first.map a.eval) (captured.map a.eval)) ?_ ?_ he
      · simp [execOp, Instr.makeFunc]
      · have h1 := evL_rep hE first.toList
        have h2 := evL_rep hE captured.toList
        exact .fn f _ _ _ _ (by have := h1.1; simpa using this) (by have := h2.1; simpa using this) (fun j x u hj hu => h1.2 j x u hj (by simpa using hu)) (fun j x u hj hu => h2.2 j x u hj (by simpa using hu))
    | _ => simp at he
  | makeSlice t l cp => exact .of (makeSliceC_ok hI (evO_rep hE l) (evO_rep hE cp) he) rfl
  | slice t x lo hi mx => exact .of (sliceC_ok hI (evO_rep hE x) (optRep hE lo) (optRep hE hi) (optRep hE mx) he) rfl
  | fieldAddr t x f => exact .of (fieldAtC_ok hI (evO_rep hE x) he) rfl
  | field t x f => exact .of (fieldC_ok hI (evO_rep hE x) he) rfl
  | indexAddr t x i => exact .of (indexAtC_ok hI (evO_rep hE x) (evO_rep hE i) he) rfl
  | index t x i => exact .of (indexC_ok hI (evO_rep hE x) (evO_rep hE i) he) rfl
  | extract x i =>
    simp only at he
    have hx := evO_rep hE x
    cases hv : evO env x with
    | tup vs =>
      rw [hv] at hx
      simp only [hv] at he
      split at he
      case isFalse => cases he
      rename_i hlt
      obtain ⟨vs', hu, hl, hr⟩ := hx.inv_tup
      have hlt' : i < vs'.size := by omega
      refine .val hI (u := vs'[i]) ?_ (hr i _ _ (getD_of_lt hlt) (by simp [hlt'])) he
      simp [execOp, hu, Instr.extract, hlt']
    | _ => simp [hv] at he
  | call q =>
    simp only at he
    cases hcal : q.callee with
    | value f => simp [hcal] at he
    | invoke r m => simp [hcal] at he
    | builtin b =>
      simp only [hcal] at he
      have hres : ∀ (B : Sem Value), (∀ cs, Go.builtin b q.argTypes type cs (q.args.map a.eval) = (do pure (.value (← B)))) → SemOk c.P base B g w K r → OpOk c.P base ⟨dst, .call q, type, pos, after, guard⟩ a g w K r := by
        intro B hB hS
        refine .of hS ?_
        simp [execOp, resolve, hcal, invoke, hB]
      cases b with
      | len =>
        simp only at he
        cases ht : q.argTypes.toList with
        | nil => simp [ht] at he
        | cons t ts =>
          cases hx : q.args.toList with
          | nil => simp [ht, hx] at he
          | cons x xs =>
            simp only [ht, hx] at he
            refine hres _ (fun _ => rfl) (lenC_ok hI (evO_rep hE x) (t := t) ?_ ?_ he)
            · rw [← Array.getElem?_toList, ht]; rfl
            · rw [Array.getElem?_map, ← Array.getElem?_toList, hx]; rfl
      | append =>
        simp only at he
        split at he
        case h_2 => cases he
        rename_i s x hargs
        refine hres _ (fun _ => rfl) (appendC_ok hI (evO_rep hE s) (evO_rep hE x) ?_ he)
        apply Array.ext'; simp [hargs]
      | copy =>
        simp only at he
        split at he
        case h_2 => cases he
        rename_i s x hargs
        refine hres _ (fun _ => rfl) (copyC_ok hI (evO_rep hE s) (evO_rep hE x) ?_ he)
        apply Array.ext'; simp [hargs]
      | max =>
        simp only at he
        cases hm : maxV (evL env q.args.toList) with
        | none => simp [hm] at he
        | some v =>
          simp only [hm] at he
          exact hres _ (fun _ => rfl) (maxV_ok hI (by simpa using evL_rep hE q.args.toList) hm he)
      | min =>
        simp only at he
        cases hm : minV (evL env q.args.toList) with
        | none => simp [hm] at he
        | some v =>
          simp only [hm] at he
          exact hres _ (fun _ => rfl) (minV_ok hI (by simpa using evL_rep hE q.args.toList) hm he)
      | _ => simp at he
  | _ => simp at he

end Go.Pv

/- Control: slots, guards, entering, what stands yet to be done. -/
namespace Go.Pv
open Go Go.RowKit

/-- The slots of a frame, and how many. -/
structure EnvOk (g : G) (tmps : Array Value) (env : List V) : Prop where
  len : env.length ≤ tmps.size
  rep : EnvRep g tmps env

theorem EnvOk.mono {g g' : G} (hg : g.le g') {tmps : Array Value} {env : List V} (h : EnvOk g tmps env) : EnvOk g' tmps env := ⟨h.len, h.rep.mono hg⟩

theorem EnvOk.put {g : G} {a : Act} {env : List V} (h : EnvOk g a.tmps env) (dst : Option Nat) {u : Value} {v : V} (hr : Rep g u v) : EnvOk g (a.put dst u).tmps (putE env dst v) := by
  cases dst with
  | none => exact h
  | some d =>
    refine ⟨by simp [Act.put, putE]; exact h.len, fun t => ?_⟩
    have ht := h.rep t
    simp only [Act.put, putE]
    by_cases e : d = t
    · subst e
      by_cases hd : d < env.length
      · have hd' : d < a.tmps.size := Nat.lt_of_lt_of_le hd h.len
        rw [List.getD_eq_getElem?_getD, List.getElem?_set_self hd, Array.getD_eq_getD_getElem?, Array.getElem?_setIfInBounds_self_of_lt hd']
        exact hr
      · rw [List.getD_eq_getElem?_getD, List.getElem?_eq_none (by simp; omega)]
        exact .data _ _ (.undef _)
    · rw [List.getD_eq_getElem?_getD, List.getElem?_set_ne e, ← List.getD_eq_getElem?_getD, Array.getD_eq_getD_getElem?, Array.getElem?_setIfInBounds_ne e, ← Array.getD_eq_getD_getElem?]
      exact ht

theorem put_defers (a : Act) (dst : Option Nat) (u : Value) : (a.put dst u).defers = a.defers := by cases dst <;> rfl

/-- What a guard says. -/
theorem guardOf_ok {all : Array Oper} {g : G} {tmps : Array Value} {env : List V} (h : EnvOk g tmps env) {o : Oper} {w : Bool} (hg : guardOf all env o = some w) : Region.wanted o (yielded all tmps) = w := by
  unfold guardOf at hg
  unfold Region.wanted
  cases ho : o.guard with
  | none => simp only [ho, Option.some.injEq] at hg; exact hg
  | some jw =>
    obtain ⟨j, want⟩ := jw
    simp only [ho] at hg ⊢
    cases hd : (all[j]?).bind (·.dst) with
    | none => simp [hd] at hg
    | some d =>
      simp only [hd] at hg
      have hr := h.rep d
      have key : ∀ b, tmps.getD d undef = .bool b → tmps[d]? = some (.bool b) := by
        intro b hb
        rw [Array.getD_eq_getD_getElem?] at hb
        cases ht : tmps[d]? with
        | none => rw [ht] at hb; simp [undef] at hb
        | some x => rw [ht] at hb; simp at hb; rw [hb]
      cases hv : env.getD d .undef with
      | bool b =>
        rw [hv] at hr
        simp only [hv] at hg
        have := key b hr.inv_bool
        have hy : yielded all tmps j = some b := by simp [yielded, hd, this]
        rw [hy]
        obtain rfl := Option.some.inj hg
        cases b <;> cases want <;> rfl
      | tup vs =>
        rw [hv] at hr
        cases vs with
        | nil =>
          simp only [hv] at hg
          obtain rfl := Option.some.inj hg
          obtain ⟨cs', hu, _, _⟩ := hr.inv_tup
          have hy : yielded all tmps j = none := by
            simp only [yielded, hd, Option.bind_some]
            cases ht : tmps[d]? with
            | none => rfl
            | some x =>
              rw [Array.getD_eq_getD_getElem?, ht] at hu
              simp at hu
              rw [hu]
          rw [hy]; rfl
        | cons x xs => simp only [hv] at hg; cases hg
      | _ => simp only [hv] at hg; cases hg

/-- The call of a function value. -/
theorem enter_run {P : Program} {g : G} {a : Act} {env : List V} (hE : EnvRep g a.tmps env) {o : Oper} {f : Nat} {args : List V} (h : calleeOf env o = some (f, args)) {fn : Func} (hf : P.funcs[f]? = some fn)
    (hn : (fn.name == "runtime.NumGoroutine") = false) (hb : fn.body.isSome = true) (w : World) :
    ∃ vargs : Array Value, (execOp a.eval o).run P w = .ok (.enter f vargs) w ∧ CellsRep g vargs.toList args := by
  obtain ⟨dst, op, type, pos, after, guard⟩ := o
  unfold calleeOf at h
  cases op with
  | call q =>
    simp only at h
    cases hq : q.callee with
    | value x =>
      simp only [hq] at h
      cases hx : evO env x with
      | fn f' p s =>
        simp only [hx, Option.some.injEq, Prod.mk.injEq] at h
        obtain ⟨rfl, rfl⟩ := h
        have hr := evO_rep hE x
        rw [hx] at hr
        obtain ⟨p', s', hu, hp, hs, rp, rs⟩ := hr.inv_fn
        refine ⟨p' ++ q.args.map a.eval ++ s', ?_, ?_⟩
        · have hbn : fn.body.isNone = false := by cases h : fn.body <;> simp_all
          have h1 : execOp a.eval ⟨dst, .call q, type, pos, after, guard⟩ = callFunc f' (p' ++ q.args.map a.eval ++ s') := by
            simp only [execOp, resolve, hq, hu, Deferred.ofValue, pure_bind, invoke]
          rw [h1]
          simp only [callFunc, Sem.run_bind, run_program, Result.andThen_ok, hf, hn, hbn, Bool.false_eq_true, if_false, Sem.run_pure]
        · have hq' := evL_rep hE q.args.toList
          refine ⟨by simp [hp, hs, evL], fun j x u hj hu => ?_⟩
          simp only [Array.toList_append, Array.toList_map] at hu
          rw [List.getElem?_append] at hj hu
          simp only [List.length_append, List.length_map, Array.length_toList, evL] at hj hu
          rw [hp] at hu
          split at hj
          · rename_i hlt
            rw [if_pos hlt] at hu
            rw [List.getElem?_append] at hj hu
            simp only [Array.length_toList, hp] at hu
            split at hj
            · rename_i hlt2
              rw [if_pos hlt2] at hu
              exact rp j x u hj (by simpa using hu)
            · rename_i hlt2
              rw [if_neg hlt2] at hu
              exact hq'.2 _ x u hj hu
          · rename_i hlt
            rw [if_neg hlt] at hu
            exact rs _ x u hj (by simpa using hu)
      | _ => simp [hx] at h
    | builtin b => simp [hq] at h
    | invoke r m => simp [hq] at h
  | _ => simp at h

/-! ### What stands yet to be done -/

inductive ItRel : It → Item → Prop
  | code (c : Code) : ItRel (.code c) (.code c)
  | inBlock (id : Nat) : ItRel (.inBlock id) (.inBlock id)
  | inLoop (c : Code) : ItRel (.inLoop c) (.inLoop c)
  | inScope (c : Code) : ItRel (.inScope c) (.inScope c)
  | ops (all : Array Oper) (l : List Oper) (idx : List Nat) (h : idx.map (all[·]?) = l.map some) : ItRel (.ops all l) (.inRegion all idx)
  | reg (id : Nat) (all : Array Oper) (draw : Bool) : ItRel (.reg id all draw) (.code (.region id all draw))

inductive ItsRel : List It → List Item → Prop
  | nil : ItsRel [] []
  | cons (x : It) (y : Item) (l : List It) (k : List Item) (h : ItRel x y) (hs : ItsRel l k) : ItsRel (x :: l) (y :: k)

theorem range_ops (all : Array Oper) : (List.range all.size).map (all[·]?) = all.toList.map some := by
  apply List.ext_getElem
  · simp
  · intro j h1 h2
    simp at h1 ⊢

theorem exitIt_ok (id : Nat) : ∀ {l : List It} {k : List Item} {l' : List It}, ItsRel l k → exitIt id l = some l' → ∃ k', exitTo id k = some k' ∧ ItsRel l' k'
  | _, _, _, .nil, h => by simp [exitIt] at h
  | _, _, l', .cons x y l k hxy hs, h => by
    cases hxy with
    | inBlock id' =>
      simp only [exitIt] at h
      simp only [exitTo]
      split at h
      · rename_i e
        obtain rfl := Option.some.inj h
        exact ⟨k, by rw [if_pos e], hs⟩
      · rename_i e
        rw [if_neg e]
        exact exitIt_ok id hs h
    | _ =>
      simp only [exitIt] at h
      simp only [exitTo]
      exact exitIt_ok id hs h

theorem gotoIt_ok (lb : Nat) : ∀ {l : List It} {k : List Item} {l' : List It}, ItsRel l k → gotoIt lb l = some l' → ∃ k', gotoIn lb k = some k' ∧ ItsRel l' k'
  | _, _, _, .nil, h => by simp [gotoIt] at h
  | _, _, l', .cons x y l k hxy hs, h => by
    cases hxy with
    | inScope body =>
      simp only [gotoIt] at h
      simp only [gotoIn]
      cases hf : findLabel body lb with
      | none => simp only [hf] at h ⊢; exact gotoIt_ok lb hs h
      | some rest =>
        simp only [hf] at h ⊢
        obtain rfl := Option.some.inj h
        exact ⟨_, rfl, .cons _ _ _ _ (.code _) (.cons _ _ _ _ (.inScope _) hs)⟩
    | _ =>
      simp only [gotoIt] at h
      simp only [gotoIn]
      exact gotoIt_ok lb hs h

end Go.Pv
