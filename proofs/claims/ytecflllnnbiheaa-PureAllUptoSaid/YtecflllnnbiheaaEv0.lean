/- An evaluator of the model's code on abstract values: what is read alone is a plain value, what is written lies in an abstract heap. Definitions alone. -/
import GoSem.Core.Code
import GoSem.Core.View
import Derived.Control
set_option maxHeartbeats 4000000
set_option linter.unusedVariables false
set_option linter.unusedSimpArgs false
namespace Ev
open Go

/-- What is known of the room behind a slice: nothing; there is none; it is this block's. -/
inductive Tok where
  | no
  | full
  | own (loc : Bool) (a : Nat)
  deriving DecidableEq

/-- Values. 'sl': a slice whose elements never change. 'hs': a slice of a row of a heap (of the frame's own, or of all). 'rptr': an address in a value that never changes. -/
inductive AV where
  | junk
  | bool (b : Bool)
  | int (k : IntKind) (n : Int)
  | str (s : List UInt8)
  | agg (cs : List AV)
  | tup (vs : List AV)
  | nilp
  | ptr (loc : Bool) (b g i o : Nat)
  | rptr (v : AV) (o : Nat)
  | sl (es : List AV) (t : Tok)
  | hs (loc : Bool) (b g off len : Nat)
  | fn (f : Nat) (caps : List AV)
  | nilf
  | ifc (t : Nat) (v : AV)
  | nili
  | mp (loc : Bool) (b : Nat)
  | nilm

inductive Blk where
  | dead
  | row (g : Nat) (es : List AV)
  | tok (n sz : Nat)
  | map (kvs : List (AV × AV))

abbrev Hp := List Blk
/-- Temporaries and their values, the newest ahead. -/
abbrev Env := List (Nat × AV)

/-- How a call ends: it hands a value back, or it panics. -/
inductive Rs where
  | val (v : AV)
  | pan (v : AV)

abbrev CallF := Nat → List AV → Hp → Option (Rs × Hp)

/-- What a prover says of a program: which variables live in the frame's own heap, which slices are rows of a heap, which temporaries are kept through loops, behind regions and blocks, which functions see the heap; which regions may be run in any order; which functions are known by what they come to. -/
structure Ann where
  orc : Nat → Option (List AV → Hp → Hp → Option (AV × Hp × Hp))
  glob : Nat → Nat → Bool
  rows : Nat → Nat → Bool
  keep : Nat → List Nat
  live : Nat → Nat → Option (List Nat)
  exits : Nat → Nat → Option (List Nat)
  sees : Nat → Bool
  dr : Nat → Nat → Bool
  frz : Nat → Nat → Bool := fun _ _ => false

structure Cfg where
  P : Program
  A : Ann
  call : CallF

/-! ### values -/
def Tok.refs (Q : Bool → Nat → Bool) : Tok → Bool
  | .own loc a => Q loc a
  | _ => true
mutual
/-- all blocks to which it leads are of these -/
def AV.refs (Q : Bool → Nat → Bool) : AV → Bool
  | .agg cs => refss Q cs
  | .tup cs => refss Q cs
  | .sl es t => t.refs Q && refss Q es
  | .rptr v _ => v.refs Q
  | .ptr loc b _ _ _ => Q loc b
  | .hs loc b _ _ _ => Q loc b
  | .mp loc b => Q loc b
  | .fn _ cs => refss Q cs
  | .ifc _ v => v.refs Q
  | _ => true
def refss (Q : Bool → Nat → Bool) : List AV → Bool
  | [] => true
  | v :: l => v.refs Q && refss Q l
end
/-- nothing in it leads into a heap -/
def AV.pf (v : AV) : Bool := v.refs fun _ _ => false
def pfs (l : List AV) : Bool := refss (fun _ _ => false) l
/-- nothing in it leads into the frame's own heap -/
def AV.noL (v : AV) : Bool := v.refs fun loc _ => !loc
def noLs (l : List AV) : Bool := refss (fun loc _ => !loc) l
/-- of the frame's own heap at most the first blocks -/
def AV.bel (k : Nat) (v : AV) : Bool := v.refs fun loc b => !loc || decide (b < k)
def bels (k : Nat) (l : List AV) : Bool := refss (fun loc b => !loc || decide (b < k)) l
def Blk.bel (k : Nat) : Blk → Bool
  | .row _ es => bels k es
  | .map kvs => bels k (kvs.map Prod.snd)
  | _ => true

/-- one cell's value -/
def AV.isCell : AV → Bool
  | .junk | .agg _ | .tup _ | .rptr _ _ => false
  | _ => true

/-- a value's cells -/
def AV.cells : AV → List AV
  | .agg cs => cs
  | v => [v]

/-- the cells are known, each of them one -/
def AV.flat (v : AV) : Bool := v.cells.all AV.isCell

/-- a part of a value: 'n' cells from 'o' on ('ag': as a struct or an array) -/
def AV.part (v : AV) (o : Nat) (ag : Bool) (n : Nat) : Option AV :=
  if ag then
    if o = 0 ∧ n = v.cells.length then some (match v with | .agg cs => .agg cs | v => .agg [v])
    else if o + n ≤ v.cells.length then some (.agg ((v.cells.drop o).take n)) else none
  else v.cells[o]?

/-- a value with a part turned -/
def AV.put (v : AV) (o : Nat) (x : AV) : Option AV :=
  if o + x.cells.length ≤ v.cells.length then
    if x.cells.length = v.cells.length then some x
    else some (.agg (v.cells.take o ++ x.cells ++ v.cells.drop (o + x.cells.length)))
  else none

/-- the tokens taken off: what is handed on -/
def Tok.drop (both : Bool) (t : Tok) : Tok :=
  if both then .no else
  match t with
  | .own true _ => .no
  | t => t

/-! ### constants and types -/
/-- one cell's constant -/
def ofCell : Value → AV
  | .bool b => .bool b
  | .int k n => .int k n
  | .string s => .str s.data.toList
  | .pointer none => .nilp
  | .slice none 0 0 => .sl [] .full
  | .nilFunc => .nilf
  | .nilIface => .nili
  | .map none => .nilm
  | _ => .junk
def ofVal : Value → AV
  | .agg cs => .agg (cs.toList.map ofCell)
  | .tuple vs => if vs.size = 0 then .tup [] else .junk
  | v => ofCell v

def isIf (P : Program) (t : TypeId) : Bool :=
  match P.underlying t with
  | some (.interface _) => true
  | none => true
  | _ => false
def isBl (P : Program) (t : TypeId) : Bool :=
  match P.underlying t with
  | some .bool => true
  | _ => false
def elemT (P : Program) (t : TypeId) : Option TypeId :=
  match P.underlying t with
  | some (.slice e) => if P.cellsOf e = 0 then none else some e
  | _ => none
def arrT (P : Program) (t : TypeId) : Option (Nat × TypeId) :=
  match P.underlying t with
  | some (.array n e) => if P.cellsOf e = 0 then none else some (n, e)
  | _ => none
def isStr (P : Program) (t : TypeId) : Bool :=
  match P.underlying t with
  | some .string => true
  | _ => false
def intT (P : Program) (t : TypeId) : Option IntKind :=
  match P.underlying t with
  | some (.int k) => some k
  | _ => none
/-- a field's offset, type, size -/
def fieldT (P : Program) (t : TypeId) (f : Nat) : Option (Nat × TypeId) :=
  match P.underlying t with
  | some (.struct fs) => (fs[f]?).map fun x => (x.offset, x.type)
  | _ => none
/-- a struct's fields: offsets, sizes -/
def structT (P : Program) (t : TypeId) : Option (List (Nat × Nat)) :=
  match P.underlying t with
  | some (.struct fs) => if fs.toList.all fun x => (P.info? x.type).isSome then some (fs.toList.map fun x => (x.offset, P.cellsOf x.type)) else none
  | _ => none
/-- is it a struct or an array; how many cells -/
def cellT (P : Program) (t : TypeId) : Option (Bool × Nat) :=
  match P.underlying t with
  | some (.struct _) => some (true, P.cellsOf t)
  | some (.array _ _) => some (true, P.cellsOf t)
  | some _ => some (false, P.cellsOf t)
  | none => none
def szT (P : Program) (t : TypeId) : Nat := P.cellsOf t
def zeroT (P : Program) (t : TypeId) : Option AV :=
  match P.info? t with
  | some i => i.zero.map ofVal
  | none => none

/-! ### operands, environments -/
def getE? : Env → Nat → Option AV
  | [], _ => none
  | (i, v) :: e, t => if i = t then some v else getE? e t
def getE : Env → Nat → AV
  | [], _ => .junk
  | (i, v) :: e, t => if i = t then v else getE e t
def opd (e : Env) : Operand → AV
  | .tmp t => getE e t
  | .const v => ofVal v
  | .global _ => .junk
  | .func f => .fn f []
def putE (e : Env) (d : Option Tmp) (v : AV) : Env :=
  match d with
  | some t => (t, v) :: e
  | none => e
/-- is an operation of a region wanted? -/
def wantedA (ops : Array Oper) (o : Oper) (e : Env) : Option Bool :=
  match o.guard with
  | none => some true
  | some (j, w) =>
    match (ops[j]?).bind (·.dst) with
    | none => some false
    | some d => match getE? e d with
      | some (.bool b) => some (b == w)
      | some (.tup []) => some false
      | _ => none

/-! ### heaps -/
def hpOf (loc : Bool) (L G : Hp) : Hp := if loc then L else G
def setHp (loc : Bool) (b : Nat) (x : Blk) (L G : Hp) : Hp × Hp := if loc then (L.set b x, G) else (L, G.set b x)
/-- a new block, at a place kept for it or at the end -/
def newL (slot : Option Nat) (x : Blk) (L : Hp) : Nat × Hp :=
  match slot with
  | some s => (s, L.set s x)
  | none => (L.length, L ++ [x])
def newBlk (loc : Bool) (slot : Option Nat) (x : Blk) (L G : Hp) : Nat × Hp × Hp :=
  if loc then (let (b, L') := newL slot x L; (b, L', G)) else (G.length, L, G ++ [x])

/-- the element at a pointer -/
def rowAt (h : Hp) (b g i : Nat) : Option AV :=
  match h[b]? with
  | some (.row g' es) => if g' = g then es[i]? else none
  | _ => none

/-- the elements of a slice -/
def elemsOf (L G : Hp) : AV → Option (List AV)
  | .sl es _ => some es
  | .hs loc b g off len =>
    match (hpOf loc L G)[b]? with
    | some (.row g' es) => if g' = g ∧ off + len ≤ es.length then some ((es.drop off).take len) else none
    | _ => none
  | .str s => some (s.map fun b => .int .u8 b.toNat)
  | _ => none

def loadA (P : Program) (t : TypeId) (p : AV) (L G : Hp) : Option AV :=
  match p with
  | .ptr loc b g i o => (cellT P t).bind fun (ag, n) => (rowAt (hpOf loc L G) b g i).bind fun v => v.part o ag n
  | .rptr v o => (cellT P t).bind fun (ag, n) => v.part o ag n
  | _ => none

def storeA (P : Program) (t : TypeId) (p x : AV) (L G : Hp) : Option (Hp × Hp) :=
  match p with
  | .ptr loc b g i o =>
    match (hpOf loc L G)[b]? with
    | some (.row g' es) =>
      if g' = g ∧ x.cells.length = szT P t ∧ x.flat = true ∧ (loc = true ∨ x.noL = true) ∧ szT P t ≠ 0 then
        (es[i]?).bind fun v => (v.put o x).map fun v' => setHp loc b (.row g (es.set i v')) L G
      else none
    | _ => none
  | _ => none

/-! ### operations -/
def bytesLt : List UInt8 → List UInt8 → Bool
  | _, [] => false
  | [], _ :: _ => true
  | a :: x, b :: y => a < b || (a == b && bytesLt x y)

def binA (P : Program) (t : TypeId) (op : BinOp) (x y : AV) : Option AV :=
  match x, y with
  | .int k a, .int k' b =>
    match op with
    | .shl => if b < 0 then none else some (.int k (k.wrap (a * 2 ^ (min b.toNat k.bits))))
    | .shr => if b < 0 then none else some (.int k (a.fdiv (2 ^ (min b.toNat k.bits))))
    | op => if k ≠ k' then none else
      match op with
      | .add => some (.int k (k.wrap (a + b)))
      | .sub => some (.int k (k.wrap (a - b)))
      | .mul => some (.int k (k.wrap (a * b)))
      | .quo => if b = 0 then none else some (.int k (k.wrap (a.tdiv b)))
      | .rem => if b = 0 then none else some (.int k (a.tmod b))
      | .and => some (.int k (k.wrap ((BitVec.ofInt k.bits a &&& BitVec.ofInt k.bits b).toNat : Int)))
      | .or => some (.int k (k.wrap ((BitVec.ofInt k.bits a ||| BitVec.ofInt k.bits b).toNat : Int)))
      | .xor => some (.int k (k.wrap ((BitVec.ofInt k.bits a ^^^ BitVec.ofInt k.bits b).toNat : Int)))
      | .eql => some (.bool (a == b))
      | .neq => some (.bool (a != b))
      | .lss => some (.bool (decide (a < b)))
      | .leq => some (.bool (decide (a ≤ b)))
      | .gtr => some (.bool (decide (b < a)))
      | .geq => some (.bool (decide (b ≤ a)))
      | _ => none
  | .str a, .str b =>
    match op with
    | .add => if a.length + b.length < 2 ^ 62 then some (.str (a ++ b)) else none
    | .eql => some (.bool (a == b))
    | .neq => some (.bool (a != b))
    | .lss => some (.bool (bytesLt a b))
    | .leq => some (.bool (bytesLt a b || a == b))
    | .gtr => some (.bool (!(bytesLt a b || a == b)))
    | .geq => some (.bool (!(bytesLt a b)))
    | _ => none
  | .bool a, .bool b => if isBl P t = false then none else
    match op with
    | .eql => some (.bool (a == b))
    | .neq => some (.bool (a != b))
    | _ => none
  | _, _ => none

def unA (op : UnOp) (x : AV) : Option AV :=
  match op, x with
  | .not, .bool b => some (.bool (!b))
  | .neg, .int k n => some (.int k (k.wrap (0 - n)))
  | _, _ => none

def lenA (P : Program) (t : TypeId) : AV → Option Nat
  | .str s => if isStr P t then some s.length else none
  | .sl es _ => if (elemT P t).isSome then some es.length else none
  | .hs _ _ _ _ len => if (elemT P t).isSome then some len else none
  | .agg _ => (arrT P t).map (·.1)
  | _ => none
def lenS : AV → Nat
  | .sl es _ => es.length
  | .hs _ _ _ _ len => len
  | _ => 0

/-- parts put into cells -/
def fillA (place : Nat → Option (Nat × Nat)) (cs : List AV) : List (Nat × AV) → Option (List AV)
  | [] => some cs
  | (i, v) :: rest =>
    match place i with
    | none => none
    | some (off, n) =>
      if v.cells.length = n ∧ off + n ≤ cs.length ∧ v.flat = true then fillA place (cs.take off ++ v.cells ++ cs.drop (off + n)) rest else none

def buildA (P : Program) (t : TypeId) (parts : List (Nat × AV)) : Option AV :=
  (zeroT P t).bind fun z =>
    match structT P t with
    | some pl => (fillA (fun i => pl[i]?) z.cells parts).map .agg
    | none => (arrT P t).bind fun (_, el) => (fillA (fun i => some (i * szT P el, szT P el)) z.cells parts).map .agg

/-- the elements of a slice that is written out: zeros, then part by part -/
def listA (sz : Nat) (es : List AV) : List (Nat × AV) → Option (List AV)
  | [] => some es
  | (i, v) :: rest => if i < es.length ∧ v.cells.length = sz ∧ v.flat = true then listA sz (es.set i v) rest else none

mutual
/-- What is handed on: without tokens (of the frame's own heap; any). -/
def handA (both : Bool) : AV → AV
  | .sl es t => .sl es (t.drop both)
  | .agg cs => .agg (handAs both cs)
  | .tup cs => .tup (handAs both cs)
  | .ifc t v => .ifc t (handA both v)
  | v => v
def handAs (both : Bool) : List AV → List AV
  | [] => []
  | v :: l => handA both v :: handAs both l
end

/-- what is put into a slice: without tokens; nil alone stays what it is -/
def handY : AV → AV
  | .sl [] .full => .sl [] .full
  | v => handA true v
def isHs : AV → Bool
  | .hs .. => true
  | _ => false
/-- does it hold a row of a heap? -/
def hasHs (v : AV) : Bool := v.cells.any isHs
/-- a cell of what is left behind: a row in a row as a slice that never changes -/
def unhs (F : List AV → List AV) (both : Bool) (L G : Hp) : AV → AV
  | .hs loc b g off len => if loc || both then (match elemsOf L G (.hs loc b g off len) with | some es => .sl (F es) .no | none => .hs loc b g off len) else .hs loc b g off len
  | v => handA true v
def onCells (f : AV → AV) : AV → AV
  | .agg cs => .agg (cs.map f)
  | v => f v
def deepS (both : Bool) (L G : Hp) : Nat → List AV → List AV
  | 0, es => handAs true es
  | n + 1, es => if es.any hasHs = true then es.map (onCells (unhs (deepS both L G n) both L G)) else handAs true es
mutual
/-- What is left behind: rows (of the frame's own heap; of both) as slices that never change. -/
def leave (both : Bool) (L G : Hp) : AV → AV
  | .sl es t => .sl es (t.drop both)
  | .hs loc b g off len => if loc || both then (match elemsOf L G (.hs loc b g off len) with | some es => .sl (deepS both L G 3 es) .no | none => .junk) else .hs loc b g off len
  | .agg cs => .agg (leaves both L G cs)
  | .tup cs => .tup (leaves both L G cs)
  | .ifc t v => .ifc t (leave both L G v)
  | v => v
def leaves (both : Bool) (L G : Hp) : List AV → List AV
  | [] => []
  | v :: l => leave both L G v :: leaves both L G l
end
/-- Ahead of a region from which on nothing of the frame's own heap is written: what leads into it is what is there. -/
def frzV (L G : Hp) (v : AV) : AV :=
  match v with
  | .ptr true b g i o => match elemsOf L G (.hs true b g i 1) with
    | some es => match deepS false L G 3 es with
      | [x] => .rptr x o
      | _ => .junk
    | none => .junk
  | v => leave false L G v
def frzW (L G : Hp) (v : AV) : AV := if (frzV L G v).noL = true then frzV L G v else .junk
def frzE (b : Bool) (L G : Hp) (e : Env) : Env :=
  match b with
  | true => e.map fun p => (p.1, frzW L G p.2)
  | false => e
def frzL (b : Bool) (L : Hp) : Hp :=
  match b with
  | true => []
  | false => L
/-- values that no memory bears -/
def AV.light : AV → Bool
  | .bool _ | .int _ _ | .str _ => true
  | .tup vs => vs.all fun | .bool _ | .int _ _ | .str _ => true | _ => false
  | _ => false

def intOf : AV → Option Int
  | .int _ n => some n
  | _ => none
/-- a slice's bound: none is the given one; else it is from 0 to the most -/
def boundA (x : Option AV) (dflt most : Nat) : Option Nat :=
  match x with
  | none => some dflt
  | some (.int _ n) => if 0 ≤ n ∧ n ≤ (most : Int) then some n.toNat else none
  | _ => none

/-- the elements are of a type's size (the first tells for all) -/
def szOk (P : Program) (el : TypeId) : List AV → Bool
  | [] => true
  | v :: _ => v.cells.length == szT P el
def sliceA (P : Program) (ty : TypeId) (x : AV) (lo hi mx : Option AV) (L G : Hp) : Option AV :=
  match x with
  | .str s =>
    if mx.isSome ∨ isStr P ty = false then none else
    (boundA hi s.length s.length).bind fun h => (boundA lo 0 h).map fun l => .str ((s.drop l).take (h - l))
  | .sl es t => (elemT P ty).bind fun el =>
    (boundA hi es.length es.length).bind fun h => (boundA lo 0 h).bind fun l =>
      if l ≠ 0 ∧ szOk P el es = false then none else
      match mx with
      | none => some (.sl ((es.drop l).take (h - l)) (if h = es.length ∧ (l = 0 ∨ t = .full) then t else .no))
      | some m => match m with
        | .int _ n => if n = (h : Int) ∧ hi.isSome = true then some (.sl ((es.drop l).take (h - l)) .full) else none
        | _ => none
  | .hs loc b g off len => (elemT P ty).bind fun el =>
    if mx.isSome then none else
    (boundA hi len len).bind fun h => (boundA lo 0 h).bind fun l =>
      if l = h ∧ (l ≠ 0 ∨ len = 0) then some (.sl [] .no) else
      if l = 0 then some (.hs loc b g off h) else
      match (hpOf loc L G)[b]? with
      | some (.row g' es) => if g' = g ∧ es ≠ [] ∧ szOk P el es = true then some (.hs loc b g (off + l) (h - l)) else none
      | _ => none
  | _ => none

/-- what is put behind a slice: without tokens; nil alone stays what it is -/
def handX : List AV → List AV
  | [.sl [] .full] => [.sl [] .full]
  | xs => handAs true xs
/-- how many cells a type's zero has -/
def zeroSz (P : Program) (t : TypeId) : Nat :=
  match P.info? t with
  | some i => match i.zero with | some z => z.cells.size | none => 0
  | none => 0
/-- the most bytes that a slice takes here -/
def mostBytes : Nat := 2 ^ 44

def appendA (P : Program) (A : Ann) (f : Nat) (d : Nat) (el : TypeId) (slot : Option Nat) (s : AV) (xs : List AV) (L G : Hp) : Option (AV × Hp × Hp) :=
  let sz := szT P el
  if sz = 0 ∨ P.bytesOf el = 0 ∨ szOk P el xs = false ∨ (lenS s + xs.length) * P.bytesOf el > mostBytes ∨ (zeroT P el).isNone = true ∨ zeroSz P el ≠ sz then none else
  let xs := handX xs
  match s with
  | .sl es t =>
    if xs.length = 0 then some (.sl es t, L, G) else
    match t with
    | .no => none
    | .full =>
      if szOk P el es = false then none else
      if A.rows f d then
        let loc := !A.glob f d
        if loc = true ∨ noLs (es ++ xs) = true then
          let (b, L', G') := newBlk loc slot (.row 0 (es ++ xs)) L G
          some (.hs loc b 0 0 (es.length + xs.length), L', G')
        else none
      else
        let loc := !A.glob f d
        let (b, L', G') := newBlk loc slot (.tok (es.length + xs.length) sz) L G
        some (.sl (es ++ xs) (.own loc b), L', G')
    | .own loc a =>
      match (hpOf loc L G)[a]? with
      | some (.tok n sz') =>
        if n = es.length ∧ sz' = sz then
          let (L', G') := setHp loc a (.tok (n + xs.length) sz) L G
          some (.sl (es ++ xs) (.own loc a), L', G')
        else none
      | _ => none
  | .hs loc b g off len =>
    match (hpOf loc L G)[b]? with
    | some (.row g' es) =>
      if g' ≠ g ∨ es.isEmpty = true ∨ szOk P el es = false ∨ (loc = false ∧ noLs xs = false) then none else
      if off + len + xs.length ≤ es.length then
        let (L', G') := setHp loc b (.row g (es.take (off + len) ++ xs ++ es.drop (off + len + xs.length))) L G
        some (.hs loc b g off (len + xs.length), L', G')
      else if off = 0 ∧ len = es.length then
        let (L', G') := setHp loc b (.row (g + 1) (es ++ xs)) L G
        some (.hs loc b (g + 1) 0 (len + xs.length), L', G')
      else none
    | _ => none
  | _ => none

/-- elements of a slice put over those of a row -/
def copyA (P : Program) (el : TypeId) (d : AV) (xs : List AV) (L G : Hp) : Option (Nat × Hp × Hp) :=
  match d with
  | .sl [] _ => some (0, L, G)
  | .hs loc b g off len =>
    match (hpOf loc L G)[b]? with
    | some (.row g' es) =>
      if g' = g ∧ off + len ≤ es.length ∧ es ≠ [] ∧ szOk P el es = true ∧ szOk P el (xs.take len) = true ∧ (loc = true ∨ noLs (handAs true (xs.take len)) = true) then
        some ((xs.take len).length, (setHp loc b (.row g (es.take off ++ handAs true (xs.take len) ++ es.drop (off + (handAs true (xs.take len)).length))) L G))
      else none
    | _ => none
  | _ => none
/-- a slice's elements -/
def slicedA (L G : Hp) (x : AV) : Option (List AV) :=
  match x with
  | .sl es _ => some es
  | .hs .. => elemsOf L G x
  | _ => none

def fieldA (P : Program) (t : TypeId) (p : AV) (f : Nat) : Option AV :=
  (fieldT P t f).bind fun (off, ft) =>
    if szT P ft = 0 then none else
    match p with
    | .ptr loc b g i o => some (.ptr loc b g i (o + off))
    | .rptr v o => some (.rptr v (o + off))
    | _ => none

def indexAddrA (P : Program) (t : TypeId) (x i : AV) (L G : Hp) : Option AV :=
  (intOf i).bind fun n =>
    if n < 0 then none else
    match elemT P t with
    | some el =>
      match x with
      | .sl es _ => (es[n.toNat]?).bind fun v => if v.cells.length = szT P el ∧ szT P el ≠ 0 then some (.rptr v 0) else none
      | .hs loc b g off len =>
        if n.toNat < len then
          (rowAt (hpOf loc L G) b g (off + n.toNat)).bind fun v => if v.cells.length = szT P el then some (.ptr loc b g (off + n.toNat) 0) else none
        else none
      | _ => none
    | none => (arrT P t).bind fun (len, el) =>
      if n.toNat < len then
        match x with
        | .ptr loc b g i o => some (.ptr loc b g i (o + n.toNat * szT P el))
        | .rptr v o => some (.rptr v (o + n.toNat * szT P el))
        | _ => none
      else none

def indexA (P : Program) (t : TypeId) (x i : AV) : Option AV :=
  (intOf i).bind fun n =>
    if n < 0 then none else
    match x with
    | .str s => if isStr P t = false then none else (s[n.toNat]?).map fun b => .int .u8 b.toNat
    | .agg cs => (arrT P t).bind fun (len, el) => if n.toNat < len then (cellT P el).bind fun (ag, k) => (AV.agg cs).part (n.toNat * k) ag k else none
    | _ => none

def convA (P : Program) (src dst : TypeId) (x : AV) : Option AV :=
  match x with
  | .int _ n => if (P.underlying src).isNone then none else (intT P dst).map fun k => .int k (k.wrap n)
  | .str s => if isStr P dst ∧ isStr P src then some (.str s) else none
  | _ => none

/-- A call: a callee that sees the heap gets it; any other one runs over none, what it is handed leads into none. -/
def callA (C : Cfg) (f : Nat) (args : List AV) (L G : Hp) : Option (Rs × Hp × Hp) :=
  match C.A.orc f with
  | some F => (F args L G).map fun (v, L', G') => (.val v, L', G')
  | none =>
  if C.A.sees f then
    if noLs (handAs false args) then
      match C.call f (handAs false args) G with
      | some (.val v, G') => if v.noL then some (.val v, L, G') else none
      | some (.pan v, G') => if v.noL then some (.pan v, L, G') else none
      | none => none
    else none
  else if pfs (handAs true args) then
    match C.call f (handAs true args) [] with
    | some (.val v, _) => if v.pf then some (.val v, L, G) else none
    | some (.pan v, _) => if v.pf then some (.pan v, L, G) else none
    | none => none
  else if pfs (leaves true L G args) then
    match C.call f (leaves true L G args) [] with
    | some (.val v, _) => if v.light then some (.val v, L, G) else none
    | _ => none
  else none

/-- keys: texts, numbers, bools -/
def keyEq : AV → AV → Option Bool
  | .str a, .str b => some (a == b)
  | .int k a, .int k' b => if k = k' then some (a == b) else none
  | .bool a, .bool b => some (a == b)
  | _, _ => none
/-- is a key of a map's type -/
def keyT (P : Program) (t : TypeId) (k : AV) : Bool :=
  match P.underlying t, k with
  | some (.int _), .int _ _ => true
  | some .string, .str _ => true
  | some .bool, .bool _ => true
  | _, _ => false
/-- the place of a key -/
def findA (k : AV) : List (AV × AV) → Nat → Option (Option (Nat × AV))
  | [], _ => some none
  | (k', v) :: l, i => match keyEq k k' with
    | some true => some (some (i, v))
    | some false => findA k l (i + 1)
    | none => none
def mapT (P : Program) (t : TypeId) : Option (TypeId × TypeId) :=
  match P.underlying t with
  | some (.map k e) => some (k, e)
  | _ => none
def mapAt (L G : Hp) : AV → Option (List (AV × AV))
  | .nilm => some []
  | .mp loc b => match (hpOf loc L G)[b]? with
    | some (.map kvs) => some kvs
    | _ => none
  | _ => none
def lookupA (P : Program) (t : TypeId) (m k : AV) (ok : Bool) (L G : Hp) : Option AV :=
  (mapT P t).bind fun (kt, el) => if keyT P kt k = false then none else (mapAt L G m).bind fun kvs => (findA k kvs 0).bind fun r =>
    match r with
    | some (_, v) => some (if ok then .tup [v, .bool true] else v)
    | none => (zeroT P el).map fun z => if ok then .tup [z, .bool false] else z
def updateA (P : Program) (t : TypeId) (m k v : AV) (L G : Hp) : Option (Hp × Hp) :=
  (mapT P t).bind fun (kt, _) => if keyT P kt k = false then none else
    match m with
    | .mp loc b => match (hpOf loc L G)[b]? with
      | some (.map kvs) => if v.flat = false ∨ loc = false ∧ v.noL = false then none else (findA k kvs 0).map fun r =>
          match r with
          | some (i, _) => setHp loc b (.map (kvs.set i (k, v))) L G
          | none => setHp loc b (.map (kvs ++ [(k, v)])) L G
      | _ => none
    | _ => none

def minA : AV → AV → Option AV
  | .int k a, .int k' b => if k = k' then some (.int k (if b < a then b else a)) else none
  | _, _ => none
def maxA : AV → AV → Option AV
  | .int k a, .int k' b => if k = k' then some (.int k (if b > a then b else a)) else none
  | _, _ => none
def foldA (f : AV → AV → Option AV) (x : AV) : List AV → Option AV
  | [] => some x
  | y :: l => (f x y).bind fun z => foldA f z l

/-- One operation: what it yields, and the heaps behind it. -/
def valA (L G : Hp) (x : Option AV) : Option (Rs × Hp × Hp) := x.map fun v => (.val v, L, G)
def evOp0 (P : Program) (A : Ann) (f : Nat) (slot : Option Nat) (o : Oper) (e : Env) (L G : Hp) : Option (Rs × Hp × Hp) :=
  match o.op with
  | .move x => valA L G (some (opd e x))
  | .assign x => valA L G (some (opd e x))
  | .pick c a b => match opd e c with
    | .bool t => valA L G (some (if t then opd e a else opd e b))
    | _ => none
  | .alloc t => (zeroT P t).bind fun z =>
      let loc := !A.glob f (o.dst.getD 0)
      if z.flat ∧ z.cells.length ≠ 0 ∧ (loc = true ∨ z.noL = true) then
        let (b, L', G') := newBlk loc slot (.row 0 [z]) L G
        some (.val (.ptr loc b 0 0 0), L', G')
      else none
  | .box _ x =>
      let z := opd e x
      let loc := !A.glob f (o.dst.getD 0)
      if z.flat ∧ z.cells.length ≠ 0 ∧ (loc = true ∨ z.noL = true) then
        let (b, L', G') := newBlk loc slot (.row 0 [z]) L G
        some (.val (.ptr loc b 0 0 0), L', G')
      else none
  | .build t ps => valA L G (buildA P t (ps.toList.map fun p => (p.1, opd e p.2)))
  | .buildSlice t n ps => (elemT P t).bind fun el => (zeroT P el).bind fun z =>
      (listA (szT P el) (List.replicate n z) (ps.toList.map fun p => (p.1, handY (opd e p.2)))).bind fun es =>
      if n * szT P el ≤ 2 ^ 20 ∧ zeroSz P el = szT P el ∧ z.flat = true ∧ A.rows f (o.dst.getD 0) = false then some (.val (.sl es .full), L, G) else none
  | .load t a => valA L G (loadA P t (opd e a) L G)
  | .store t a x => (storeA P t (opd e a) (opd e x) L G).map fun (L', G') => (.val (.tup []), L', G')
  | .nilCheck x => match opd e x with
    | .ptr loc b g i k => some (.val (.ptr loc b g i k), L, G)
    | .rptr w k => some (.val (.rptr w k), L, G)
    | .fn g cs => some (.val (.fn g cs), L, G)
    | _ => none
  | .binOp op t x y _ => valA L G (binA P t op (opd e x) (opd e y))
  | .unOp op _ x => valA L G (unA op (opd e x))
  | .convert s d x => valA L G (convA P s d (opd e x))
  | .makeFunc fn fst caps => match fn with
    | .func g => if fst.size = 0 then valA L G (some (.fn g (caps.toList.map (opd e)))) else none
    | _ => none
  | .makeSlice t n c => (elemT P t).bind fun el => (zeroT P el).bind fun z =>
      match opd e n, opd e c with
      | .int .i64 a, .int .i64 b =>
        if a = b ∧ 0 ≤ a ∧ a * (P.bytesOf el : Int) ≤ (mostBytes : Int) ∧ a < 2 ^ 44 ∧ zeroSz P el = szT P el ∧ z.flat ∧ z.noL = true then
          let loc := !A.glob f (o.dst.getD 0)
          if a = 0 then some (.val (.sl [] .full), L, G) else
          let (b', L', G') := newBlk loc slot (.row 0 (List.replicate a.toNat z)) L G
          some (.val (.hs loc b' 0 0 a.toNat), L', G')
        else none
      | _, _ => none
  | .makeMap t none => if (mapT P t).isNone then none else
      let loc := !A.glob f (o.dst.getD 0)
      let (b', L', G') := newBlk loc slot (.map []) L G
      some (.val (.mp loc b'), L', G')
  | .lookup t m k ok => valA L G (lookupA P t (opd e m) (opd e k) ok L G)
  | .insert t m k x => (updateA P t (opd e m) (opd e k) (opd e x) L G).map fun (L', G') => (.val (.tup []), L', G')
  | .mapUpdate t m k x => (updateA P t (opd e m) (opd e k) (opd e x) L G).map fun (L', G') => (.val (.tup []), L', G')
  | .slice t x lo hi mx => valA L G (sliceA P t (opd e x) (lo.map (opd e)) (hi.map (opd e)) (mx.map (opd e)) L G)
  | .fieldAddr t x k => valA L G (fieldA P t (opd e x) k)
  | .field t x k => valA L G ((fieldT P t k).bind fun (off, ft) => match opd e x with
      | .agg cs => (cellT P ft).bind fun (ag, k) => (AV.agg cs).part off ag k
      | _ => none)
  | .indexAddr t x i => valA L G (indexAddrA P t (opd e x) (opd e i) L G)
  | .index t x i => valA L G (indexA P t (opd e x) (opd e i))
  | .extract x i => match opd e x with
    | .tup vs => valA L G (vs[i]?)
    | _ => none
  | .makeInterface t x => valA L G (if isIf P t then none else some (.ifc t (handA true (opd e x))))
  | .call c => match c.callee with
    | .builtin .len => match c.args.toList, c.argTypes.toList with
      | [x], [t] => valA L G ((lenA P t (opd e x)).map fun (n : Nat) => AV.int .i64 (n : Int))
      | _, _ => none
    | .builtin .append => match c.args.toList, c.argTypes.toList with
      | [s, x], [t, t'] => (elemT P t).bind fun el => if ((elemT P t').isSome || isStr P t') = false then none else (elemsOf L G (opd e x)).bind fun xs =>
          (appendA P A f (o.dst.getD 0) el slot (opd e s) xs L G).map fun (w, L', G') => (.val w, L', G')
      | _, _ => none
    | .builtin .copy => match c.args.toList, c.argTypes.toList with
      | [d, x], [t, _] => (elemT P t).bind fun el => (slicedA L G (opd e x)).bind fun xs =>
          (copyA P el (opd e d) xs L G).map fun (n, L', G') => (.val (.int .i64 (n : Int)), L', G')
      | _, _ => none
    | .builtin .max => match c.args.toList with
      | x :: l => valA L G (foldA maxA (opd e x) (l.map (opd e)))
      | _ => none
    | .builtin .min => match c.args.toList with
      | x :: l => valA L G (foldA minA (opd e x) (l.map (opd e)))
      | _ => none
    | _ => none
  | _ => none

/-- a call of a function value -/
def calleeOf : Op → Option (Operand × List Operand)
  | .call { callee := .value g, args, .. } => some (g, args.toList)
  | _ => none
def evOp (C : Cfg) (f : Nat) (slot : Option Nat) (o : Oper) (e : Env) (L G : Hp) : Option (Rs × Hp × Hp) :=
  match calleeOf o.op with
  | some (g, args) => match opd e g with
    | .fn g caps => callA C g (args.map (opd e) ++ caps) L G
    | _ => none
  | none => evOp0 C.P C.A f slot o e L G
end Ev
