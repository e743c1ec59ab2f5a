/- An abstract machine for the loaded code: values without addresses, a heap of boxes, no tape. It is run by Lean itself; that it tells the truth of the model is shown in the texts behind this one. -/
import GoSem.Step
namespace Go.Dm
open Go

/-! ### 1. Values, boxes, the heap, a frame -/
inductive V where
  | u
  | b (x : Bool)
  | i (k : IntKind) (n : Int)
  | s (l : List UInt8)
  | p (id off : Nat)
  | pn
  | sl (id off len lb : Nat) (ex : Bool)
  | sn
  | se
  | m (id : Nat)
  | mn
  | fn (f : Nat) (first cap : List V)
  | fz
  | e (isnil : Bool)
  | agg (cs : List V)
  | tup (vs : List V)
  deriving Inhabited

inductive Box where
  | arr (rw : Bool) (ty : Nat) (cs : List V)
  | map (es : List (V × V))
  deriving Inhabited

def Box.rw : Box → Bool
  | .arr x _ _ => x
  | .map _ => true

abbrev Heap := Nat → Option Box
def Heap.set (h : Heap) (k : Nat) (x : Option Box) : Heap := fun j => if j = k then x else h j
def Heap.sets (h : Heap) : List (Nat × Option Box) → Heap
  | [] => h
  | (k, x) :: r => (h.set k x).sets r
def Heap.adds (h : Heap) (nx : Nat) : List Box → Heap
  | [] => h
  | x :: r => (h.set nx (some x)).adds (nx + 1) r
@[simp] theorem Heap.set_same (h : Heap) (k : Nat) (x : Option Box) : h.set k x k = x := by simp [Heap.set]
theorem Heap.set_ne (h : Heap) {k j : Nat} (x : Option Box) (hj : j ≠ k) : h.set k x j = h j := by simp [Heap.set, hj]

def Fr := Nat → V
def Fr.get (f : Fr) (k : Nat) : V := f k
def Fr.put (f : Fr) (k : Nat) (v : V) : Fr := fun j => if j = k then v else f j
@[simp] theorem Fr.get_put (f : Fr) (k : Nat) (v : V) : (f.put k v).get k = v := by simp [Fr.get, Fr.put]
theorem Fr.get_put_ne (f : Fr) {k j : Nat} (v : V) (hj : j ≠ k) : (f.put k v).get j = f.get j := by simp [Fr.get, Fr.put, hj]
def Fr.of : List V → Nat → Fr
  | [], _ => fun _ => .u
  | v :: r, k => (Fr.of r (k + 1)).put k v

structure St where
  h : Heap
  nx : Nat
  wl : List Nat

/-! ### 2. The code -/
inductive Opnd where
  | t (n : Nat)
  | c (v : V)
  deriving Inhabited

/-- What is held against nil, or a bool. -/
inductive UK where
  | bool | ptr | slc | ifc
  deriving Inhabited, DecidableEq

/-- A cell of a struct that is held against another. -/
inductive FK where
  | b | i | s
  deriving Inhabited, DecidableEq

/-- A key of a map: a bool, a number, a text, a struct of one text. -/
inductive KT where
  | b | i | s | st
  deriving Inhabited, DecidableEq

/-- What touches no code: its operands in a list. -/
inductive LOp where
  | mv
  | mvs
  | pick
  | new (ty : Nat) (zero : List V)
  | box (ty n : Nat)
  | build (zero : List V) (pl : List (Nat × Nat))
  | bsl (ty sz len : Nat) (zero : List V) (pl : List Nat)
  | ld (agg : Bool) (n : Nat)
  | st (n : Nat)
  | nck
  | bin (op : BinOp)
  | eqn (uk : UK) (neg : Bool)
  | eqa (ks : List FK) (neg : Bool)
  | not
  | neg
  | cvi (k : IntKind)
  | cvb (ty : Nat)
  | cvs
  | fa (off : Nat)
  | ia (sz : Nat)
  | iaa (len sz : Nat)
  | ixs
  | ixa (len sz : Nat) (agg : Bool)
  | fld (off n : Nat) (agg : Bool)
  | sls (lo hi : Bool)
  | sll (sz : Nat) (lo hi mx : Bool)
  | len (str : Bool)
  | lenc (n : Nat)
  | mnx (mx : Bool)
  | app (ty sz bytes : Nat)
  | mkf (f nfirst : Nat)
  | mkm
  | look (kt : KT) (zero : V) (ok : Bool)
  | mup (kt : KT)
  | ext (k : Nat)
  | mks (ty sz bytes : Nat) (zero : List V)
  deriving Inhabited

inductive IOp where
  | lt (o : LOp) (args : List Opnd)
  | callf (f : Nat) (args : List Opnd)
  | callv (x : Opnd) (args : List Opnd)
  deriving Inhabited

structure IOper where
  dst : Option Nat
  op : IOp
  gd : Option (Nat × Bool)
  deriving Inhabited

inductive ICode where
  | skip
  | reg (ops : List IOper)
  | draw (ops : List IOper) (bm : List Nat)
  | seq (a b : ICode)
  | cond (c : Opnd) (a b : ICode)
  | block (id : Nat) (c : ICode)
  | loop (c : ICode)
  | exit (id : Nat)
  | ret
  deriving Inhabited

inductive IRes where
  | t (k : Nat)
  | cell (k : Nat) (agg : Bool) (n : Nat)
  deriving Inhabited

structure IFunc where
  n : Nat
  res : List IRes
  code : ICode
  deriving Inhabited

/-! ### 3. What an operation gives -/
structure Res where
  v : V
  wr : List (Nat × Option Box) := []
  nw : List Box := []

def V.cells : V → List V
  | .agg cs => cs
  | v => [v]

/-- a[off .. off + n] if it is there. -/
def cut (cs : List V) (off n : Nat) : Option (List V) := if off + n ≤ cs.length then some ((cs.drop off).take n) else none
def splice (cs : List V) (off : Nat) (new : List V) : Option (List V) := if off + new.length ≤ cs.length then some (cs.take off ++ new ++ cs.drop (off + new.length)) else none

def one (agg : Bool) (n : Nat) (cs : List V) : Option V :=
  if agg then some (.agg cs) else if n = 1 then cs.head? else none

def V.ok1 : V → Bool
  | .agg _ | .tup _ | .u => false
  | _ => true

def fillD (cells : List V) : List (Nat × Nat) → List V → Option (List V)
  | [], [] => some cells
  | (off, sz) :: pl, v :: vs => if v.cells.length = sz ∧ v.cells.all V.ok1 then (splice cells off v.cells).bind fun c => fillD c pl vs else none
  | _, _ => none

def intCmpD (op : BinOp) (x y : Int) : Option V :=
  match op with
  | .eql => some (.b (x == y))
  | .neq => some (.b (x != y))
  | .lss => some (.b (decide (x < y)))
  | .leq => some (.b (decide (x ≤ y)))
  | .gtr => some (.b (decide (x > y)))
  | .geq => some (.b (decide (x ≥ y)))
  | _ => none

def bitsD (op : BinOp) (k : IntKind) (x y : Int) : Option V :=
  let a := BitVec.ofInt k.bits x
  let b := BitVec.ofInt k.bits y
  match op with
  | .and => some (.i k (k.wrap (a &&& b).toNat))
  | .or => some (.i k (k.wrap (a ||| b).toNat))
  | .xor => some (.i k (k.wrap (a ^^^ b).toNat))
  | .andNot => some (.i k (k.wrap (a &&& ~~~b).toNat))
  | _ => none

def intD (op : BinOp) (k : IntKind) (x y : Int) : Option V :=
  match op with
  | .add => some (.i k (k.wrap (x + y)))
  | .sub => some (.i k (k.wrap (x - y)))
  | .mul => some (.i k (k.wrap (x * y)))
  | .quo => if y = 0 then none else some (.i k (k.wrap (x.tdiv y)))
  | .rem => if y = 0 then none else some (.i k (x.tmod y))
  | .and | .or | .xor | .andNot => bitsD op k x y
  | _ => intCmpD op x y

def shiftD (op : BinOp) (k : IntKind) (x y : Int) : Option V :=
  if y < 0 then none else
  match op with
  | .shl => some (.i k (k.wrap (x * 2 ^ min y.toNat k.bits)))
  | .shr => some (.i k (x.fdiv (2 ^ min y.toNat k.bits)))
  | _ => none

def strD (op : BinOp) (x y : List UInt8) : Option V :=
  match op with
  | .add => if x.length + y.length ≤ 9223372036854775807 then some (.s (x ++ y)) else none
  | .eql => some (.b (x == y))
  | .neq => some (.b (!(x == y)))
  | _ => none

/-- '==' of what is no number, no string: a bool; against nil. -/
def eqD : UK → V → V → Option Bool
  | .bool, .b x, .b y => some (x == y)
  | .ptr, .pn, .pn => some true
  | .ptr, .p _ _, .pn => some false
  | .ptr, .pn, .p _ _ => some false
  | .slc, .sn, .sn => some true
  | .slc, .sl .., .sn => some false
  | .slc, .sn, .sl .. => some false
  | .slc, .se, .sn => some false
  | .slc, .sn, .se => some false
  | .ifc, .e x, .e true => some x
  | .ifc, .e true, .e x => some x
  | _, _, _ => none

def binD (op : BinOp) : V → V → Option V
  | .i k x, .i k' y =>
    match op with
    | .shl | .shr => shiftD op k x y
    | _ => if k = k' then intD op k x y else none
  | .s x, .s y => strD op x y
  | _, _ => none

/-- '==' of two cells of one struct. -/
def eq1 : FK → V → V → Option Bool
  | .b, .b x, .b y => some (x == y)
  | .i, .i k x, .i k' y => if k = k' then some (x == y) else none
  | .s, .s x, .s y => some (x == y)
  | _, _, _ => none
def eqs : List FK → List V → List V → Option Bool
  | [], [], [] => some true
  | k :: ks, x :: xs, y :: ys => (eq1 k x y).bind fun z => if z then eqs ks xs ys else some false
  | _, _, _ => none

def keyD : KT → V → V → Option Bool
  | .b, .b x, .b y => some (x == y)
  | .i, .i k x, .i k' y => if k = k' then some (x == y) else none
  | .s, .s x, .s y => some (x == y)
  | .st, .agg [.s x], .agg [.s y] => some (x == y)
  | _, _, _ => none
def okK : KT → V → Bool
  | .b, .b _ => true
  | .i, .i _ _ => true
  | .s, .s _ => true
  | .st, .agg [.s _] => true
  | _, _ => false
def findD (kt : KT) (k : V) : List (V × V) → Nat → Option (Option (Nat × V))
  | [], _ => some none
  | (k', v) :: r, n => (keyD kt k k').bind fun z => if z then some (some (n, v)) else findD kt k r (n + 1)

/-- The bounds of a slice expression: low, high. -/
def boundD : V → Option Nat
  | .i _ n => if 0 ≤ n then some n.toNat else none
  | _ => none

def bytesOfCells : List V → Option (List UInt8)
  | [] => some []
  | .i .u8 n :: r => (bytesOfCells r).map fun l => UInt8.ofNat n.toNat :: l
  | _ => none

/-- The ids of the boxes that an operation looks into. -/
def LOp.rd : LOp → List V → List Nat
  | .ld .., [.p id _] => [id]
  | .st .., [.p id _, _] => [id]
  | .cvs, [.sl id _ _ _ _] => [id]
  | .app .., [.sl a _ _ _ _, .sl b _ _ _ _] => [a, b]
  | .app .., [.sl a _ _ _ _, _] => [a]
  | .app .., [_, .sl b _ _ _ _] => [b]
  | .look .., [.m id, _] => [id]
  | .mup .., [.m id, _, _] => [id]
  | _, _ => []

def sllD (sz id off len lb : Nat) (ex : Bool) (lo hi mx : Option Nat) : Option V :=
  let m := mx.getD lb
  let h := hi.getD len
  let l := lo.getD 0
  if l ≤ h ∧ h ≤ m ∧ m ≤ lb then
    if l = 0 then some (.sl id off h m (ex || mx.isSome))
    else if l < h then some (.sl id (off + l * sz) (h - l) (m - l) (ex || mx.isSome))
    else some .se
  else none

/-- What is appended: how many elements, their cells. -/
def newsD (sz : Nat) : V → List Box → Option (Nat × List V)
  | .sn, _ => some (0, [])
  | .se, _ => some (0, [])
  | .s l, _ => if sz = 1 then some (l.length, l.map fun c => .i .u8 c.toNat) else none
  | .sl _ off len _ _, bs => match bs.getLast? with
    | some (.arr _ _ cs) => (cut cs off (len * sz)).map fun c => (len, c)
    | _ => none
  | _, _ => none

def appD (ty sz bytes nx : Nat) (s x : V) (bs : List Box) : Option Res :=
  match newsD sz x bs with
  | none => none
  | some (n, new) =>
    match s with
    | .sn => if n = 0 then some { v := .sn } else if n * bytes ≤ 140737488355328 then some { v := .sl nx 0 n n false, nw := [.arr true ty new] } else none
    | .se => if n = 0 then some { v := .se } else none
    | .sl id off len lb ex =>
      if n = 0 then some { v := .sl id off len lb ex }
      else if (len + n) * bytes ≤ 140737488355328 then
        match bs.head? with
        | some (.arr rw ty' cs) =>
          if ex = true ∧ lb < len + n then (cut cs off (len * sz)).map fun old => { v := .sl nx 0 (len + n) (len + n) false, nw := [.arr true ty (old ++ new)] }
          else if rw = true ∧ off = 0 ∧ cs.length = len * sz ∧ ty' = ty then some { v := .sl nx 0 (len + n) (len + n) false, wr := [(id, none)], nw := [.arr true ty (cs ++ new)] }
          else none
        | _ => none
      else none
    | _ => none

def vres (v : Option V) : Option Res := v.map fun v => { v }
def sMv : List V → Option V | [x] => some x | _ => none
def sMvs : List V → Option V | [.s l] => some (.s l) | _ => none
def sPick : List V → Option V | [.b c, x, y] => some (if c then x else y) | _ => none
def sNew (nx ty : Nat) (zero : List V) : List V → Option Res | [] => some { v := .p nx 0, nw := [.arr true ty zero] } | _ => none
def sBox (nx ty n : Nat) : List V → Option Res | [x] => if x.cells.length = n ∧ x.cells.all V.ok1 = true then some { v := .p nx 0, nw := [.arr true ty x.cells] } else none | _ => none
def sBsl (nx ty sz ln : Nat) (zero : List V) (pl : List Nat) (vs : List V) : Option Res :=
  (fillD (List.replicate ln zero).flatten (pl.map fun k => (k * sz, sz)) vs).map fun cs => { v := .sl nx 0 ln ln true, nw := [.arr true ty cs] }
def sLd (agg : Bool) (n : Nat) : List V → List Box → Option V | [.p _ off], [.arr _ _ cs] => (cut cs off n).bind fun c => one agg n c | _, _ => none
def sSt (n : Nat) : List V → List Box → Option Res
  | [.p id off, x], [.arr true ty cs] => if x.cells.length = n ∧ x.cells.all V.ok1 = true then (splice cs off x.cells).map fun c => { v := .u, wr := [(id, some (.arr true ty c))] } else none
  | _, _ => none
def sNck : List V → Option V | [.p id off] => some (.p id off) | _ => none
def sBin (op : BinOp) : List V → Option V | [x, y] => binD op x y | _ => none
def sEqn (uk : UK) (ng : Bool) : List V → Option V | [x, y] => (eqD uk x y).map fun z => .b (z != ng) | _ => none
def sEqa (ks : List FK) (ng : Bool) : List V → Option V | [.agg xs, .agg ys] => (eqs ks xs ys).map fun z => .b (z != ng) | _ => none
def sNot : List V → Option V | [.b x] => some (.b (!x)) | _ => none
def sNeg : List V → Option V | [.i k x] => some (.i k (k.wrap (0 - x))) | _ => none
def sCvi (k : IntKind) : List V → Option V | [.i _ x] => some (.i k (k.wrap x)) | _ => none
def sCvb (nx ty : Nat) : List V → Option Res | [.s l] => if l.length ≤ 140737488355328 then some { v := .sl nx 0 l.length l.length false, nw := [.arr true ty (l.map fun c => .i .u8 c.toNat)] } else none | _ => none
def sCvs : List V → List Box → Option V
  | [.sn], _ => some (.s [])
  | [.sl _ off ln _ _], [.arr _ _ cs] => (cut cs off ln).bind fun c => (bytesOfCells c).map .s
  | _, _ => none
def sFa (off : Nat) : List V → Option V | [.p id o] => some (.p id (o + off)) | _ => none
def sIa (sz : Nat) : List V → Option V | [.sl id off ln _ _, .i _ n] => if 0 ≤ n ∧ n < ln then some (.p id (off + n.toNat * sz)) else none | _ => none
def sIaa (ln sz : Nat) : List V → Option V | [.p id off, .i _ n] => if 0 ≤ n ∧ n < ln then some (.p id (off + n.toNat * sz)) else none | _ => none
def sIxs : List V → Option V | [.s l, .i _ n] => if 0 ≤ n then (l[n.toNat]?).map fun c => .i .u8 c.toNat else none | _ => none
def sIxa (ln sz : Nat) (agg : Bool) : List V → Option V | [.agg cs, .i _ n] => if 0 ≤ n ∧ n < ln then (cut cs (n.toNat * sz) sz).bind fun c => one agg sz c else none | _ => none
def sFld (off n : Nat) (agg : Bool) : List V → Option V | [.agg cs] => (cut cs off n).bind fun c => one agg n c | _ => none
/-- The bounds of a slice expression: low, high, max. -/
def bounds3 : Bool → Bool → Bool → List V → Option (Option Nat × Option Nat × Option Nat)
  | false, false, false, [] => some (none, none, none)
  | true, false, false, [x] => (boundD x).map fun a => (some a, none, none)
  | false, true, false, [y] => (boundD y).map fun b => (none, some b, none)
  | true, true, false, [x, y] => (boundD x).bind fun a => (boundD y).map fun b => (some a, some b, none)
  | false, true, true, [y, z] => (boundD y).bind fun b => (boundD z).map fun c => (none, some b, some c)
  | true, true, true, [x, y, z] => (boundD x).bind fun a => (boundD y).bind fun b => (boundD z).map fun c => (some a, some b, some c)
  | _, _, _, _ => none
def slsD (l : List UInt8) (lo hi : Option Nat) : Option V :=
  let h := hi.getD l.length
  let a := lo.getD 0
  if a ≤ h ∧ h ≤ l.length then some (.s ((l.take h).drop a)) else none
def sSls (lo hi : Bool) : List V → Option V | .s l :: r => (bounds3 lo hi false r).bind fun b => slsD l b.1 b.2.1 | _ => none
def sSll (sz : Nat) (lo hi mx : Bool) : List V → Option V
  | .sl id off ln lb ex :: r => (bounds3 lo hi mx r).bind fun b => sllD sz id off ln lb ex b.1 b.2.1 b.2.2
  | .sn :: r => (bounds3 lo hi mx r).bind fun b => if b.1.getD 0 = 0 ∧ b.2.1.getD 0 = 0 ∧ b.2.2.getD 0 = 0 then some .sn else none
  | _ => none
def sLen : Bool → List V → Option V
  | true, [.s l] => some (.i .i64 l.length)
  | false, [.sl _ _ n _ _] => some (.i .i64 n)
  | false, [.sn] => some (.i .i64 0)
  | false, [.se] => some (.i .i64 0)
  | _, _ => none
def sLenc (n : Nat) : List V → Option V | [_] => some (.i .i64 n) | _ => none
def sMnx (mx : Bool) : List V → Option V | [.i k x, .i k' y] => if k = k' then some (.i k (if mx then (if x < y then y else x) else (if y < x then y else x))) else none | _ => none
def sApp (nx ty sz bytes : Nat) : List V → List Box → Option Res | [s, x], bs => appD ty sz bytes nx s x bs | _, _ => none
def sMkf (f nf : Nat) (vs : List V) : Option V := if nf ≤ vs.length then some (.fn f (vs.take nf) (vs.drop nf)) else none
def sMkm (nx : Nat) : List V → Option Res | [] => some { v := .m nx, nw := [.map []] } | _ => none
def sLook (kt : KT) (zero : V) (ok : Bool) : List V → List Box → Option V
  | [.m _, k], [.map es] => if okK kt k = true then (findD kt k es 0).map fun r => match r with
      | some (_, v) => if ok then .tup [v, .b true] else v
      | none => if ok then .tup [zero, .b false] else zero
    else none
  | _, _ => none
def sMup (kt : KT) : List V → List Box → Option Res
  | [.m id, k, v], [.map es] => if okK kt k = true then (findD kt k es 0).map fun r => match r with
      | some (n, _) => { v := .u, wr := [(id, some (.map (es.set n (k, v))))] }
      | none => { v := .u, wr := [(id, some (.map (es ++ [(k, v)])))] }
    else none
  | _, _ => none
def sExt (k : Nat) : List V → Option V | [.tup vs] => vs[k]? | _ => none
def sMks (nx ty bytes : Nat) (zero : List V) : List V → Option Res
  | [.i _ l, .i _ c] => if 0 ≤ l ∧ l = c ∧ l * bytes ≤ 281474976710656 ∧ l ≤ 9223372036854775807 then some { v := .sl nx 0 l.toNat l.toNat true, nw := [.arr true ty (List.replicate l.toNat zero).flatten] } else none
  | _ => none

def LOp.sem (nx : Nat) (o : LOp) (vs : List V) (bs : List Box) : Option Res :=
  match o with
  | .mv => vres (sMv vs)
  | .mvs => vres (sMvs vs)
  | .pick => vres (sPick vs)
  | .new ty zero => sNew nx ty zero vs
  | .box ty n => sBox nx ty n vs
  | .build zero pl => vres ((fillD zero pl vs).map .agg)
  | .bsl ty sz ln zero pl => sBsl nx ty sz ln zero pl vs
  | .ld agg n => vres (sLd agg n vs bs)
  | .st n => sSt n vs bs
  | .nck => vres (sNck vs)
  | .bin op => vres (sBin op vs)
  | .eqn uk ng => vres (sEqn uk ng vs)
  | .eqa ks ng => vres (sEqa ks ng vs)
  | .not => vres (sNot vs)
  | .neg => vres (sNeg vs)
  | .cvi k => vres (sCvi k vs)
  | .cvb ty => sCvb nx ty vs
  | .cvs => vres (sCvs vs bs)
  | .fa off => vres (sFa off vs)
  | .ia sz => vres (sIa sz vs)
  | .iaa ln sz => vres (sIaa ln sz vs)
  | .ixs => vres (sIxs vs)
  | .ixa ln sz agg => vres (sIxa ln sz agg vs)
  | .fld off n agg => vres (sFld off n agg vs)
  | .sls lo hi => vres (sSls lo hi vs)
  | .sll sz lo hi mx => vres (sSll sz lo hi mx vs)
  | .len str => vres (sLen str vs)
  | .lenc n => vres (sLenc n vs)
  | .mnx mx => vres (sMnx mx vs)
  | .app ty sz bytes => sApp nx ty sz bytes vs bs
  | .mkf f nf => vres (sMkf f nf vs)
  | .mkm => sMkm nx vs
  | .look kt zero ok => vres (sLook kt zero ok vs bs)
  | .mup kt => sMup kt vs bs
  | .ext k => vres (sExt k vs)
  | .mks ty _ bytes zero => sMks nx ty bytes zero vs

/-! ### 4. The machine -/
def Opnd.ev (fr : Fr) : Opnd → V
  | .t n => fr.get n
  | .c v => v
def fetch (h : Heap) : List Nat → Option (List Box)
  | [] => some []
  | id :: r => (h id).bind fun b => (fetch h r).map fun bs => b :: bs

def St.apply (st : St) (r : Res) : St := { h := (st.h.sets r.wr).adds st.nx r.nw, nx := st.nx + r.nw.length, wl := r.wr.map (·.1) ++ st.wl }

def ltX (o : LOp) (vs : List V) (st : St) : Option (V × St) :=
  (fetch st.h (o.rd vs)).bind fun bs => (o.sem st.nx vs bs).map fun r => (r.v, st.apply r)

/-- A call: the function, its arguments, the heap, the next number. Back: the result, the heap, the next number, what was written. -/
abbrev CallF := Nat → List V → Heap → Nat → Option (V × Heap × Nat × List Nat)

def callX (cf : CallF) (f : Nat) (vs : List V) (st : St) : Option (V × St) :=
  (cf f vs st.h st.nx).map fun r => (r.1, { h := r.2.1, nx := r.2.2.1, wl := r.2.2.2 ++ st.wl })

def opX (cf : CallF) (o : IOp) (fr : Fr) (st : St) : Option (V × St) :=
  match o with
  | .lt o args => ltX o (args.map (·.ev fr)) st
  | .callf f args => callX cf f (args.map (·.ev fr)) st
  | .callv x args => match x.ev fr with
    | .fn f first cap => callX cf f (first ++ args.map (·.ev fr) ++ cap) st
    | _ => none

def putD (fr : Fr) : Option Nat → V → Fr
  | some d, v => fr.put d v
  | none, _ => fr

def wantedD (o : IOper) (fr : Fr) : Option Bool :=
  match o.gd with
  | none => some true
  | some (k, want) => match fr.get k with | .b x => some (x == want) | .u => some false | _ => none

def regX (cf : CallF) : List IOper → Fr → St → Option (Fr × St)
  | [], fr, st => some (fr, st)
  | o :: r, fr, st => (wantedD o fr).bind fun w =>
    if w then (opX cf o.op fr st).bind fun x => regX cf r (putD fr o.dst x.1) x.2
    else regX cf r (putD fr o.dst .u) st

inductive Ex where
  | n
  | x (id : Nat)
  | r
  deriving Inhabited, DecidableEq

def iter (f : Fr → St → Option (Ex × Fr × St)) : Nat → Fr → St → Option (Ex × Fr × St)
  | 0, _, _ => none
  | k + 1, fr, st => (f fr st).bind fun r => match r.1 with | .n => iter f k r.2.1 r.2.2 | e => some (e, r.2)

/-- What an operation of an open order has done: is it light, what it looked into, what it wrote, which numbers are its own. -/
structure Did where
  light : Bool
  rd : List Nat
  wr : List Nat
  lo : Nat
  hi : Nat

def lightD (o : IOp) (fr : Fr) : Bool × List Nat :=
  match o with
  | .lt o args => (true, o.rd (args.map (·.ev fr)))
  | _ => (false, [])

/-- May number j be seen by the operation whose earlier ones are the bits of m? -/
def seenBy (m : Nat) : List Did → Nat → Nat → Bool
  | [], _, _ => true
  | d :: ds, k, j => (Nat.testBit m k || !(decide (d.lo ≤ j ∧ j < d.hi) || d.wr.contains j)) && seenBy m ds (k + 1) j
/-- What is written now was touched by nothing of open order. -/
def freeOf (m : Nat) (wr : List Nat) : List Did → Nat → Bool
  | [], _ => true
  | d :: ds, k => (Nat.testBit m k || wr.isEmpty || (d.light && wr.all fun j => !d.rd.contains j && !decide (d.lo ≤ j ∧ j < d.hi) && !d.wr.contains j)) && freeOf m wr ds (k + 1)
/-- What is written was there, and the operation's own to write. -/
def okW (light : Bool) (rd : List Nat) (h : Heap) (wl : List Nat) : Bool :=
  wl.all fun j => (match h j with | some b => b.rw | none => false) && (!light || rd.contains j)

def drawX (cf : CallF) : List IOper → List Nat → List Did → Fr → St → Option (Fr × St)
  | [], _, _, fr, st => some (fr, st)
  | o :: r, bm, ds, fr, st => (wantedD o fr).bind fun w =>
    if w then
      let hs : Heap := fun j => if seenBy (bm.headD 0) ds 0 j then st.h j else none
      (opX cf o.op fr { h := hs, nx := st.nx, wl := [] }).bind fun x =>
        if freeOf (bm.headD 0) x.2.wl ds 0 && okW (lightD o.op fr).1 (lightD o.op fr).2 hs x.2.wl then
          drawX cf r bm.tail (ds ++ [{ light := (lightD o.op fr).1, rd := (lightD o.op fr).2, wr := x.2.wl, lo := st.nx, hi := x.2.nx }]) (putD fr o.dst x.1)
            { h := fun j => if (st.nx ≤ j ∧ j < x.2.nx) ∨ x.2.wl.contains j = true then x.2.h j else st.h j, nx := x.2.nx, wl := x.2.wl ++ st.wl }
        else none
    else drawX cf r bm.tail (ds ++ [{ light := true, rd := [], wr := [], lo := st.nx, hi := st.nx }]) (putD fr o.dst .u) st

def codeX (cf : CallF) (L : Nat) : ICode → Fr → St → Option (Ex × Fr × St)
  | .skip, fr, st => some (.n, fr, st)
  | .reg ops, fr, st => (regX cf ops fr st).map fun r => (.n, r)
  | .draw ops bm, fr, st => (drawX cf ops bm [] fr st).map fun r => (.n, r)
  | .seq a b, fr, st => (codeX cf L a fr st).bind fun r => match r.1 with | .n => codeX cf L b r.2.1 r.2.2 | e => some (e, r.2)
  | .cond c a b, fr, st => match c.ev fr with
    | .b true => codeX cf L a fr st
    | .b false => codeX cf L b fr st
    | _ => none
  | .block id c, fr, st => (codeX cf L c fr st).map fun r => (if r.1 = .x id then .n else r.1, r.2)
  | .loop c, fr, st => iter (codeX cf L c) L fr st
  | .exit id, fr, st => some (.x id, fr, st)
  | .ret, fr, st => some (.r, fr, st)

def resD (h : Heap) (fr : Fr) : IRes → Option V
  | .t k => some (fr.get k)
  | .cell k agg n => match fr.get k with
    | .p id off => match h id with
      | some (.arr _ _ cs) => (cut cs off n).bind (one agg n)
      | _ => none
    | _ => none
def ressD (h : Heap) (fr : Fr) : List IRes → Option (List V)
  | [] => some []
  | r :: rs => (resD h fr r).bind fun v => (ressD h fr rs).map fun vs => v :: vs
def tupD : List V → V
  | [v] => v
  | vs => .tup vs

/-- The functions' own code, and what is told of others (the library's) without running them. -/
structure Lib where
  fn : Nat → Option IFunc
  prim : Nat → Option (List V → Heap → Nat → Option Res)
  L : Nat

def Lib.call (G : Lib) : Nat → CallF
  | 0, _, _, _, _ => none
  | k + 1, f, vs, h, nx =>
    match G.prim f with
    | some p => (p vs h nx).map fun r => (r.v, (h.sets r.wr).adds nx r.nw, nx + r.nw.length, r.wr.map (·.1))
    | none => match G.fn f with
      | none => none
      | some F => if vs.length ≤ F.n then
        (codeX (G.call k) G.L F.code (Fr.of vs 0) { h, nx, wl := [] }).bind fun r =>
        match r.1 with
        | .x _ => none
        | _ => (ressD r.2.2.h r.2.1 F.res).map fun vs' => (tupD vs', r.2.2.h, r.2.2.nx, r.2.2.wl.filter fun id => !decide (nx ≤ id ∧ id < r.2.2.nx))
        else none
end Go.Dm
