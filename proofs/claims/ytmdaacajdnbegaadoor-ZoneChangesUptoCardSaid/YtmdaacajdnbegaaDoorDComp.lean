/- From the loaded code to the machine's own code: what is compiled is looked at by the kernel. -/
import Derived.Test.YtmdaacajdnbegaaDoorDCore
import GoSem.Core.Region
import GoSem.Core.Layout
import GoSem.Op.Equal
namespace Go.Dm
open Go

def absC : Value → Option V
  | .bool x => some (.b x)
  | .int k n => some (.i k n)
  | .string s => some (.s s.data.toList)
  | .pointer none => some .pn
  | .slice none 0 0 => some .sn
  | .map none => some .mn
  | .nilFunc => some .fz
  | .nilIface => some (.e true)
  | _ => none
def absL : List Value → Option (List V)
  | [] => some []
  | v :: r => (absC v).bind fun x => (absL r).map fun xs => x :: xs
def absV : Value → Option V
  | .agg cs => (absL cs.toList).map .agg
  | v => absC v

def compO : Operand → Option Opnd
  | .tmp t => some (.t t)
  | .const v => (absV v).map .c
  | .func f => some (.c (.fn f [] []))
  | .global _ => none
def compOs : List Operand → Option (List Opnd)
  | [] => some []
  | x :: r => (compO x).bind fun a => (compOs r).map fun as => a :: as

section
variable (P : Program)
def szT (t : TypeId) : Option Nat := (P.info? t).map (·.size)
def byT (t : TypeId) : Option Nat := (P.info? t).map (·.bytes)
def zeT (t : TypeId) : Option (List V) := (P.info? t).bind fun i => i.zero.bind fun z => absL z.cells.toList
def agT (t : TypeId) : Option Bool := match P.underlying t with
  | some (.struct _) => some true
  | some (.array _ _) => some true
  | some _ => some false
  | none => none
def fkT (t : TypeId) : Option FK := match P.underlying t with
  | some .bool => some .b
  | some (.int _) => some .i
  | some .string => some .s
  | _ => none
def fksT : List Field → Nat → Option (List FK)
  | [], _ => some []
  | f :: fs, j => if f.name ≠ "_" ∧ f.offset = j then (fkT P f.type).bind fun k => (fksT fs (j + 1)).map fun ks => k :: ks else none
/-- A struct of plain cells: '==' goes cell by cell. -/
def flatT (t : TypeId) : Option (List FK) := match P.underlying t with
  | some (.struct fs) => if P.stoodInHeld t = false ∧ P.eqGuardType P.depth t = false then fksT P fs.toList 0 else none
  | _ => none
def keyT (t : TypeId) : Option KT := match P.underlying t with
  | some .bool => some .b
  | some (.int _) => some .i
  | some .string => some .s
  | some (.struct _) => if flatT P t = some [.s] then some .st else none
  | _ => none
def isU8 (t : TypeId) : Bool := match P.underlying t with
  | some (.int .u8) => true
  | _ => false
def zvT (t : TypeId) : Option V := (P.info? t).bind fun i => i.zero.bind fun z => absV z
end
def isC : Operand → Bool
  | .const _ => true
  | _ => false
section
variable (P : Program)
def ukT (t : TypeId) (x y : Operand) : Option UK := match P.underlying t with
  | some .bool => some .bool
  | some (.pointer _) => some .ptr
  | some (.slice _) => some .slc
  | some (.interface _) => if isC x || isC y then some .ifc else none
  | _ => none

def placesT (fs : Array Field) : List Nat → Option (List (Nat × Nat))
  | [] => some []
  | k :: r => (fs[k]?).bind fun f => (szT P f.type).bind fun s => (placesT fs r).map fun l => (f.offset, s) :: l

def lt (o : LOp) (xs : List Operand) : Option IOp := (compOs xs).map (.lt o)

def compOp (o : Op) : Option IOp :=
  match o with
  | .move x | .assign x => lt .mv [x]
  | .pick c a b => lt .pick [c, a, b]
  | .alloc t => (zeT P t).bind fun z => lt (.new t z) []
  | .box t x => (szT P t).bind fun n => lt (.box t n) [x]
  | .build t ps => (zeT P t).bind fun z => match P.underlying t with
    | some (.struct fs) => (placesT P fs (ps.toList.map (·.1))).bind fun pl => if (fs.toList.all fun f => (szT P f.type).isSome) = true then lt (.build z pl) (ps.toList.map (·.2)) else none
    | some (.array _ e) => (szT P e).bind fun s => lt (.build z (ps.toList.map fun p => (p.1 * s, s))) (ps.toList.map (·.2))
    | _ => none
  | .buildSlice t n ps => match P.underlying t with
    | some (.slice e) => (szT P e).bind fun s => (zeT P e).bind fun z => if n * s ≤ 16777216 ∧ z.length = s ∧ s ≠ 0 then lt (.bsl e s n z (ps.toList.map (·.1))) (ps.toList.map (·.2)) else none
    | _ => none
  | .load t a => (agT P t).bind fun g => (szT P t).bind fun n => if g = true ∨ n = 1 then lt (.ld g n) [a] else none
  | .store t a x => (szT P t).bind fun n => lt (.st n) [a, x]
  | .nilCheck x => lt .nck [x]
  | .binOp op t x y _ =>
    match op with
    | .eql | .neq => match P.underlying t with
      | some (.int _) | some .string => lt (.bin op) [x, y]
      | some (.struct _) => (flatT P t).bind fun ks => lt (.eqa ks (op matches .neq)) [x, y]
      | _ => (ukT P t x y).bind fun uk => lt (.eqn uk (op matches .neq)) [x, y]
    | _ => lt (.bin op) [x, y]
  | .unOp .not _ x => lt .not [x]
  | .unOp .neg _ x => lt .neg [x]
  | .convert s d x => match P.underlying s, P.underlying d with
    | some (.int _), some (.int k) => lt (.cvi k) [x]
    | some .string, some .string => lt .mvs [x]
    | some .string, some (.slice e) => if isU8 P e = true ∧ szT P e = some 1 then lt (.cvb e) [x] else none
    | some (.slice e), some .string => if isU8 P e = true then lt .cvs [x] else none
    | _, _ => none
  | .makeFunc (.func f) a c => lt (.mkf f a.size) (a.toList ++ c.toList)
  | .makeMap _ none => lt .mkm []
  | .makeSlice t l c => match P.underlying t with
    | some (.slice e) => (szT P e).bind fun s => (byT P e).bind fun b => (zeT P e).bind fun z => if z.length = s ∧ s ≠ 0 ∧ b ≠ 0 then lt (.mks e s b z) [l, c] else none
    | _ => none
  | .slice t x lo hi mx => match P.underlying t, mx with
    | some .string, none => lt (.sls lo.isSome hi.isSome) ([x] ++ lo.toList ++ hi.toList)
    | some (.slice e), _ => (szT P e).bind fun s => lt (.sll s lo.isSome hi.isSome mx.isSome) ([x] ++ lo.toList ++ hi.toList ++ mx.toList)
    | _, _ => none
  | .fieldAddr t x k => match P.underlying t with
    | some (.struct fs) => (fs[k]?).bind fun f => (szT P f.type).bind fun s => if s ≠ 0 then lt (.fa f.offset) [x] else none
    | _ => none
  | .field t x k => match P.underlying t with
    | some (.struct fs) => (fs[k]?).bind fun f => (szT P f.type).bind fun s => (agT P f.type).bind fun g => if g = true ∨ s = 1 then lt (.fld f.offset s g) [x] else none
    | _ => none
  | .indexAddr t x k => match P.underlying t with
    | some (.slice e) => (szT P e).bind fun s => lt (.ia s) [x, k]
    | some (.array n e) => (szT P e).bind fun s => lt (.iaa n s) [x, k]
    | _ => none
  | .index t x k => match P.underlying t with
    | some .string => lt .ixs [x, k]
    | some (.array n e) => (szT P e).bind fun s => (agT P e).bind fun g => if g = true ∨ s = 1 then lt (.ixa n s g) [x, k] else none
    | _ => none
  | .lookup t m k ok => match P.underlying t with
    | some (.map kt e) => (keyT P kt).bind fun q => (zvT P e).bind fun z => lt (.look q z ok) [m, k]
    | _ => none
  | .mapUpdate t m k x | .insert t m k x => match P.underlying t with
    | some (.map kt _) => (keyT P kt).bind fun q => lt (.mup q) [m, k, x]
    | _ => none
  | .extract x k => lt (.ext k) [x]
  | .call c =>
    match c.callee with
    | .value (.func f) => (compOs c.args.toList).map (.callf f)
    | .value x => (compO x).bind fun a => (compOs c.args.toList).map (.callv a)
    | .builtin .len => (c.argTypes[0]?).bind fun t => match P.underlying t with
      | some .string => lt (.len true) c.args.toList
      | some (.slice _) => lt (.len false) c.args.toList
      | some (.array n _) => lt (.lenc n) c.args.toList
      | _ => none
    | .builtin .append => (c.argTypes[0]?).bind fun t => (c.argTypes[1]?).bind fun u => match P.underlying t, P.underlying u with
      | some (.slice e), some (.slice _) | some (.slice e), some .string => (szT P e).bind fun s => (byT P e).bind fun b => (zeT P e).bind fun z => if s ≠ 0 ∧ b ≠ 0 ∧ z.length = s then lt (.app e s b) c.args.toList else none
      | _, _ => none
    | .builtin .min => lt (.mnx false) c.args.toList
    | .builtin .max => lt (.mnx true) c.args.toList
    | _ => none
  | _ => none

def compG (ops : Array Oper) : Option (Nat × Bool) → Option (Option (Nat × Bool))
  | none => some none
  | some (j, w) => (ops[j]?).bind fun o => o.dst.map fun d => some (d, w)
def okDst (n : Nat) : Option Nat → Bool
  | some d => decide (d < n)
  | none => true
def compOpers (n : Nat) (ops : Array Oper) : List Oper → Option (List IOper)
  | [] => some []
  | o :: r => (compOp P o.op).bind fun p => (compG ops o.guard).bind fun g =>
    if okDst n o.dst = true then (compOpers n ops r).map fun l => { dst := o.dst, op := p, gd := g } :: l else none
/-- What comes before each operation, as bits: as Region.before, by structure. -/
def bef1 (acc : List Nat) : List Edge → Nat
  | [] => 0
  | e :: r => if Region.binds .any e then bef1 acc r ||| 2 ^ e.on ||| acc.getD e.on 0 else bef1 acc r
def befs : List Oper → List Nat → List Nat
  | [], acc => acc
  | o :: r, acc => befs r (acc ++ [bef1 acc o.after.toList])
/-- Edges go back. -/
def edgesOK : List Oper → Nat → Bool
  | [], _ => true
  | o :: r, i => o.after.toList.all (fun e => !Region.binds .any e || decide (e.on < i)) && edgesOK r (i + 1)
def usesO : List Opnd → List Nat
  | [] => []
  | .t t :: r => t :: usesO r
  | .c _ :: r => usesO r
/-- The temporaries that an operation reads. -/
def uses (o : IOper) : List Nat :=
  (match o.op with | .lt _ as => usesO as | .callf _ as => usesO as | .callv x as => usesO (x :: as)) ++ (match o.gd with | some (k, _) => [k] | none => [])
/-- Whoever sets t comes before. -/
def setBy (m i t : Nat) : List IOper → Nat → Bool
  | [], _ => true
  | p :: r, j => (p.dst != some t || (decide (j < i) && Nat.testBit m j)) && setBy m i t r (j + 1)
def usesOK (all : List IOper) : List IOper → List Nat → Nat → Bool
  | [], _, _ => true
  | o :: r, bm, i => (uses o).all (fun t => setBy (bm.headD 0) i t all 0) && usesOK all r bm.tail (i + 1)
def dstsOK : List IOper → Bool
  | [] => true
  | o :: r => (match o.dst with | some d => r.all fun p => p.dst != some d | none => true) && dstsOK r
def drawOK (ops : List Oper) (l : List IOper) : Bool := edgesOK ops 0 && usesOK l l (befs ops []) 0 && dstsOK l
def compC (n : Nat) : Code → Option ICode
  | .skip => some .skip
  | .region _ ops draw => (compOpers P n ops ops.toList).bind fun l => if draw then (if drawOK ops.toList l = true then some (.draw l (befs ops.toList [])) else none) else some (.reg l)
  | .seq a b => (compC n a).bind fun x => (compC n b).map fun y => .seq x y
  | .cond c a b => (compO c).bind fun o => (compC n a).bind fun x => (compC n b).map fun y => .cond o x y
  | .block id c => (compC n c).map (.block id)
  | .loop c => (compC n c).map .loop
  | .exit id => some (.exit id)
  | .ret => some .ret
  | _ => none
def compR : ResultVar → Option IRes
  | .tmp t => some (.t t)
  | .cell a t => (agT P t).bind fun g => (szT P t).bind fun s => if g = true ∨ s = 1 then some (.cell a g s) else none
def compRs : List ResultVar → Option (List IRes)
  | [] => some []
  | x :: r => (compR P x).bind fun a => (compRs r).map fun as => a :: as
def compF (f : Func) : Option IFunc := f.body.bind fun c => (compC P f.ntmps c).bind fun x => (compRs P f.results.toList).map fun rs => { n := f.ntmps, res := rs, code := x }
end
end Go.Dm
