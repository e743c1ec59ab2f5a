/- What the library's functions answer. -/
import Derived.Test.YtmdaacajdnbegaaDoorDSl
namespace Go.Dm
open Go
/-- What stands ahead of the first place where sep stands, what stands behind it. -/
def cutAt (sep : List UInt8) : List UInt8 → Option (List UInt8 × List UInt8)
  | [] => if sep = [] then some ([], []) else none
  | c :: r => if sep.isPrefixOf (c :: r) then some ([], (c :: r).drop sep.length) else (cutAt sep r).map fun x => (c :: x.1, x.2)
def pCut (vs : List V) (_ : Heap) (_ : Nat) : Option Res := match vs with
  | [.s l, .s sep] => if l.length < 4294967281 then match cutAt sep l with
    | some (a, b) => some { v := .tup [.s a, .s b, .b true] }
    | none => some { v := .tup [.s l, .s [], .b false] }
    else none
  | _ => none
/-- The parts between the places where a byte stands. -/
def splitOn1 (c : UInt8) : List UInt8 → List (List UInt8)
  | [] => [[]]
  | x :: r => if x = c then [] :: splitOn1 c r else match splitOn1 c r with
    | p :: ps => (x :: p) :: ps
    | [] => [[x]]
def pSplit (vs : List V) (_ : Heap) (nx : Nat) : Option Res := match vs with
  | [.s l, .s [c]] => if l.length < 1048576 then some { v := .sl nx 0 (splitOn1 c l).length (splitOn1 c l).length true, nw := [.arr true 9 ((splitOn1 c l).map .s)] } else none
  | _ => none
def pHasSuffix (vs : List V) (_ : Heap) (_ : Nat) : Option Res := match vs with
  | [.s l, .s e] => if l.length < 4294967281 then some { v := .b (e.isSuffixOf l) } else none
  | _ => none
def digs : Nat → Nat → List UInt8 → List UInt8
  | 0, _, acc => acc
  | k + 1, n, acc => if n < 10 then UInt8.ofNat (48 + n) :: acc else digs k (n / 10) (UInt8.ofNat (48 + n % 10) :: acc)
def decimal (n : Int) : List UInt8 := if n < 0 then 45 :: digs 30 n.natAbs [] else digs 30 n.natAbs []
def pItoa (vs : List V) (_ : Heap) (_ : Nat) : Option Res := match vs with
  | [.i .i64 n] => if -9223372036854775808 ≤ n ∧ n ≤ 9223372036854775807 then some { v := .s (decimal n) } else none
  | _ => none
end Go.Dm
