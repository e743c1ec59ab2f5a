/- The table of the functions, and of those that are told without running them. Written by a program of ours. -/
import Derived.Test.YtmdaacajdnbegaaDoorDIr
import Derived.Test.YtmdaacajdnbegaaDoorDPrim
namespace Go.Proofs.YtmdaacajdnbegaaDoor
open Go Go.Dm
set_option maxRecDepth 100000
def fnTab (f : Nat) : Option IFunc :=
  if f = 3 then some d3 else
  if f = 4 then some d4 else
  if f = 5 then some d5 else
  if f = 6 then some d6 else
  if f = 7 then some d7 else
  if f = 8 then some d8 else
  if f = 9 then some d9 else
  if f = 10 then some d10 else
  if f = 11 then some d11 else
  if f = 12 then some d12 else
  if f = 13 then some d13 else
  if f = 14 then some d14 else
  if f = 15 then some d15 else
  if f = 16 then some d16 else
  if f = 17 then some d17 else
  if f = 18 then some d18 else
  if f = 19 then some d19 else
  if f = 20 then some d20 else
  if f = 21 then some d21 else
  if f = 22 then some d22 else
  if f = 23 then some d23 else
  if f = 24 then some d24 else
  if f = 25 then some d25 else
  if f = 26 then some d26 else
  if f = 27 then some d27 else
  if f = 28 then some d28 else
  if f = 29 then some d29 else
  if f = 30 then some d30 else
  if f = 31 then some d31 else
  if f = 32 then some d32 else
  if f = 33 then some d33 else
  if f = 34 then some d34 else
  if f = 35 then some d35 else
  if f = 37 then some d37 else
  if f = 38 then some d38 else
  if f = 39 then some d39 else
  if f = 41 then some d41 else
  if f = 43 then some d43 else
  if f = 44 then some d44 else
  if f = 45 then some d45 else
  if f = 47 then some d47 else
  if f = 48 then some d48 else
  if f = 49 then some d49 else
  if f = 50 then some d50 else
  if f = 51 then some d51 else
  if f = 52 then some d52 else
  if f = 53 then some d53 else
  if f = 54 then some d54 else
  if f = 55 then some d55 else
  if f = 58 then some d58 else
  if f = 59 then some d59 else
  if f = 60 then some d60 else
  if f = 61 then some d61 else
  if f = 63 then some d63 else
  if f = 65 then some d65 else
  if f = 67 then some d67 else
  if f = 68 then some d68 else
  if f = 70 then some d70 else
  if f = 72 then some d72 else
  if f = 73 then some d73 else
  if f = 74 then some d74 else
  if f = 75 then some d75 else
  if f = 76 then some d76 else
  if f = 78 then some d78 else
  none
def prTab (f : Nat) : Option (List V → Heap → Nat → Option Res) :=
  if f = 36 then some pItoa else
  if f = 40 then some pCut else
  if f = 42 then some pSplit else
  if f = 46 then some pHasSuffix else
  none
def G0 : Lib := { fn := fnTab, prim := prTab, L := 0 }
theorem g3 : G0.prim 3 = none ∧ G0.fn 3 = some d3 := ⟨rfl, rfl⟩
theorem g4 : G0.prim 4 = none ∧ G0.fn 4 = some d4 := ⟨rfl, rfl⟩
theorem g5 : G0.prim 5 = none ∧ G0.fn 5 = some d5 := ⟨rfl, rfl⟩
theorem g6 : G0.prim 6 = none ∧ G0.fn 6 = some d6 := ⟨rfl, rfl⟩
theorem g7 : G0.prim 7 = none ∧ G0.fn 7 = some d7 := ⟨rfl, rfl⟩
theorem g8 : G0.prim 8 = none ∧ G0.fn 8 = some d8 := ⟨rfl, rfl⟩
theorem g9 : G0.prim 9 = none ∧ G0.fn 9 = some d9 := ⟨rfl, rfl⟩
theorem g10 : G0.prim 10 = none ∧ G0.fn 10 = some d10 := ⟨rfl, rfl⟩
theorem g11 : G0.prim 11 = none ∧ G0.fn 11 = some d11 := ⟨rfl, rfl⟩
theorem g12 : G0.prim 12 = none ∧ G0.fn 12 = some d12 := ⟨rfl, rfl⟩
theorem g13 : G0.prim 13 = none ∧ G0.fn 13 = some d13 := ⟨rfl, rfl⟩
theorem g14 : G0.prim 14 = none ∧ G0.fn 14 = some d14 := ⟨rfl, rfl⟩
theorem g15 : G0.prim 15 = none ∧ G0.fn 15 = some d15 := ⟨rfl, rfl⟩
theorem g16 : G0.prim 16 = none ∧ G0.fn 16 = some d16 := ⟨rfl, rfl⟩
theorem g17 : G0.prim 17 = none ∧ G0.fn 17 = some d17 := ⟨rfl, rfl⟩
theorem g18 : G0.prim 18 = none ∧ G0.fn 18 = some d18 := ⟨rfl, rfl⟩
theorem g19 : G0.prim 19 = none ∧ G0.fn 19 = some d19 := ⟨rfl, rfl⟩
theorem g20 : G0.prim 20 = none ∧ G0.fn 20 = some d20 := ⟨rfl, rfl⟩
theorem g21 : G0.prim 21 = none ∧ G0.fn 21 = some d21 := ⟨rfl, rfl⟩
theorem g22 : G0.prim 22 = none ∧ G0.fn 22 = some d22 := ⟨rfl, rfl⟩
theorem g23 : G0.prim 23 = none ∧ G0.fn 23 = some d23 := ⟨rfl, rfl⟩
theorem g24 : G0.prim 24 = none ∧ G0.fn 24 = some d24 := ⟨rfl, rfl⟩
theorem g25 : G0.prim 25 = none ∧ G0.fn 25 = some d25 := ⟨rfl, rfl⟩
theorem g26 : G0.prim 26 = none ∧ G0.fn 26 = some d26 := ⟨rfl, rfl⟩
theorem g27 : G0.prim 27 = none ∧ G0.fn 27 = some d27 := ⟨rfl, rfl⟩
theorem g28 : G0.prim 28 = none ∧ G0.fn 28 = some d28 := ⟨rfl, rfl⟩
theorem g29 : G0.prim 29 = none ∧ G0.fn 29 = some d29 := ⟨rfl, rfl⟩
theorem g30 : G0.prim 30 = none ∧ G0.fn 30 = some d30 := ⟨rfl, rfl⟩
theorem g31 : G0.prim 31 = none ∧ G0.fn 31 = some d31 := ⟨rfl, rfl⟩
theorem g32 : G0.prim 32 = none ∧ G0.fn 32 = some d32 := ⟨rfl, rfl⟩
theorem g33 : G0.prim 33 = none ∧ G0.fn 33 = some d33 := ⟨rfl, rfl⟩
theorem g34 : G0.prim 34 = none ∧ G0.fn 34 = some d34 := ⟨rfl, rfl⟩
theorem g35 : G0.prim 35 = none ∧ G0.fn 35 = some d35 := ⟨rfl, rfl⟩
theorem g37 : G0.prim 37 = none ∧ G0.fn 37 = some d37 := ⟨rfl, rfl⟩
theorem g38 : G0.prim 38 = none ∧ G0.fn 38 = some d38 := ⟨rfl, rfl⟩
theorem g39 : G0.prim 39 = none ∧ G0.fn 39 = some d39 := ⟨rfl, rfl⟩
theorem g41 : G0.prim 41 = none ∧ G0.fn 41 = some d41 := ⟨rfl, rfl⟩
theorem g43 : G0.prim 43 = none ∧ G0.fn 43 = some d43 := ⟨rfl, rfl⟩
theorem g44 : G0.prim 44 = none ∧ G0.fn 44 = some d44 := ⟨rfl, rfl⟩
theorem g45 : G0.prim 45 = none ∧ G0.fn 45 = some d45 := ⟨rfl, rfl⟩
theorem g47 : G0.prim 47 = none ∧ G0.fn 47 = some d47 := ⟨rfl, rfl⟩
theorem g48 : G0.prim 48 = none ∧ G0.fn 48 = some d48 := ⟨rfl, rfl⟩
theorem g49 : G0.prim 49 = none ∧ G0.fn 49 = some d49 := ⟨rfl, rfl⟩
theorem g50 : G0.prim 50 = none ∧ G0.fn 50 = some d50 := ⟨rfl, rfl⟩
theorem g51 : G0.prim 51 = none ∧ G0.fn 51 = some d51 := ⟨rfl, rfl⟩
theorem g52 : G0.prim 52 = none ∧ G0.fn 52 = some d52 := ⟨rfl, rfl⟩
theorem g53 : G0.prim 53 = none ∧ G0.fn 53 = some d53 := ⟨rfl, rfl⟩
theorem g54 : G0.prim 54 = none ∧ G0.fn 54 = some d54 := ⟨rfl, rfl⟩
theorem g55 : G0.prim 55 = none ∧ G0.fn 55 = some d55 := ⟨rfl, rfl⟩
theorem g58 : G0.prim 58 = none ∧ G0.fn 58 = some d58 := ⟨rfl, rfl⟩
theorem g59 : G0.prim 59 = none ∧ G0.fn 59 = some d59 := ⟨rfl, rfl⟩
theorem g60 : G0.prim 60 = none ∧ G0.fn 60 = some d60 := ⟨rfl, rfl⟩
theorem g61 : G0.prim 61 = none ∧ G0.fn 61 = some d61 := ⟨rfl, rfl⟩
theorem g63 : G0.prim 63 = none ∧ G0.fn 63 = some d63 := ⟨rfl, rfl⟩
theorem g65 : G0.prim 65 = none ∧ G0.fn 65 = some d65 := ⟨rfl, rfl⟩
theorem g67 : G0.prim 67 = none ∧ G0.fn 67 = some d67 := ⟨rfl, rfl⟩
theorem g68 : G0.prim 68 = none ∧ G0.fn 68 = some d68 := ⟨rfl, rfl⟩
theorem g70 : G0.prim 70 = none ∧ G0.fn 70 = some d70 := ⟨rfl, rfl⟩
theorem g72 : G0.prim 72 = none ∧ G0.fn 72 = some d72 := ⟨rfl, rfl⟩
theorem g73 : G0.prim 73 = none ∧ G0.fn 73 = some d73 := ⟨rfl, rfl⟩
theorem g74 : G0.prim 74 = none ∧ G0.fn 74 = some d74 := ⟨rfl, rfl⟩
theorem g75 : G0.prim 75 = none ∧ G0.fn 75 = some d75 := ⟨rfl, rfl⟩
theorem g76 : G0.prim 76 = none ∧ G0.fn 76 = some d76 := ⟨rfl, rfl⟩
theorem g78 : G0.prim 78 = none ∧ G0.fn 78 = some d78 := ⟨rfl, rfl⟩
theorem g36 : G0.prim 36 = some pItoa := rfl
theorem g40 : G0.prim 40 = some pCut := rfl
theorem g42 : G0.prim 42 = some pSplit := rfl
theorem g46 : G0.prim 46 = some pHasSuffix := rfl
end Go.Proofs.YtmdaacajdnbegaaDoor
