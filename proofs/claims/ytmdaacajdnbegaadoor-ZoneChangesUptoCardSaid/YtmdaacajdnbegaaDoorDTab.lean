/- Tables of functions, each with what is so of them. -/
import Derived.Test.YtmdaacajdnbegaaDoorDPrimOk
import Derived.Test.YtmdaacajdnbegaaDoorDCode
namespace Go.Dm
open Go
variable {P : Program}
def Tab (P : Program) (t : Nat → Option IFunc) : Prop := ∀ f F, t f = some F → ∃ fn, P.funcs[f]? = some fn ∧ compF P fn = some F ∧ (fn.name == "runtime.NumGoroutine") = false
theorem tab_end : Tab P fun _ => none := fun _ _ h => by cases h
theorem tab_step {k : Nat} {fn : Func} {d : IFunc} {r : Nat → Option IFunc} (h1 : P.funcs[k]? = some fn) (h2 : compF P fn = some d) (h3 : (fn.name == "runtime.NumGoroutine") = false) (h : Tab P r) : Tab P fun f => if f = k then some d else r f := by
  intro f F e
  dsimp only at e
  split at e
  · rename_i hk
    subst hk
    cases e
    exact ⟨fn, h1, h2, h3⟩
  · exact h f F e
def PTab (P : Program) (t : Nat → Option (List V → Heap → Nat → Option Res)) : Prop := ∀ f p, t f = some p → PrimOK P f p
theorem ptab_end : PTab P fun _ => none := fun _ _ h => by cases h
theorem ptab_step {k : Nat} {d : List V → Heap → Nat → Option Res} {r : Nat → Option (List V → Heap → Nat → Option Res)} (h1 : PrimOK P k d) (h : PTab P r) : PTab P fun f => if f = k then some d else r f := by
  intro f F e
  dsimp only at e
  split at e
  · rename_i hk
    subst hk
    cases e
    exact h1
  · exact h f F e
end Go.Dm
