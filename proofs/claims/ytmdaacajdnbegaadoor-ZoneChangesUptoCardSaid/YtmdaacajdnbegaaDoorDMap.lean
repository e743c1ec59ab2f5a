/- Maps as lists of pairs. -/
import Derived.Test.YtmdaacajdnbegaaDoorDLoop
set_option linter.constructorNameAsVariable false
set_option linter.unusedSimpArgs false
set_option linter.unusedVariables false
set_option linter.unusedSectionVars false
namespace Go.Dm
open Go
set_option linter.unusedSimpArgs false
set_option linter.unusedVariables false
structure KeyOf {α : Type} [BEq α] [LawfulBEq α] (kt : KT) (mk : α → V) : Prop where
  eq : ∀ a b, keyD kt (mk a) (mk b) = some (a == b)
  ok : ∀ a, okK kt (mk a) = true
def mkI (x : Int) : V := .i .i64 x
def mkS (x : Str) : V := .s x
def mkSt (x : Str) : V := .agg [.s x]
theorem keyI : KeyOf .i mkI := ⟨fun a b => by simp [keyD, mkI], fun _ => rfl⟩
theorem keyS : KeyOf .s mkS := ⟨fun a b => rfl, fun _ => rfl⟩
theorem keySt : KeyOf .st mkSt := ⟨fun a b => rfl, fun _ => rfl⟩
section
variable {α : Type} [BEq α] [LawfulBEq α] {kt : KT} {mk : α → V}
def mapC (mk : α → V) (es : List (α × V)) : List (V × V) := es.map fun x => (mk x.1, x.2)
def findA (k : α) : List (α × V) → Nat → Option (Nat × V)
  | [], _ => none
  | (a, v) :: r, n => if k == a then some (n, v) else findA k r (n + 1)
theorem find_map (K : KeyOf kt mk) (k : α) : ∀ (es : List (α × V)) (n : Nat), findD kt (mk k) (mapC mk es) n = some (findA k es n)
  | [], n => rfl
  | (a, v) :: r, n => by
    have ih := find_map K k r (n + 1)
    simp only [mapC, List.map_cons, findD, K.eq, Option.bind_some, findA] at ih ⊢
    cases h : k == a
    · simpa using ih
    · simp
def getA (k : α) (es : List (α × V)) : Option V := (findA k es 0).map (·.2)
theorem findA_shift (k : α) : ∀ (es : List (α × V)) (n m : Nat), (findA k es n).map (·.2) = (findA k es m).map (·.2)
  | [], _, _ => rfl
  | (a, v) :: r, n, m => by
    simp only [findA]
    cases k == a
    · simpa using findA_shift k r (n + 1) (m + 1)
    · rfl
theorem getA_nil (k : α) : getA k ([] : List (α × V)) = none := rfl
theorem getA_cons (k a : α) (v : V) (r : List (α × V)) : getA k ((a, v) :: r) = if k == a then some v else getA k r := by
  simp only [getA, findA]
  cases k == a
  · simpa using findA_shift k r 1 0
  · rfl
theorem look_map (K : KeyOf kt mk) (k : α) (es : List (α × V)) (zero : V) (id : Nat) : sLook kt zero false [.m id, mk k] [.map (mapC mk es)] = some ((getA k es).getD zero) := by
  simp only [sLook, K.ok, if_true, find_map K, Option.map_some, getA]
  cases findA k es 0 <;> rfl
theorem look_map_ok (K : KeyOf kt mk) (k : α) (es : List (α × V)) (zero : V) (id : Nat) : sLook kt zero true [.m id, mk k] [.map (mapC mk es)] = some (match getA k es with | some v => .tup [v, .b true] | none => .tup [zero, .b false]) := by
  simp only [sLook, K.ok, if_true, find_map K, Option.map_some, getA]
  cases findA k es 0 <;> rfl
theorem put_new (K : KeyOf kt mk) {k : α} {es : List (α × V)} (v : V) (h : getA k es = none) : Box.putB (.map (mapC mk es)) kt (mk k) v = some (.map (mapC mk (es ++ [(k, v)]))) := by
  have : findA k es 0 = none := by
    simp only [getA, Option.map_eq_none_iff] at h; exact h
  simp only [Box.putB, K.ok, if_true, find_map K, this]
  simp [mapC]
/-- Sets. -/
def setE' (xs : List α) : List (α × V) := xs.map fun x => (x, V.b true)
theorem getA_set (k : α) : ∀ xs : List α, getA k (setE' xs) = if xs.contains k then some (.b true) else none
  | [] => rfl
  | x :: xs => by
    simp only [setE', List.map_cons, getA_cons, List.contains_cons]
    cases h : k == x
    · simpa [setE'] using getA_set k xs
    · simp
theorem look_set (K : KeyOf kt mk) (xs : List α) (k : α) (id : Nat) : sLook kt (.b false) false [.m id, mk k] [.map (mapC mk (setE' xs))] = some (.b (xs.contains k)) := by
  rw [look_map K, getA_set]
  cases xs.contains k <;> rfl
theorem put_set (K : KeyOf kt mk) {xs : List α} {k : α} (h : xs.contains k = false) : Box.putB (.map (mapC mk (setE' xs))) kt (mk k) (.b true) = some (.map (mapC mk (setE' (xs ++ [k])))) := by
  rw [put_new K _ (by rw [getA_set, h]; rfl)]
  simp [setE']
end
end Go.Dm
