/- From what the machine computes to the call. -/
import Derived.Test.YtmdaacajdnbegaaDoorDWp
import Derived.Test.YtmdaacajdnbegaaDoorDPost
import Derived.Test.YtmdaacajdnbegaaDoorDCode
namespace Go.Dm
open Go
theorem run_calls {P : Program} {G : Lib} (hG : ∀ L, LibOK P (G.at L)) {f : Nat} {vs : List V} {h : Heap} {nx : Nat} {Q : V → Heap → Nat → Prop} (hs : SpecP G f vs h nx Q) {μ : Mu} {w : World} {args : Array Value}
    (hv : VRL μ vs args.toList) (hsr : SR P μ h w) (hfr : ∀ id, nx ≤ id → μ id = none) :
    Calls P f args w fun e w' => ∃ y μ' v h' nx', e = .returned y ∧ VR μ' v y ∧ Q v h' nx' ∧ w'.os = w.os ∧ w'.output = w.output ∧ ∀ k, k < w.heap.size → w'.heap[k]? = w.heap[k]? := by
  obtain ⟨v, h', nx', wl, ⟨N, hc⟩, rfl, hn, hst, hq⟩ := hs
  have h1 := hc N N (Nat.le_refl _) (Nat.le_refl _)
  refine ((call_ok (hG N) N).calls f vs h nx _ h1 μ w args hv hsr (fun id h2 _ => hfr id h2)).mono ?_
  intro e w' hb
  cases e with
  | returned y =>
    obtain ⟨μ', q1, q2, q3⟩ := hb
    exact ⟨y, μ', v, h', nx', rfl, q1, hq, q3.os, q3.output, fun k hk => q3.keep k hk (by rintro ⟨id, hid, _⟩; cases hid)⟩
  | _ => exact hb.elim
/-- A law whose answer on the machine is true. -/
theorem law_true {P : Program} {G : Lib} (hG : ∀ L, LibOK P (G.at L)) {f : Nat} {vs : List V} {h : Heap} {nx : Nat} (hs : SpecP G f vs h nx fun x _ _ => x = .b true) {μ : Mu} {W : World} {args : Array Value}
    (hv : VRL μ vs args.toList) (hsr : SR P μ h W) (hfr : ∀ id, nx ≤ id → μ id = none)
    {H : Type} {enc : TypeId × Value → H} {fn : Func} {s : ChangeSpec} {apart fresh handsOn again : Bool} {ds gs : List (DataW H)} {before : List MemPlace} {t : TypeId}
    (hW : DataW.Whole enc P fn.params.toList s.vars apart W args.toList ds gs before) (hP : Rooms P) (hts : ∀ t ∈ fn.params.toList, t < P.types.size) (hva : s.vars = []) (hfn : (s.fn H (ds ++ gs)) = { results := [.lit (.bool true)], args := ds }) (hr : fn.resultTypes = #[t]) (ht : P.underlying t = some .bool) :
    Calls P f args W fun e W' => ∃ v, e = .returned v ∧ s.post enc P fn apart fresh handsOn again W args v W' := by
  refine (run_calls hG hs hv hsr hfr).mono ?_
  rintro e W' ⟨y, μ', v, h', nx', rfl, q1, rfl, q2, q3, q4⟩
  obtain rfl : y = .bool true := by cases y <;> simp_all [VR]
  exact ⟨_, rfl, post_true hW hP hts hva hfn hr ht q2 q3 q4⟩
/-- The cells of data that is laid. -/
def flatD {H : Type} : DataW H → List Value
  | .lit (.int k n) => [.int k n]
  | .agg l => flatDs l
  | _ => []
where flatDs {H : Type} : List (DataW H) → List Value
  | [] => []
  | d :: r => flatD d ++ flatDs r
def relaid (cs : Array Value) : Obj → Obj
  | .cells _ t fr => .cells cs t fr
  | o => o
def relay (P : Program) : List (String × DataW Unit) → Array Obj → Array Obj
  | [], hp => hp
  | x :: r, hp => relay P r (hp.modify ((P.globalNamed x.1).getD 0) (relaid (flatD x.2).toArray))
noncomputable def laidWorld (P : Program) (laid : List (String × DataW Unit)) (os : Os) : World :=
  { World.holding P os ⟨#[], #[], []⟩ with heap := relay P laid (World.holding P os ⟨#[], #[], []⟩).heap }
end Go.Dm
