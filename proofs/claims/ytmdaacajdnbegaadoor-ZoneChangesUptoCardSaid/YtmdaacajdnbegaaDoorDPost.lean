/- Behind a run that writes into nothing that was there: what came in reads as it did, whatever is said of spare places. -/
import Derived.Test.YtmdaacajdnbegaaDoorDRel
import Derived.ChangeSame
import Derived.ChangeReads
import Derived.ChangeShapes
import Derived.RowKit
import Derived.OpenShut
import Derived.ChangeOld
namespace Go.Dm
open Go Go.ChangeShapes Go.RowKit
section
variable {H : Type} {enc : TypeId × Value → H} {P : Program} {w w' : World} {base : Nat} {sp : Nat → Bool}
/-- The parts of the program's types are the program's; elements of slices take room. -/
structure Rooms (P : Program) : Prop where
  sl : ∀ t e, t < P.types.size → P.underlying t = some (.slice e) → e < P.types.size ∧ P.cellsOf e ≠ 0
  pt : ∀ t e, t < P.types.size → P.underlying t = some (.pointer e) → e < P.types.size
  st : ∀ t fs, t < P.types.size → P.underlying t = some (.struct fs) → ∀ f ∈ fs.toList, f.type < P.types.size
  ar : ∀ t n e, t < P.types.size → P.underlying t = some (.array n e) → e < P.types.size
  mp : ∀ t k e, t < P.types.size → P.underlying t = some (.map k e) → e < P.types.size
def roomyB (P : Program) : Bool := (List.range P.types.size).all fun t => match P.underlying t with
  | some (.slice e) => decide (e < P.types.size) && P.cellsOf e != 0
  | some (.pointer e) => decide (e < P.types.size)
  | some (.struct fs) => fs.toList.all fun f => decide (f.type < P.types.size)
  | some (.array _ e) => decide (e < P.types.size)
  | some (.map _ e) => decide (e < P.types.size)
  | _ => true
theorem roomy_of (h : roomyB P = true) : Rooms P := by
  unfold roomyB at h
  rw [List.all_eq_true] at h
  have h : ∀ t, t < P.types.size → _ := fun t ht => h t (List.mem_range.2 ht)
  refine ⟨fun t e ht e1 => ?_, fun t e ht e1 => ?_, fun t e ht e1 => ?_, fun t n e ht e1 => ?_, fun t k e ht e1 => ?_⟩ <;> have h1 := h t ht <;> rw [e1] at h1
  · simpa using h1
  · simpa using h1
  · intro f hf
    simpa using (List.all_eq_true.1 h1) f hf
  · simpa using h1
  · simpa using h1

theorem trodStep_sp (hP : Rooms P) {r r' : TypeId → List Value → Option (DataW H × List MemPlace)} (hr : ∀ t cs x, t < P.types.size → r t cs = some x → (∀ p ∈ x.2, sp p.block = true) → r' t cs = some x) {t : TypeId} {cs : List Value} {x : DataW H × List MemPlace} (htt : t < P.types.size)
    (h : DataW.trodStep enc P w base (fun _ => true) true r t cs = some x) (hs : ∀ p ∈ x.2, sp p.block = true) : DataW.trodStep enc P w base sp true r' t cs = some x := by
  have sub : ∀ {α : Type} {g : α → Option (DataW H × List MemPlace)} {g' : α → Option (DataW H × List MemPlace)} {l : List α} {ys : List (DataW H × List MemPlace)}, (∀ a y, a ∈ l → g a = some y → (∀ p ∈ y.2, sp p.block = true) → g' a = some y) →
      l.mapM g = some ys → (∀ y ∈ ys, ∀ p ∈ y.2, sp p.block = true) → l.mapM g' = some ys := fun hg hl hy => mapM_carry hl fun a y h1 h2 h3 => hg a y h1 h3 (hy y h2)
  unfold DataW.trodStep at h ⊢
  split at h
  case h_6 e a ht =>
    simp only [Option.map_eq_some_iff, Option.bind_eq_some_iff] at h ⊢
    obtain ⟨y, ⟨c, h1, h2⟩, rfl⟩ := h
    exact ⟨y, ⟨c, h1, hr _ _ _ (hP.pt t e htt ht) h2 fun p hp => hs p (by simp [hp])⟩, rfl⟩
  case h_8 e a len cap ht =>
    simp only at h ⊢
    split at h
    case isFalse => cases h
    case isTrue hc =>
    rw [if_pos hc]
    simp only [if_true, Option.map_eq_some_iff, Option.bind_eq_some_iff] at h ⊢
    obtain ⟨elems, h1, rest, h2, rfl⟩ := h
    have hel : ∀ y ∈ elems ++ rest, ∀ p ∈ y.2, sp p.block = true := fun y hy p hp => hs p (by
      simp only [List.mem_append, List.mem_flatMap]
      exact .inr ⟨y, by simpa using hy, hp⟩)
    have one : ∀ (i : Nat) (y : DataW H × List MemPlace), (w.cells? base (a.add (i * P.cellsOf e)) (P.cellsOf e)).bind (r e) = some y → (∀ p ∈ y.2, sp p.block = true) → (w.cells? base (a.add (i * P.cellsOf e)) (P.cellsOf e)).bind (r' e) = some y := by
      intro i y hy hp
      simp only [Option.bind_eq_some_iff] at hy ⊢
      obtain ⟨c, q1, q2⟩ := hy
      exact ⟨c, q1, hr _ _ _ (hP.sl t e htt ht).1 q2 hp⟩
    refine ⟨elems, sub (fun i y _ => one i y) h1 (fun y hy => hel y (by simp [hy])), rest, ?_, rfl⟩
    cases hsp : sp a.block with
    | true => simpa using sub (fun j y _ => one (len + j) y) h2 (fun y hy => hel y (by simp [hy]))
    | false =>
      have : rest = [] := by
        cases rest with
        | nil => rfl
        | cons z zs =>
          exfalso
          have hpos := (hP.sl t e htt ht).2
          have hz : 0 < (elems.length + (z :: zs).length) * P.cellsOf e := Nat.mul_pos (by rw [List.length_cons]; omega) (Nat.pos_of_ne_zero hpos)
          have := hs (.cell a.block (a.off + 0)) (List.mem_append.2 (.inl (MemPlace.mem_row.2 ⟨0, hz, rfl⟩)))
          rw [show (MemPlace.cell a.block (a.off + 0)).block = a.block from rfl, hsp] at this
          cases this
      subst this
      rfl
  case h_9 fs ht =>
    split at h
    case isFalse => cases h
    case isTrue hc =>
    rw [if_pos hc]
    simp only [Option.map_eq_some_iff] at h ⊢
    obtain ⟨xs, h1, rfl⟩ := h
    exact ⟨xs, sub (fun f y q0 q1 q2 => hr _ _ _ (hP.st t fs htt ht f q0) q1 q2) h1 (fun y hy p hp => hs p (List.mem_flatMap.2 ⟨y, hy, hp⟩)), rfl⟩
  case h_10 n e ht =>
    split at h
    case isFalse => cases h
    case isTrue hc =>
    rw [if_pos hc]
    simp only [Option.map_eq_some_iff] at h ⊢
    obtain ⟨xs, h1, rfl⟩ := h
    exact ⟨xs, sub (fun f y q0 q1 q2 => hr _ _ _ (hP.ar t n e htt ht) q1 q2) h1 (fun y hy p hp => hs p (List.mem_flatMap.2 ⟨y, hy, hp⟩)), rfl⟩
  case h_14 k e b ht =>
    split at h
    case h_2 => cases h
    case h_1 es clock hb =>
    split at h
    case isFalse => cases h
    case isTrue hc =>
    simp only [Option.bind_eq_some_iff] at h
    obtain ⟨ents, h1, h2⟩ := h
    split at h2
    case isFalse => cases h2
    case isTrue hris =>
    obtain rfl := Option.some.inj h2
    simp only [if_pos hc, Option.bind_eq_some_iff]
    refine ⟨ents, mapM_carry h1 (fun z y _ hy hv => ?_), by simp [hris]⟩
    simp only [Option.bind_eq_some_iff] at hv ⊢
    obtain ⟨key, q1, q2⟩ := hv
    refine ⟨key, q1, ?_⟩
    split at q2
    case isFalse => cases q2
    case isTrue hf =>
    rw [if_pos hf]
    simp only [Option.map_eq_some_iff] at q2 ⊢
    obtain ⟨u, q3, rfl⟩ := q2
    exact ⟨u, hr _ _ _ (hP.mp t k e htt ht) q3 (fun p hp => hs p (List.mem_cons_of_mem _ (List.mem_flatMap.2 ⟨_, hy, hp⟩))), rfl⟩
  case h_21 => cases h
  all_goals exact h
theorem trod_sp (hP : Rooms P) : ∀ (n : Nat) (t : TypeId) (cs : List Value) (x : DataW H × List MemPlace), t < P.types.size → DataW.trod enc P w base (fun _ => true) true n t cs = some x → (∀ p ∈ x.2, sp p.block = true) → DataW.trod enc P w base sp true n t cs = some x
  | 0, _, _, _, _, h, _ => by simp [DataW.trod] at h
  | n + 1, t, cs, x, ht, h, hs => by
    rw [DataW.trod_step] at h ⊢
    exact trodStep_sp hP (trod_sp hP n) ht h hs
theorem trodAll_sp (hP : Rooms P) : ∀ {ts : List TypeId} {vs : List Value} {ds : List (DataW H)} {ps : List MemPlace}, (∀ t ∈ ts, t < P.types.size) → DataW.TrodAll enc P w base (fun _ => true) true ts vs ds ps → (∀ p ∈ ps, sp p.block = true) → (∀ p ∈ ps, w.sameAt w' p) →
    DataW.TrodAll enc P w' base sp true ts vs ds ps
  | [], [], [], _, _, h, _, _ => h
  | t :: ts, v :: vs, d :: ds, ps, ht, ⟨p, q, ⟨n, h⟩, hs, e⟩, h1, h2 => by
    subst e
    exact ⟨p, q, ⟨n, DataW.trod_carry n _ _ _ (trod_sp hP n _ _ _ (ht t List.mem_cons_self) h fun x hx => h1 x (List.mem_append_left _ hx)) fun x hx => h2 x (List.mem_append_left _ hx)⟩,
      trodAll_sp hP (fun u hu => ht u (List.mem_cons_of_mem _ hu)) hs (fun x hx => h1 x (List.mem_append_right _ hx)) (fun x hx => h2 x (List.mem_append_right _ hx)), rfl⟩
/-- The law's answer is true; what came in reads as it did. -/
theorem post_true {f : Func} {s : ChangeSpec} {apart fresh handsOn again : Bool} {W W' : World} {args : Array Value} {ds gs : List (DataW H)} {before : List MemPlace} {t : TypeId}
    (hW : DataW.Whole enc P f.params.toList s.vars apart W args.toList ds gs before) (hP : Rooms P) (hts : ∀ t ∈ f.params.toList, t < P.types.size) (hv : s.vars = []) (hfn : (s.fn H (ds ++ gs)) = { results := [.lit (.bool true)], args := ds }) (hr : f.resultTypes = #[t]) (ht : P.underlying t = some .bool)
    (hos : W'.os = W.os) (hout : W'.output = W.output) (hk : ∀ k, k < W.heap.size → W'.heap[k]? = W.heap[k]?) : s.post enc P f apart fresh handsOn again W args (.bool true) W' := by
  have hlt := hW.lt
  have hold : ∀ p ∈ before, (fun b => decide (b < W.heap.size)) p.block = true := fun p hp => by simpa using hlt p hp
  have hsame : ∀ p ∈ before, W.sameAt W' p := by
    intro p hp
    have h1 := hlt p hp
    cases p with
    | cell b o =>
      show W'.cell? ⟨b, o, none⟩ = W.cell? ⟨b, o, none⟩
      unfold World.cell?
      rw [hk b h1]
    | map b => exact hk b h1
  obtain ⟨pa, pv, hA, hV, hps, hz, hn⟩ := id hW
  have hV' : gs = [] ∧ pv = [] := trodVars_none (by rw [hv] at hV; exact hV)
  obtain ⟨rfl, rfl⟩ := hV'
  rw [List.append_nil] at hps
  subst hps
  have hres : ∀ (b : Nat) (q : Nat → Bool) (hd : Bool), DataW.TrodAll enc P W' b q hd f.resultTypes.toList ((Value.bool true).resultList f.resultTypes.size) (s.fn H (ds ++ [])).results [] := by
    intro b q hd
    rw [hfn, hr]
    exact trodAll_cons_mk (shut_bool ht true) trodAll_mk0
  have hargs : ∀ q : Nat → Bool, (∀ p ∈ before, q p.block = true) → DataW.TrodAll enc P W' 0 q true f.params.toList args.toList (s.fn H (ds ++ [])).args before := by
    intro q hq
    rw [hfn]
    exact trodAll_sp hP hts hA hq hsame
  have hvars : ∀ q : Nat → Bool, DataW.TrodVars enc P W' q s.vars (s.fn H (ds ++ [])).vars [] := by
    intro q
    rw [hfn, hv]
    rfl
  refine ⟨ds, [], before, [], before, [], hW, hres _ _ _, hargs _ hold, hvars _, ⟨hos, hout, fun i hi => ?_⟩, fun _ => ?_⟩
  · rw [hk i hi, Array.getElem?_eq_getElem hi]
    cases W.heap[i] with
    | cells c t fr => exact ⟨rfl, rfl, rfl, fun _ _ => rfl⟩
    | map es cl => exact .inr ⟨rfl, rfl⟩
    | _ => rfl
  · refine ⟨ok_one hr rfl (okWide_bool_mk ht true), _, _, ([] ++ before) ++ [], ⟨[] ++ before, [], trodAll_append (hargs _ (fun _ _ => rfl)) (hres _ _ _), hvars _, rfl, ?_, ?_⟩, ?_⟩
    · intro b off hp
      have hp : MemPlace.cell b off ∈ before := by simpa using hp
      have h2 := hz b off hp
      unfold World.frozen? at h2 ⊢
      rw [hk b (hlt _ hp)]
      exact h2
    · intro ha
      simpa using hn ha
    · intro p hp _
      simpa using hp
end
end Go.Dm
