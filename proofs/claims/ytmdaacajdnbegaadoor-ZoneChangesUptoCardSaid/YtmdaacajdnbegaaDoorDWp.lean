/- What a run leads to, said by its continuation: a definition that goes by the code, and the proof that it tells the machine's runs, for all great fuel. -/
import Derived.Test.YtmdaacajdnbegaaDoorDPres
set_option linter.constructorNameAsVariable false
set_option linter.unusedSimpArgs false
set_option linter.unusedVariables false
set_option linter.unusedSectionVars false
namespace Go.Dm
open Go
set_option linter.unusedSimpArgs false

def Lib.at (G : Lib) (L : Nat) : Lib := { G with L := L }
def CallTo (G : Lib) (f : Nat) (vs : List V) (h : Heap) (nx : Nat) (r : V × Heap × Nat × List Nat) : Prop :=
  ∃ N, ∀ k L, N ≤ k → N ≤ L → (G.at L).call k f vs h nx = some r
def CodeTo (G : Lib) (c : ICode) (fr : Fr) (st : St) (r : Ex × Fr × St) : Prop :=
  ∃ N, ∀ k L, N ≤ k → N ≤ L → codeX ((G.at L).call k) L c fr st = some r
def OpTo (G : Lib) (o : IOp) (fr : Fr) (st : St) (r : V × St) : Prop :=
  ∃ N, ∀ k L, N ≤ k → N ≤ L → opX ((G.at L).call k) o fr st = some r
def RegTo (G : Lib) (ops : List IOper) (fr : Fr) (st : St) (r : Fr × St) : Prop :=
  ∃ N, ∀ k L, N ≤ k → N ≤ L → regX ((G.at L).call k) ops fr st = some r
def DrawTo (G : Lib) (ops : List IOper) (bm : List Nat) (ds : List Did) (fr : Fr) (st : St) (r : Fr × St) : Prop :=
  ∃ N, ∀ k L, N ≤ k → N ≤ L → drawX ((G.at L).call k) ops bm ds fr st = some r

/-- A call comes back so. -/
def Spec (G : Lib) (f : Nat) (vs : List V) (h : Heap) (nx : Nat) (Q : V → Heap → Nat → List Nat → Prop) : Prop :=
  ∃ v h' nx' wl, CallTo G f vs h nx (v, h', nx', wl) ∧ Q v h' nx' wl
theorem CallTo.uniq {G : Lib} {f : Nat} {vs : List V} {h : Heap} {nx : Nat} {r s : V × Heap × Nat × List Nat} (a : CallTo G f vs h nx r) (b : CallTo G f vs h nx s) : r = s := by
  obtain ⟨N, a⟩ := a
  obtain ⟨M, b⟩ := b
  have h1 := a (N + M) (N + M) (by omega) (by omega)
  have h2 := b (N + M) (N + M) (by omega) (by omega)
  rw [h1] at h2
  exact Option.some.inj h2
theorem CallTo.spec {G : Lib} {f : Nat} {vs : List V} {h : Heap} {nx : Nat} {v : V} {h' : Heap} {nx' : Nat} {wl : List Nat} (a : CallTo G f vs h nx (v, h', nx', wl)) (Q : V → Heap → Nat → List Nat → Prop) :
    Spec G f vs h nx Q = Q v h' nx' wl := by
  apply propext
  constructor
  · rintro ⟨_, _, _, _, b, q⟩
    cases a.uniq b
    exact q
  · exact fun q => ⟨_, _, _, _, a, q⟩
theorem Spec.mono {G : Lib} {f : Nat} {vs : List V} {h : Heap} {nx : Nat} {Q Q' : V → Heap → Nat → List Nat → Prop} (a : Spec G f vs h nx Q) (b : ∀ v h' nx' wl, Q v h' nx' wl → Q' v h' nx' wl) : Spec G f vs h nx Q' := by
  obtain ⟨v, h', nx', wl, c, q⟩ := a
  exact ⟨v, h', nx', wl, c, b _ _ _ _ q⟩
/-- A call that writes nothing that was there. -/
def SpecP (G : Lib) (f : Nat) (vs : List V) (h : Heap) (nx : Nat) (Q : V → Heap → Nat → Prop) : Prop :=
  Spec G f vs h nx fun v h' nx' wl => wl = [] ∧ nx ≤ nx' ∧ (∀ j, j < nx → h' j = h j) ∧ Q v h' nx'
theorem SpecP.use {G : Lib} {f : Nat} {vs : List V} {h : Heap} {nx : Nat} {Q : V → Heap → Nat → Prop} {K : V → Heap → Nat → List Nat → Prop} (a : SpecP G f vs h nx Q)
    (b : ∀ v h' nx', nx ≤ nx' → (∀ j, j < nx → h' j = h j) → Q v h' nx' → K v h' nx' []) : Spec G f vs h nx K :=
  Spec.mono a fun v h' nx' wl ⟨e, n, s, q⟩ => by subst e; exact b v h' nx' n s q
theorem SpecP.mono {G : Lib} {f : Nat} {vs : List V} {h : Heap} {nx : Nat} {Q Q' : V → Heap → Nat → Prop} (a : SpecP G f vs h nx Q) (b : ∀ v h' nx', nx ≤ nx' → (∀ j, j < nx → h' j = h j) → Q v h' nx' → Q' v h' nx') : SpecP G f vs h nx Q' :=
  Spec.mono a fun v h' nx' wl ⟨e, n, s, q⟩ => ⟨e, n, s, b _ _ _ n s q⟩

def evs (fr : Fr) : List Opnd → List V
  | [] => []
  | x :: r => x.ev fr :: evs fr r
theorem evs_map (fr : Fr) : ∀ xs, evs fr xs = xs.map (·.ev fr)
  | [] => rfl
  | x :: r => by simp only [evs, List.map_cons]; rw [evs_map fr r]
def WO (o : LOp) (vs : List V) (st : St) (K : V → St → Prop) : Prop := match ltX o vs st with | some x => K x.1 x.2 | none => False
def WV (G : Lib) (x : V) (vs : List V) (st : St) (K : V → St → Prop) : Prop := match x with
  | .fn f first cap => Spec G f (first ++ vs ++ cap) st.h st.nx fun v h' nx' wl => K v { h := h', nx := nx', wl := wl ++ st.wl }
  | _ => False
def WI (G : Lib) (o : IOp) (fr : Fr) (st : St) (K : V → St → Prop) : Prop := match o with
  | .lt o args => WO o (evs fr args) st K
  | .callf f args => Spec G f (evs fr args) st.h st.nx fun v h' nx' wl => K v { h := h', nx := nx', wl := wl ++ st.wl }
  | .callv x args => WV G (x.ev fr) (evs fr args) st K
/-- A guard: the bool at hand, what is wanted. -/
def WG (x : V) (want : Bool) (Y N : Prop) : Prop := match x with
  | .b c => if c = want then Y else N
  | .u => N
  | _ => False
def WR (G : Lib) : List IOper → Fr → St → (Fr → St → Prop) → Prop
  | [], fr, st, K => K fr st
  | o :: r, fr, st, K => match o.gd with
    | none => WI G o.op fr st fun v st' => WR G r (putD fr o.dst v) st' K
    | some (k, want) => WG (fr.get k) want (WI G o.op fr st fun v st' => WR G r (putD fr o.dst v) st' K) (WR G r (putD fr o.dst .u) st K)
/-- The kind of an operation of an open order: 0: touches no box; 1: looks; 2: makes; 3: may write. -/
def LOp.cls : LOp → Nat
  | .mv | .mvs | .pick | .build .. | .nck | .bin _ | .eqn .. | .eqa .. | .not | .neg | .cvi _ | .fa _ | .ia _ | .iaa .. | .ixs | .ixa .. | .fld .. | .sls .. | .sll .. | .len _ | .lenc _ | .mnx _ | .mkf .. | .ext _ => 0
  | .ld .. | .cvs | .look .. => 1
  | .new .. | .box .. | .bsl .. | .cvb _ | .mkm | .mks .. => 2
  | .st _ | .app .. | .mup _ => 3
def IOp.cls : IOp → Nat
  | .lt o _ => o.cls
  | _ => 3
def visAll (m : Nat) : List (Nat × List Nat) → Nat → Bool
  | [], _ => true
  | c :: cs, k => (Nat.testBit m k || decide (c.1 ≤ 1)) && visAll m cs (k + 1)
def freeAll (m : Nat) (wl : List Nat) : List (Nat × List Nat) → Nat → Prop
  | [], _ => True
  | c :: cs, k => (Nat.testBit m k = true ∨ c.1 = 0 ∨ (c.1 ≤ 1 ∧ ∀ j, j ∈ wl → j ∉ c.2)) ∧ freeAll m wl cs (k + 1)
/-- Numbers from ahead of a run that wrote nothing. -/
def before (ids : List Nat) : List Nat → Bool
  | [lo] => ids.all fun j => decide (j < lo)
  | _ => false
def visSee (m : Nat) : List (Nat × List Nat) → Nat → List Nat → Bool
  | [], _, _ => true
  | c :: cs, k, ids => (Nat.testBit m k || decide (c.1 ≤ 1) || before ids c.2) && visSee m cs (k + 1) ids
/-- May the operation be run as if in order? -/
def visOK (o : IOp) (m : Nat) (cs : List (Nat × List Nat)) (fr : Fr) : Bool := match o.cls with
  | 0 | 2 => true
  | 1 => visSee m cs 0 (lightD o fr).2
  | _ => visAll m cs 0
/-- What later operations are told: what was looked at; or from which number on was made, nothing else having been written. -/
def tellD (o : IOp) (fr : Fr) (nx : Nat) (wl : List Nat) : List Nat := if o.cls ≤ 1 then (lightD o fr).2 else match wl with
  | [] => [nx]
  | _ => []
def wrOK (o : IOp) (m : Nat) (cs : List (Nat × List Nat)) (fr : Fr) (h : Heap) (wl : List Nat) : Prop := wl = [] ∨ (freeAll m wl cs 0 ∧ okW (lightD o fr).1 (lightD o fr).2 h wl = true)
def WD (G : Lib) : List IOper → List Nat → List (Nat × List Nat) → Fr → St → (Fr → St → Prop) → Prop
  | [], _, _, fr, st, K => K fr st
  | o :: r, bm, cs, fr, st, K => visOK o.op (bm.headD 0) cs fr = true ∧ match o.gd with
    | none => WI G o.op fr { h := st.h, nx := st.nx, wl := [] } fun v st' => wrOK o.op (bm.headD 0) cs fr st.h st'.wl ∧ WD G r bm.tail (cs ++ [(o.op.cls, tellD o.op fr st.nx st'.wl)]) (putD fr o.dst v) { h := st'.h, nx := st'.nx, wl := st'.wl ++ st.wl } K
    | some (k, want) => WG (fr.get k) want
        (WI G o.op fr { h := st.h, nx := st.nx, wl := [] } fun v st' => wrOK o.op (bm.headD 0) cs fr st.h st'.wl ∧ WD G r bm.tail (cs ++ [(o.op.cls, tellD o.op fr st.nx st'.wl)]) (putD fr o.dst v) { h := st'.h, nx := st'.nx, wl := st'.wl ++ st.wl } K)
        (WD G r bm.tail (cs ++ [(0, [])]) (putD fr o.dst .u) st K)
def WC (x : V) (Y N : Prop) : Prop := match x with
  | .b c => if c = true then Y else N
  | _ => False
def WE (e : Ex) (fr : Fr) (st : St) (N : Fr → St → Prop) (X : Nat → Fr → St → Prop) (R : Fr → St → Prop) : Prop := match e with
  | .n => N fr st
  | .x id => X id fr st
  | .r => R fr st
def WL (G : Lib) (c : ICode) (fr : Fr) (st : St) (X : Nat → Fr → St → Prop) (R : Fr → St → Prop) : Prop :=
  ∃ e fr' st', CodeTo G (.loop c) fr st (e, fr', st') ∧ WE e fr' st' (fun _ _ => False) X R
def WP (G : Lib) : ICode → Fr → St → (Fr → St → Prop) → (Nat → Fr → St → Prop) → (Fr → St → Prop) → Prop
  | .skip, fr, st, N, _, _ => N fr st
  | .reg ops, fr, st, N, _, _ => WR G ops fr st N
  | .draw ops bm, fr, st, N, _, _ => WD G ops bm [] fr st N
  | .seq a b, fr, st, N, X, R => WP G a fr st (fun fr st => WP G b fr st N X R) X R
  | .cond c a b, fr, st, N, X, R => WC (c.ev fr) (WP G a fr st N X R) (WP G b fr st N X R)
  | .block id c, fr, st, N, X, R => WP G c fr st N (fun j fr st => if j = id then N fr st else X j fr st) R
  | .loop c, fr, st, _, X, R => WL G c fr st X R
  | .exit id, fr, st, _, X, _ => X id fr st
  | .ret, fr, st, _, _, R => R fr st

/-! ### it tells the truth -/
variable {G : Lib}
theorem WI_ok {o : IOp} {fr : Fr} {st : St} {K : V → St → Prop} (h : WI G o fr st K) : ∃ r, OpTo G o fr st r ∧ K r.1 r.2 := by
  have call : ∀ {f : Nat} {vs : List V} {K : V → St → Prop}, Spec G f vs st.h st.nx (fun v h' nx' wl => K v { h := h', nx := nx', wl := wl ++ st.wl : St }) → ∃ r : V × St, (∃ N, ∀ k L, N ≤ k → N ≤ L → callX ((G.at L).call k) f vs st = some r) ∧ K r.1 r.2 := by
    rintro f vs K ⟨v, h', nx', wl, ⟨N, hc⟩, q⟩
    exact ⟨(v, _), ⟨N, fun k L hk hl => by simp only [callX]; rw [hc k L hk hl]; rfl⟩, q⟩
  cases o with
  | lt o args =>
    simp only [WI, WO, evs_map] at h
    split at h
    · rename_i x hx
      exact ⟨x, ⟨0, fun k L _ _ => hx⟩, h⟩
    · exact h.elim
  | callf f args =>
    simp only [WI, evs_map] at h
    exact call h
  | callv x args =>
    simp only [WI, WV, evs_map] at h
    split at h
    · rename_i f first cap hx
      obtain ⟨r, ⟨N, hr⟩, q⟩ := call h
      exact ⟨r, ⟨N, fun k L hk hl => by simp only [opX, hx]; exact hr k L hk hl⟩, q⟩
    · exact h.elim
theorem WR_ok : ∀ (ops : List IOper) {fr : Fr} {st : St} {K : Fr → St → Prop}, WR G ops fr st K → ∃ r, RegTo G ops fr st r ∧ K r.1 r.2
  | [], fr, st, K, h => ⟨(fr, st), ⟨0, fun _ _ _ _ => rfl⟩, h⟩
  | o :: ops, fr, st, K, h => by
    have yes : wantedD o fr = some true → WI G o.op fr st (fun v st' => WR G ops (putD fr o.dst v) st' K) → ∃ r, RegTo G (o :: ops) fr st r ∧ K r.1 r.2 := by
      intro hw hi
      obtain ⟨x, ⟨N, hx⟩, hk⟩ := WI_ok hi
      obtain ⟨r, ⟨M, hr⟩, q⟩ := WR_ok ops hk
      refine ⟨r, ⟨max N M, fun k L h1 h2 => ?_⟩, q⟩
      simp only [regX, hw, Option.bind_some, if_true]
      rw [hx k L (by omega) (by omega)]
      exact hr k L (by omega) (by omega)
    simp only [WR] at h
    split at h
    · rename_i hg
      exact yes (by simp [wantedD, hg]) h
    · rename_i k want hg
      have no : wantedD o fr = some false → WR G ops (putD fr o.dst .u) st K → ∃ r, RegTo G (o :: ops) fr st r ∧ K r.1 r.2 := by
        intro hw hi
        obtain ⟨r, ⟨M, hr⟩, q⟩ := WR_ok ops hi
        refine ⟨r, ⟨M, fun k L h1 h2 => ?_⟩, q⟩
        simp only [regX, hw, Option.bind_some]
        exact hr k L h1 h2
      unfold WG at h
      split at h
      · rename_i c hc
        split at h
        · exact yes (by simp [wantedD, hg, hc, *]) h
        · rename_i hne
          exact no (by simp [wantedD, hg, hc, hne]) h
      · rename_i hc
        exact no (by simp [wantedD, hg, hc]) h
      · exact h.elim

/-- The flags stand for what was done. -/
def DidR : List Did → List (Nat × List Nat) → Prop
  | [], [] => True
  | d :: ds, c :: cs => (c.1 = 0 → d.rd = []) ∧ (c.1 ≤ 1 → d.light = true ∧ d.wr = [] ∧ d.lo = d.hi ∧ d.rd = c.2) ∧ (2 ≤ c.1 → ∀ lo, c.2 = [lo] → d.lo = lo ∧ d.wr = []) ∧ DidR ds cs
  | _, _ => False
theorem DidR.append : ∀ {ds : List Did} {cs : List (Nat × List Nat)} {d : Did} {c : Nat × List Nat}, DidR ds cs → (c.1 = 0 → d.rd = []) → (c.1 ≤ 1 → d.light = true ∧ d.wr = [] ∧ d.lo = d.hi ∧ d.rd = c.2) → (2 ≤ c.1 → ∀ lo, c.2 = [lo] → d.lo = lo ∧ d.wr = []) → DidR (ds ++ [d]) (cs ++ [c])
  | [], [], _, _, _, a, b, e => ⟨a, b, e, trivial⟩
  | [], _ :: _, _, _, h, _, _, _ => h.elim
  | _ :: _, [], _, _, h, _, _, _ => h.elim
  | _ :: _, _ :: _, _, _, h, a, b, e => ⟨h.1, h.2.1, h.2.2.1, DidR.append h.2.2.2 a b e⟩
theorem seen_of : ∀ {ds : List Did} {cs : List (Nat × List Nat)} {m k : Nat}, DidR ds cs → visAll m cs k = true → ∀ j, seenBy m ds k j = true
  | [], [], _, _, _, _, _ => rfl
  | [], _ :: _, _, _, h, _, _ => h.elim
  | _ :: _, [], _, _, h, _, _ => h.elim
  | d :: ds, c :: cs, m, k, h, hv, j => by
    simp only [visAll, Bool.and_eq_true, Bool.or_eq_true, decide_eq_true_eq] at hv
    simp only [seenBy, Bool.and_eq_true, Bool.or_eq_true, Bool.not_eq_true']
    refine ⟨hv.1.imp_right fun h1 => ?_, seen_of h.2.2.2 hv.2 j⟩
    obtain ⟨_, a, b, _⟩ := h.2.1 h1
    simp only [a, b, List.contains_nil, Bool.or_false, decide_eq_false_iff_not]
    omega
theorem see_of : ∀ {ds : List Did} {cs : List (Nat × List Nat)} {m k : Nat} {ids : List Nat}, DidR ds cs → visSee m cs k ids = true → ∀ j, j ∈ ids → seenBy m ds k j = true
  | [], [], _, _, _, _, _ => fun _ _ => rfl
  | [], _ :: _, _, _, _, h, _ => h.elim
  | _ :: _, [], _, _, _, h, _ => h.elim
  | d :: ds, c :: cs, m, k, ids, h, hv => fun j hj => by
    simp only [visSee, Bool.and_eq_true, Bool.or_eq_true, decide_eq_true_eq] at hv
    simp only [seenBy, Bool.and_eq_true, Bool.or_eq_true, Bool.not_eq_true']
    refine ⟨?_, see_of h.2.2.2 hv.2 j hj⟩
    rcases hv.1 with (h1 | h1) | h1
    · exact .inl h1
    · obtain ⟨_, a, b, _⟩ := h.2.1 h1
      refine .inr ?_
      simp only [a, b, List.contains_nil, Bool.or_false, decide_eq_false_iff_not]
      omega
    · by_cases hc : c.1 ≤ 1
      · obtain ⟨_, a, b, _⟩ := h.2.1 hc
        refine .inr ?_
        simp only [a, b, List.contains_nil, Bool.or_false, decide_eq_false_iff_not]
        omega
      · unfold before at h1
        split at h1
        · rename_i lo he
          obtain ⟨a, b⟩ := h.2.2.1 (by omega) lo he
          have := (List.all_eq_true.1 h1) j hj
          refine .inr ?_
          simp only [a, b, List.contains_nil, Bool.or_false, decide_eq_false_iff_not]
          simp only [decide_eq_true_eq] at this
          omega
        · cases h1
theorem free_of : ∀ {ds : List Did} {cs : List (Nat × List Nat)} {m k : Nat} {wl : List Nat}, DidR ds cs → freeAll m wl cs k → freeOf m wl ds k = true
  | [], [], _, _, _, _, _ => rfl
  | [], _ :: _, _, _, _, h, _ => h.elim
  | _ :: _, [], _, _, _, h, _ => h.elim
  | d :: ds, c :: cs, m, k, wl, h, hv => by
    simp only [freeOf, Bool.and_eq_true, Bool.or_eq_true]
    refine ⟨?_, free_of h.2.2.2 hv.2⟩
    have key : c.1 ≤ 1 → (∀ j, j ∈ wl → j ∉ d.rd) → (d.light = true ∧ (wl.all fun j => !d.rd.contains j && !decide (d.lo ≤ j ∧ j < d.hi) && !d.wr.contains j) = true) := by
      intro h1 hn
      obtain ⟨a, b, e, _⟩ := h.2.1 h1
      refine ⟨a, ?_⟩
      simp only [b, e, List.contains_nil, Bool.not_false, Bool.and_true, List.all_eq_true, Bool.and_eq_true, Bool.not_eq_true', decide_eq_false_iff_not]
      intro j hj
      refine ⟨?_, by omega⟩
      rw [← Bool.not_eq_true, List.contains_iff_mem]
      exact hn j hj
    rcases hv.1 with h1 | h1 | h1
    · exact .inl (.inl h1)
    · exact .inr (key (by omega) (by rw [h.1 h1]; intro j _; simp))
    · exact .inr (key h1.1 (by rw [(h.2.1 h1.1).2.2.2]; exact h1.2))
theorem freeOf_nil (m : Nat) : ∀ (ds : List Did) (k : Nat), freeOf m [] ds k = true
  | [], _ => rfl
  | d :: ds, k => by simp [freeOf, freeOf_nil m ds]
/-- An operation that touches no box does the same on any heap. -/
theorem cls0 {o : LOp} (h : o.cls = 0) (vs : List V) : o.rd vs = [] ∧ ∀ bs nx r, o.sem nx vs bs = some r → r.wr = [] ∧ r.nw = [] := by
  have vr : ∀ {v : Option V} {r : Res}, vres v = some r → r.wr = [] ∧ r.nw = [] := by
    intro v r h
    simp only [vres, Option.map_eq_some_iff] at h
    obtain ⟨_, _, rfl⟩ := h
    exact ⟨rfl, rfl⟩
  cases o <;> simp [LOp.cls] at h <;> exact ⟨rfl, fun bs nx r hr => vr hr⟩
theorem cls1 {o : LOp} (h : o.cls ≤ 1) (vs : List V) : ∀ bs nx r, o.sem nx vs bs = some r → r.wr = [] ∧ r.nw = [] := by
  have vr : ∀ {v : Option V} {r : Res}, vres v = some r → r.wr = [] ∧ r.nw = [] := by
    intro v r h
    simp only [vres, Option.map_eq_some_iff] at h
    obtain ⟨_, _, rfl⟩ := h
    exact ⟨rfl, rfl⟩
  cases o <;> simp [LOp.cls] at h <;> exact fun bs nx r hr => vr hr
theorem St.ext' {a b : St} (h : a.h = b.h) (n : a.nx = b.nx) (w : a.wl = b.wl) : a = b := by cases a; cases b; simp_all
theorem ltX_pure {o : LOp} (h : o.cls = 0) {vs : List V} {st : St} {r : V × St} (hr : ltX o vs st = some r) : r.2 = st ∧ ∀ st' : St, st'.nx = st.nx → ltX o vs st' = some (r.1, st') := by
  obtain ⟨a, b⟩ := cls0 h vs
  simp only [ltX, a, fetch, Option.bind_some, Option.map_eq_some_iff] at hr ⊢
  obtain ⟨x, h1, rfl⟩ := hr
  obtain ⟨c, d⟩ := b _ _ _ h1
  have ap : ∀ st : St, st.apply x = st := fun st => St.ext' (by simp [St.apply, c, d, Heap.sets, Heap.adds]) (by simp [St.apply, d]) (by simp [St.apply, c])
  exact ⟨ap st, fun st' hn => ⟨x, by rw [hn]; exact h1, by rw [ap]⟩⟩
theorem ltX_look {o : LOp} (h : o.cls ≤ 1) {vs : List V} {st : St} {r : V × St} (hr : ltX o vs st = some r) : r.2 = st := by
  simp only [ltX, Option.bind_eq_some_iff, Option.map_eq_some_iff] at hr
  obtain ⟨bs, _, x, h1, rfl⟩ := hr
  obtain ⟨c, d⟩ := cls1 h vs _ _ _ h1
  exact St.ext' (by simp [St.apply, c, d, Heap.sets, Heap.adds]) (by simp [St.apply, d]) (by simp [St.apply, c])
theorem cls2 {o : LOp} (h : o.cls ≤ 2) (vs : List V) : ∀ bs nx r, o.sem nx vs bs = some r → r.wr = [] := by
  by_cases h1 : o.cls ≤ 1
  · exact fun bs nx r hr => (cls1 h1 vs bs nx r hr).1
  · cases o <;> simp [LOp.cls] at h h1 <;> intro bs nx r hr <;> simp only [LOp.sem] at hr
    · unfold sNew at hr; split at hr <;> cases hr; rfl
    · unfold sBox at hr
      split at hr
      · split at hr <;> cases hr; rfl
      · cases hr
    · simp only [sBsl, Option.map_eq_some_iff] at hr
      obtain ⟨_, _, rfl⟩ := hr
      rfl
    · unfold sCvb at hr
      split at hr
      · split at hr <;> cases hr; rfl
      · cases hr
    · unfold sMkm at hr; split at hr <;> cases hr; rfl
    · unfold sMks at hr
      split at hr
      · split at hr <;> cases hr; rfl
      · cases hr
theorem rd2 {o : LOp} (h : o.cls = 2) (vs : List V) : o.rd vs = [] := by cases o <;> simp [LOp.cls] at h <;> rfl
theorem fetch_eq {h h2 : Heap} : ∀ {ids : List Nat}, (∀ j, j ∈ ids → h2 j = h j) → fetch h2 ids = fetch h ids
  | [], _ => rfl
  | id :: r, e => by simp only [fetch]; rw [e id List.mem_cons_self, fetch_eq fun j hj => e j (List.mem_cons_of_mem _ hj)]
theorem adds_in : ∀ (nw : List Box) (h h2 : Heap) (nx j : Nat), nx ≤ j → j < nx + nw.length → h.adds nx nw j = h2.adds nx nw j
  | [], _, _, nx, j, h1, h2 => by simp at h2; omega
  | b :: r, h, g, nx, j, h1, h2 => by
    simp only [Heap.adds]
    by_cases hj : j = nx
    · subst hj
      have out : ∀ (r : List Box) (f : Heap) (n : Nat), j < n → f.adds n r j = f j := by
        intro r
        induction r with
        | nil => intros; rfl
        | cons c r ih => intro f n hn; simp only [Heap.adds]; rw [ih _ _ (by omega), Heap.set_ne _ _ (by omega)]
      rw [out r _ _ (by omega), out r _ _ (by omega), Heap.set_same, Heap.set_same]
    · exact adds_in r _ _ _ _ (by omega) (by simp at h2; omega)
theorem ltX_seen {o : LOp} (hc : o.cls ≤ 2) {vs : List V} {h hs : Heap} {nx : Nat} {x : V × St} (hr : ltX o vs { h := h, nx := nx, wl := [] } = some x) (he : ∀ j, j ∈ o.rd vs → hs j = h j) :
    ∃ h', ltX o vs { h := hs, nx := nx, wl := [] } = some (x.1, { h := h', nx := x.2.nx, wl := x.2.wl }) ∧ x.2.wl = [] ∧ ∀ j, nx ≤ j → j < x.2.nx → h' j = x.2.h j := by
  simp only [ltX, Option.bind_eq_some_iff, Option.map_eq_some_iff] at hr
  obtain ⟨bs, h1, r, h2, rfl⟩ := hr
  have hw := cls2 hc vs _ _ _ h2
  refine ⟨(hs.sets r.wr).adds nx r.nw, ?_, ?_, ?_⟩
  · simp only [ltX]
    rw [fetch_eq he, h1]
    simp only [Option.bind_some, h2, Option.map_some, St.apply]
  · simp only [St.apply, hw]; rfl
  · intro j hj hj2
    simp only [St.apply] at hj2 ⊢
    exact adds_in _ _ _ _ _ hj hj2
theorem WD_ok : ∀ (ops : List IOper) (bm : List Nat) (cs : List (Nat × List Nat)) (ds : List Did) {fr : Fr} {st : St} {K : Fr → St → Prop}, DidR ds cs → WD G ops bm cs fr st K → ∃ r, DrawTo G ops bm ds fr st r ∧ K r.1 r.2
  | [], _, _, _, fr, st, K, _, h => ⟨(fr, st), ⟨0, fun _ _ _ _ => rfl⟩, h⟩
  | o :: ops, bm, cs, ds, fr, st, K, hd, h => by
    simp only [WD] at h
    obtain ⟨hv, h⟩ := h
    have yes : wantedD o fr = some true → (WI G o.op fr { h := st.h, nx := st.nx, wl := [] } fun v st' => wrOK o.op (bm.headD 0) cs fr st.h st'.wl ∧ WD G ops bm.tail (cs ++ [(o.op.cls, tellD o.op fr st.nx st'.wl)]) (putD fr o.dst v) { h := st'.h, nx := st'.nx, wl := st'.wl ++ st.wl } K) → ∃ r, DrawTo G (o :: ops) bm ds fr st r ∧ K r.1 r.2 := by
      intro hw hi
      obtain ⟨x, ⟨N, hx⟩, hwr, hk⟩ := WI_ok hi
      -- the same on the heap that is seen
      have seen : ∃ hs : Heap, hs = (fun j => if seenBy (bm.headD 0) ds 0 j then st.h j else none) := ⟨_, rfl⟩
      obtain ⟨hs, ehs⟩ := seen
      have stay : Stay { h := st.h, nx := st.nx, wl := [] } x.2 := opX_stay (call_stay (G.at N) N) (hx N N (Nat.le_refl _) (Nat.le_refl _))
      have run : ∃ y : V × St, (∀ k L, N ≤ k → N ≤ L → opX ((G.at L).call k) o.op fr { h := hs, nx := st.nx, wl := [] } = some y) ∧ y.1 = x.1 ∧ y.2.nx = x.2.nx ∧ y.2.wl = x.2.wl ∧
          (fun j => if (st.nx ≤ j ∧ j < y.2.nx) ∨ y.2.wl.contains j = true then y.2.h j else st.h j) = x.2.h ∧ (x.2.wl ≠ [] → hs = st.h) := by
        by_cases hp : visAll (bm.headD 0) cs 0 = true
        · have e : hs = st.h := by rw [ehs]; funext j; rw [if_pos (seen_of hd hp j)]
          refine ⟨x, by rw [e]; exact hx, rfl, rfl, rfl, ?_, fun _ => e⟩
          funext j
          by_cases hj : (st.nx ≤ j ∧ j < x.2.nx) ∨ x.2.wl.contains j = true
          · rw [if_pos hj]
          · rw [if_neg hj]
            simp only [not_or, List.contains_iff_mem] at hj
            exact (stay.h j (by simp only; omega) hj.2).symm
        · cases ho : o.op with
          | lt q args =>
            rw [ho] at hx hv
            have hcl : (IOp.lt q args).cls = q.cls := rfl
            have hq : ltX q (args.map (·.ev fr)) { h := st.h, nx := st.nx, wl := [] } = some x := hx N N (Nat.le_refl _) (Nat.le_refl _)
            have hc2 : q.cls ≤ 2 := by
              unfold visOK at hv
              rw [hcl] at hv
              split at hv <;> first | omega | exact absurd hv hp
            have hsee : ∀ j, j ∈ q.rd (args.map (·.ev fr)) → hs j = st.h j := by
              intro j hj
              rw [ehs]
              by_cases h0 : q.cls = 0
              · rw [(cls0 h0 _).1] at hj; cases hj
              · by_cases h2 : q.cls = 2
                · rw [rd2 h2] at hj; cases hj
                · have h1 : q.cls = 1 := by omega
                  unfold visOK at hv
                  rw [hcl, h1] at hv
                  dsimp only
                  rw [if_pos (see_of hd hv j hj)]
            obtain ⟨h', e1, e2, e3⟩ := ltX_seen hc2 hq hsee
            refine ⟨_, fun k L _ _ => e1, rfl, rfl, rfl, ?_, fun hne => absurd e2 hne⟩
            funext j
            by_cases hj : (st.nx ≤ j ∧ j < x.2.nx) ∨ x.2.wl.contains j = true
            · dsimp only
              rw [if_pos hj]
              rw [e2] at hj
              simp only [List.contains_nil, Bool.false_eq_true, or_false] at hj
              exact e3 j hj.1 hj.2
            · dsimp only
              rw [if_neg hj]
              simp only [not_or, List.contains_iff_mem] at hj
              exact (stay.h j (by simp only; omega) hj.2).symm
          | callf _ _ => rw [ho] at hv; exact absurd hv hp
          | callv _ _ => rw [ho] at hv; exact absurd hv hp
      obtain ⟨y, hy, y1, y2, y3, y4, y5⟩ := run
      have hchk : (freeOf (bm.headD 0) y.2.wl ds 0 && okW (lightD o.op fr).1 (lightD o.op fr).2 hs y.2.wl) = true := by
        rw [y3]
        rcases hwr with e | ⟨a, b⟩
        · rw [e, freeOf_nil]; rfl
        · by_cases he : x.2.wl = []
          · rw [he, freeOf_nil]; rfl
          · rw [y5 he, free_of hd a, b]; rfl
      have hd' : DidR (ds ++ [{ light := (lightD o.op fr).1, rd := (lightD o.op fr).2, wr := y.2.wl, lo := st.nx, hi := y.2.nx }]) (cs ++ [(o.op.cls, tellD o.op fr st.nx x.2.wl)]) := by
        refine DidR.append hd ?_ ?_ ?_
        · intro hc
          cases ho : o.op with
          | lt q args => rw [ho] at hc; exact (cls0 hc _).1
          | callf _ _ => rw [ho] at hc; simp [IOp.cls] at hc
          | callv _ _ => rw [ho] at hc; simp [IOp.cls] at hc
        · intro hc
          cases ho : o.op with
          | lt q args =>
            rw [ho] at hc hx
            have hq : ltX q (args.map (·.ev fr)) { h := st.h, nx := st.nx, wl := [] } = some x := hx N N (Nat.le_refl _) (Nat.le_refl _)
            have e1 := ltX_look hc hq
            exact ⟨rfl, by simp only; rw [y3, e1], by simp only; rw [y2, e1], by simp only [tellD]; rw [if_pos hc]⟩
          | callf _ _ => rw [ho] at hc; simp [IOp.cls] at hc
          | callv _ _ => rw [ho] at hc; simp [IOp.cls] at hc
        · intro hc lo he
          simp only [tellD] at he
          rw [if_neg (by simp only at hc; omega)] at he
          split at he
          · rename_i hw
            cases he
            exact ⟨rfl, by simp only; rw [y3, hw]⟩
          · cases he
      obtain ⟨r, ⟨M, hr⟩, q⟩ := WD_ok ops bm.tail (cs ++ [(o.op.cls, tellD o.op fr st.nx x.2.wl)]) _ hd' hk
      refine ⟨r, ⟨max N M, fun k L h1 h2 => ?_⟩, q⟩
      simp only [drawX, hw, Option.bind_some, if_true]
      rw [← ehs, hy k L (by omega) (by omega)]
      simp only [Option.bind_some, hchk, if_true]
      have := hr k L (by omega) (by omega)
      rw [y1, y4, y2, y3]
      rw [y2, y3] at this
      exact this
    have no : wantedD o fr = some false → WD G ops bm.tail (cs ++ [(0, [])]) (putD fr o.dst .u) st K → ∃ r, DrawTo G (o :: ops) bm ds fr st r ∧ K r.1 r.2 := by
      intro hw hi
      have hd' : DidR (ds ++ [{ light := true, rd := [], wr := [], lo := st.nx, hi := st.nx }]) (cs ++ [(0, [])]) := DidR.append hd (fun _ => rfl) (fun _ => ⟨rfl, rfl, rfl, rfl⟩) (fun h => absurd h (by simp))
      obtain ⟨r, ⟨M, hr⟩, q⟩ := WD_ok ops bm.tail (cs ++ [(0, [])]) _ hd' hi
      refine ⟨r, ⟨M, fun k L h1 h2 => ?_⟩, q⟩
      simp only [drawX, hw, Option.bind_some]
      exact hr k L h1 h2
    split at h
    · rename_i hg
      exact yes (by simp [wantedD, hg]) h
    · rename_i k want hg
      unfold WG at h
      split at h
      · rename_i c hc
        split at h
        · exact yes (by simp [wantedD, hg, hc, *]) h
        · rename_i hne
          exact no (by simp [wantedD, hg, hc, hne]) h
      · rename_i hc
        exact no (by simp [wantedD, hg, hc]) h
      · exact h.elim
theorem WP_ok : ∀ (c : ICode) {fr : Fr} {st : St} {N : Fr → St → Prop} {X : Nat → Fr → St → Prop} {R : Fr → St → Prop}, WP G c fr st N X R → ∃ e fr' st', CodeTo G c fr st (e, fr', st') ∧ WE e fr' st' N X R
  | .skip, fr, st, _, _, _, h => ⟨.n, fr, st, ⟨0, fun _ _ _ _ => rfl⟩, h⟩
  | .exit id, fr, st, _, _, _, h => ⟨.x id, fr, st, ⟨0, fun _ _ _ _ => rfl⟩, h⟩
  | .ret, fr, st, _, _, _, h => ⟨.r, fr, st, ⟨0, fun _ _ _ _ => rfl⟩, h⟩
  | .reg ops, fr, st, _, _, _, h => by
    obtain ⟨r, ⟨N, hr⟩, q⟩ := WR_ok ops h
    exact ⟨.n, r.1, r.2, ⟨N, fun k L h1 h2 => by simp only [codeX]; rw [hr k L h1 h2]; rfl⟩, q⟩
  | .draw ops bm, fr, st, _, _, _, h => by
    obtain ⟨r, ⟨N, hr⟩, q⟩ := WD_ok ops bm [] [] trivial h
    exact ⟨.n, r.1, r.2, ⟨N, fun k L h1 h2 => by simp only [codeX]; rw [hr k L h1 h2]; rfl⟩, q⟩
  | .seq a b, fr, st, _, _, _, h => by
    obtain ⟨e, fr', st', ⟨N, hN⟩, q⟩ := WP_ok a h
    cases e with
    | n =>
      obtain ⟨e, fr2, st2, ⟨M, hM⟩, q⟩ := WP_ok b q
      exact ⟨e, fr2, st2, ⟨max N M, fun k L h1 h2 => by simp only [codeX]; rw [hN k L (by omega) (by omega)]; exact hM k L (by omega) (by omega)⟩, q⟩
    | x id => exact ⟨.x id, fr', st', ⟨N, fun k L h1 h2 => by simp only [codeX]; rw [hN k L h1 h2]; rfl⟩, q⟩
    | r => exact ⟨.r, fr', st', ⟨N, fun k L h1 h2 => by simp only [codeX]; rw [hN k L h1 h2]; rfl⟩, q⟩
  | .cond c a b, fr, st, _, _, _, h => by
    simp only [WP, WC] at h
    split at h
    · rename_i x hx
      split at h
      · rename_i hc
        obtain ⟨e, fr', st', ⟨N, hN⟩, q⟩ := WP_ok a h
        exact ⟨e, fr', st', ⟨N, fun k L h1 h2 => by simp only [codeX, hx, hc]; exact hN k L h1 h2⟩, q⟩
      · rename_i hc
        obtain ⟨e, fr', st', ⟨N, hN⟩, q⟩ := WP_ok b h
        exact ⟨e, fr', st', ⟨N, fun k L h1 h2 => by simp only [codeX, hx, Bool.eq_false_iff.2 hc]; exact hN k L h1 h2⟩, q⟩
    · exact h.elim
  | .block id c, fr, st, N', X, R, h => by
    obtain ⟨e, fr', st', ⟨N, hN⟩, q⟩ := WP_ok c h
    refine ⟨if e = .x id then .n else e, fr', st', ⟨N, fun k L h1 h2 => by simp only [codeX]; rw [hN k L h1 h2]; rfl⟩, ?_⟩
    cases e with
    | n => simpa [WE] using q
    | r => simpa [WE] using q
    | x j =>
      simp only [WE] at q
      by_cases hj : j = id
      · rw [if_pos hj] at q; simp [hj, WE, q]
      · rw [if_neg hj] at q; simp [hj, WE, q]
  | .loop c, fr, st, _, _, _, h => by
    obtain ⟨e, fr', st', a, q⟩ := h
    refine ⟨e, fr', st', a, ?_⟩
    cases e with
    | n => exact q.elim
    | x _ => exact q
    | r => exact q

/-- What stays, told to the continuation. -/
theorem CodeTo.stay {c : ICode} {fr : Fr} {st : St} {r : Ex × Fr × St} (h : CodeTo G c fr st r) : Stay st r.2.2 ∧ ∀ j, j ∉ c.dsts → r.2.1.get j = fr.get j := by
  obtain ⟨N, h⟩ := h
  exact codeX_stay (call_stay (G.at N) N) N c (h N N (Nat.le_refl _) (Nat.le_refl _))
theorem WE.mono {e : Ex} {fr : Fr} {st : St} {N N' : Fr → St → Prop} {X X' : Nat → Fr → St → Prop} {R R' : Fr → St → Prop} (h : WE e fr st N X R) (a : N fr st → N' fr st) (b : ∀ j, X j fr st → X' j fr st) (c : R fr st → R' fr st) : WE e fr st N' X' R' := by
  cases e with
  | n => exact a h
  | x j => exact b j h
  | r => exact c h
/-- What a loop's rounds leave: the frame but the places that they set. -/
structure Rnd (ds : List Nat) (fr : Fr) (st : St) (fr' : Fr) (st' : St) : Prop where
  fr : ∀ j, ds.contains j = false → fr'.get j = fr.get j
  st : Stay st st'
theorem Rnd.refl (ds : List Nat) (fr : Fr) (st : St) : Rnd ds fr st fr st := { fr := fun _ _ => rfl, st := Stay.refl st }
theorem Rnd.trans {ds : List Nat} {a b c : Fr} {s t u : St} (h : Rnd ds a s b t) (k : Rnd ds b t c u) : Rnd ds a s c u := { fr := fun j hj => by rw [k.fr j hj, h.fr j hj], st := h.st.trans k.st }
theorem CodeTo.rnd {c : ICode} {fr : Fr} {st : St} {r : Ex × Fr × St} (h : CodeTo G c fr st r) : Rnd c.dsts fr st r.2.1 r.2.2 := by
  obtain ⟨a, b⟩ := h.stay
  exact ⟨fun j hj => b j fun hm => (by rw [List.contains_iff_mem.2 hm] at hj; cases hj), a⟩

/-- A loop: what holds ahead of each round, with a number that falls. -/
theorem WL_sem {c : ICode} {fr : Fr} {st : St} {X : Nat → Fr → St → Prop} {R : Fr → St → Prop} (I : Nat → Fr → St → Prop) (m : Nat) (h0 : I m fr st)
    (step : ∀ m fr' st', Rnd c.dsts fr st fr' st' → I m fr' st' → ∃ e fr2 st2, CodeTo G c fr' st' (e, fr2, st2) ∧ WE e fr2 st2 (fun fr2 st2 => Rnd c.dsts fr st fr2 st2 → ∃ m2, m2 < m ∧ I m2 fr2 st2) (fun j fr2 st2 => Rnd c.dsts fr st fr2 st2 → X j fr2 st2) (fun fr2 st2 => Rnd c.dsts fr st fr2 st2 → R fr2 st2)) :
    WL G c fr st X R := by
  have key : ∀ m fr' st', Rnd c.dsts fr st fr' st' → I m fr' st' → ∃ e fr2 st2, (∃ N, ∀ k L q, N ≤ k → N ≤ L → N ≤ q → iter (codeX ((G.at L).call k) L c) q fr' st' = some (e, fr2, st2)) ∧ WE e fr2 st2 (fun _ _ => False) X R := by
    intro m
    induction m using Nat.strongRecOn with
    | ind m ih =>
      intro fr' st' hr hi
      obtain ⟨e, fr2, st2, hc, hw⟩ := step m fr' st' hr hi
      have hr2 := hr.trans hc.rnd
      obtain ⟨N, hN⟩ := hc
      cases e with
      | n =>
        obtain ⟨m2, hm, hi2⟩ := hw hr2
        obtain ⟨e3, fr3, st3, ⟨M, hM⟩, hw3⟩ := ih m2 hm fr2 st2 hr2 hi2
        refine ⟨e3, fr3, st3, ⟨max N M + 1, fun k L q h1 h2 h3 => ?_⟩, hw3⟩
        obtain ⟨q, rfl⟩ : ∃ q', q = q' + 1 := ⟨q - 1, by omega⟩
        simp only [iter]
        rw [hN k L (by omega) (by omega)]
        exact hM k L q (by omega) (by omega) (by omega)
      | x j =>
        refine ⟨.x j, fr2, st2, ⟨N + 1, fun k L q h1 h2 h3 => ?_⟩, hw hr2⟩
        obtain ⟨q, rfl⟩ : ∃ q', q = q' + 1 := ⟨q - 1, by omega⟩
        simp only [iter]
        rw [hN k L (by omega) (by omega)]
        rfl
      | r =>
        refine ⟨.r, fr2, st2, ⟨N + 1, fun k L q h1 h2 h3 => ?_⟩, hw hr2⟩
        obtain ⟨q, rfl⟩ : ∃ q', q = q' + 1 := ⟨q - 1, by omega⟩
        simp only [iter]
        rw [hN k L (by omega) (by omega)]
        rfl
  obtain ⟨e, fr2, st2, ⟨N, hN⟩, hw⟩ := key m fr st (Rnd.refl _ _ _) h0
  exact ⟨e, fr2, st2, ⟨N, fun k L h1 h2 => hN k L L h1 h2 h2⟩, hw⟩

/-- A loop: what holds ahead of each round, with a number that falls. -/
theorem WL_inv {c : ICode} {fr : Fr} {st : St} {X : Nat → Fr → St → Prop} {R : Fr → St → Prop} (I : Nat → Fr → St → Prop) (m : Nat) (h0 : I m fr st)
    (step : ∀ m fr' st', Rnd c.dsts fr st fr' st' → I m fr' st' → WP G c fr' st' (fun fr2 st2 => Rnd c.dsts fr st fr2 st2 → ∃ m2, m2 < m ∧ I m2 fr2 st2) (fun j fr2 st2 => Rnd c.dsts fr st fr2 st2 → X j fr2 st2) (fun fr2 st2 => Rnd c.dsts fr st fr2 st2 → R fr2 st2)) :
    WL G c fr st X R := WL_sem I m h0 fun m fr' st' hr hi => WP_ok c (step m fr' st' hr hi)

/-- The results. -/
def WQ (h : Heap) (fr : Fr) (rs : List IRes) (K : V → Prop) : Prop := match ressD h fr rs with | some vs => K (tupD vs) | none => False
theorem Spec.of_codeTo {f : Nat} {F : IFunc} {vs : List V} {h : Heap} {nx : Nat} {Q : V → Heap → Nat → List Nat → Prop} (hp : G.prim f = none) (hf : G.fn f = some F) (hn : vs.length ≤ F.n)
    {e : Ex} {fr : Fr} {st : St} (hc : CodeTo G F.code (Fr.of vs 0) { h, nx, wl := [] } (e, fr, st)) (he : e = .n ∨ e = .r)
    (hq : WQ st.h fr F.res fun v => Q v st.h st.nx (st.wl.filter fun id => !decide (nx ≤ id ∧ id < st.nx))) : Spec G f vs h nx Q := by
  obtain ⟨N, hN⟩ := hc
  unfold WQ at hq
  split at hq
  · rename_i vs' hvs
    refine ⟨_, _, _, _, ⟨N + 1, fun k L h1 h2 => ?_⟩, hq⟩
    obtain ⟨k, rfl⟩ : ∃ k', k = k' + 1 := ⟨k - 1, by omega⟩
    simp only [Lib.call]
    rw [show (G.at L).prim f = none from hp, show (G.at L).fn f = some F from hf]
    simp only [hn, if_true]
    have := hN k L (by omega) (by omega)
    rw [show (G.at L).L = L from rfl, this]
    rcases he with rfl | rfl
    · simp only [Option.bind_some, hvs, Option.map_some]
    · simp only [Option.bind_some, hvs, Option.map_some]
  · exact hq.elim
theorem Spec.code {f : Nat} {F : IFunc} {vs : List V} {h : Heap} {nx : Nat} {Q : V → Heap → Nat → List Nat → Prop} (hp : G.prim f = none) (hf : G.fn f = some F) (hn : vs.length ≤ F.n)
    (hw : WP G F.code (Fr.of vs 0) { h, nx, wl := [] } (fun fr st => WQ st.h fr F.res fun v => Q v st.h st.nx (st.wl.filter fun id => !decide (nx ≤ id ∧ id < st.nx))) (fun _ _ _ => False)
      (fun fr st => WQ st.h fr F.res fun v => Q v st.h st.nx (st.wl.filter fun id => !decide (nx ≤ id ∧ id < st.nx)))) : Spec G f vs h nx Q := by
  obtain ⟨e, fr, st, hc, hq⟩ := WP_ok F.code hw
  cases e with
  | n => exact Spec.of_codeTo hp hf hn hc (.inl rfl) hq
  | r => exact Spec.of_codeTo hp hf hn hc (.inr rfl) hq
  | x _ => exact hq.elim
theorem Spec.stay {f : Nat} {vs : List V} {h : Heap} {nx : Nat} {Q : V → Heap → Nat → List Nat → Prop} (a : Spec G f vs h nx Q) : Spec G f vs h nx fun v h' nx' wl => Q v h' nx' wl ∧ nx ≤ nx' ∧ ∀ j, (j < nx ∨ nx' ≤ j) → j ∉ wl → h' j = h j := by
  obtain ⟨v, h', nx', wl, hc, q⟩ := a
  refine ⟨v, h', nx', wl, hc, q, ?_⟩
  obtain ⟨N, hN⟩ := hc
  exact (call_stay (G.at N) N).ok _ _ _ _ _ (hN N N (Nat.le_refl _) (Nat.le_refl _))
/-- A function that writes only what it made. -/
theorem SpecP.code {f : Nat} {F : IFunc} {vs : List V} {h : Heap} {nx : Nat} {Q : V → Heap → Nat → Prop} (hp : G.prim f = none) (hf : G.fn f = some F) (hn : vs.length ≤ F.n)
    (hw : WP G F.code (Fr.of vs 0) { h, nx, wl := [] } (fun fr st => (∀ j, j ∈ st.wl → nx ≤ j ∧ j < st.nx) ∧ WQ st.h fr F.res fun v => Q v st.h st.nx) (fun _ _ _ => False)
      (fun fr st => (∀ j, j ∈ st.wl → nx ≤ j ∧ j < st.nx) ∧ WQ st.h fr F.res fun v => Q v st.h st.nx)) : SpecP G f vs h nx Q := by
  have key : ∀ (e : Ex) (fr : Fr) (st : St), CodeTo G F.code (Fr.of vs 0) { h, nx, wl := [] } (e, fr, st) → (e = .n ∨ e = .r) → (∀ j, j ∈ st.wl → nx ≤ j ∧ j < st.nx) ∧ WQ st.h fr F.res (fun v => Q v st.h st.nx) → SpecP G f vs h nx Q := by
    rintro e fr st hc he ⟨a, b⟩
    have : Spec G f vs h nx fun v h' nx' wl => wl = [] ∧ Q v h' nx' := by
      refine Spec.of_codeTo hp hf hn hc he ?_
      unfold WQ at b ⊢
      split at b
      · refine ⟨?_, b⟩
        rw [List.filter_eq_nil_iff]
        intro j hj
        simp [a j hj]
      · exact b.elim
    exact Spec.mono this.stay fun v h' nx' wl ⟨⟨e, q⟩, n, s⟩ => ⟨e, n, fun j hj => s j (.inl hj) (by rw [e]; simp), q⟩
  obtain ⟨e, fr, st, hc, hq⟩ := WP_ok F.code hw
  cases e with
  | n => exact key _ _ _ hc (.inl rfl) hq
  | r => exact key _ _ _ hc (.inr rfl) hq
  | x _ => exact hq.elim
end Go.Dm
