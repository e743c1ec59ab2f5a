/- Calls; one operation of a region; a region in its written order. -/
import Derived.Test.YtmdaacajdnbegaaDoorDLt
namespace Go.Dm
open Go
set_option linter.constructorNameAsVariable false
set_option linter.unnecessarySimpa false
set_option linter.unusedSimpArgs false
variable {P : Program}

/-- A call of f goes into its body. -/
def Enters (P : Program) (f : Nat) : Prop := ∀ (args : Array Value) (w : World), (callFunc f args).run P w = .ok (.enter f args) w
theorem Enters.of {f : Nat} {fn : Func} (h : P.funcs[f]? = some fn) (hn : (fn.name == "runtime.NumGoroutine") = false) (hb : fn.body.isNone = false) : Enters P f := by
  intro args w
  unfold callFunc
  simp only [Sem.run_bind, run_program, Result.andThen_ok, h, hn, hb, Bool.false_eq_true, if_false, Sem.run_pure]

/-- What a call comes back with. -/
def Back (P : Program) (μ : Mu) (w : World) (r : V × Heap × Nat × List Nat) (nx : Nat) : Ending → World → Prop
  | .returned y, w' => ∃ μ', VR μ' r.1 y ∧ SR P μ' r.2.1 w' ∧ Tr μ w r.2.2.2 nx r.2.2.1 μ' w'
  | _, _ => False
/-- What the machine says of a call is so. -/
structure CallOK (P : Program) (cf : CallF) : Prop where
  enter : ∀ f vs h nx r, cf f vs h nx = some r → Enters P f
  mono : ∀ f vs h nx r, cf f vs h nx = some r → nx ≤ r.2.2.1
  calls : ∀ f vs h nx r, cf f vs h nx = some r → ∀ (μ : Mu) (w : World) (args : Array Value), VRL μ vs args.toList → SR P μ h w → (∀ id, nx ≤ id → id < r.2.2.1 → μ id = none) → Calls P f args w (Back P μ w r nx)

theorem wanted_ok {μ : Mu} {n : Nat} {fr : Fr} {a : Act} {ops : Array Oper} {o : Oper} {g : Option (Nat × Bool)} {b : Bool} {d : Option Nat} {p : IOp} (hf : FrR μ n fr a) (hg : compG ops o.guard = some g) (h : wantedD ⟨d, p, g⟩ fr = some b) :
    Region.wanted o (yielded ops a.tmps) = b := by
  unfold Region.wanted
  cases hgd : o.guard with
  | none =>
    rw [hgd] at hg
    simp only [compG, Option.some.injEq] at hg
    subst hg
    simpa [wantedD] using h
  | some q =>
    obtain ⟨j, want⟩ := q
    rw [hgd] at hg
    simp only [compG, Option.bind_eq_some_iff, Option.map_eq_some_iff] at hg
    obtain ⟨oj, hoj, dd, hdd, rfl⟩ := hg
    have hv := hf.get dd
    simp only [wantedD] at h
    have hy : yielded ops a.tmps j = match a.tmps[dd]? with | some (.bool b) => some b | _ => none := by
      simp only [yielded, hoj, Option.bind_some, hdd]
      cases a.tmps[dd]? with
      | none => rfl
      | some v => cases v <;> rfl
    simp only [hy]
    split at h <;> try (cases h; done)
    · rename_i x hx
      rw [hx] at hv
      have hv := hv.b_inv
      rw [Array.getD_eq_getD_getElem?] at hv
      cases hq : a.tmps[dd]? with
      | none => rw [hq] at hv; cases hv
      | some y =>
        rw [hq] at hv
        simp only [Option.getD_some] at hv
        subst hv
        simp only [Option.some.injEq] at h
        simp only [← h]
        cases x <;> cases want <;> rfl
    · rename_i hx
      rw [hx] at hv
      have hv : a.tmps.getD dd undef = undef := hv
      rw [Array.getD_eq_getD_getElem?] at hv
      simp only [Option.some.injEq] at h
      subst h
      cases hq : a.tmps[dd]? with
      | none => rfl
      | some y =>
        rw [hq] at hv
        simp only [Option.getD_some] at hv
        subst hv
        rfl

/-- A call's operation, in the model: it enters. -/
theorem exec_callf {o : Oper} {c : Call} {f : Nat} {a : Act} {w : World} (ho : o.op = .call c) (hc : c.callee = .value (.func f)) (he : Enters P f) : (execOp a.eval o).run P w = .ok (.enter f (c.args.map a.eval)) w := by
  unfold execOp
  simp only [ho, resolve, hc, Deferred.ofValue, Act.eval, Sem.run_bind, Sem.run_pure, Result.andThen_ok, invoke]
  simpa using he (c.args.map a.eval) w
theorem exec_callv {o : Oper} {c : Call} {f : Nat} {x : Operand} {A B : Array Value} {a : Act} {w : World} (ho : o.op = .call c) (hc : c.callee = .value x) (hx : a.eval x = .func (.func f) A B) (he : Enters P f) :
    (execOp a.eval o).run P w = .ok (.enter f (A ++ c.args.map a.eval ++ B)) w := by
  unfold execOp
  simp only [ho, resolve, hc, hx, Deferred.ofValue, Sem.run_bind, Sem.run_pure, Result.andThen_ok, invoke]
  exact he _ w

theorem callX_nx {cf : CallF} (hcf : CallOK P cf) {f : Nat} {vs : List V} {st st' : St} {v : V} (h : callX cf f vs st = some (v, st')) : st.nx ≤ st'.nx := by
  simp only [callX, Option.map_eq_some_iff] at h
  obtain ⟨r, h1, h2⟩ := h
  cases h2
  exact hcf.mono _ _ _ _ _ h1
theorem opX_nx {cf : CallF} (hcf : CallOK P cf) {io : IOp} {fr : Fr} {st st' : St} {v : V} (h : opX cf io fr st = some (v, st')) : st.nx ≤ st'.nx := by
  cases io with
  | lt lo args =>
    simp only [opX, ltX, Option.bind_eq_some_iff, Option.map_eq_some_iff] at h
    obtain ⟨bs, _, r, _, h2⟩ := h
    cases h2
    exact Nat.le_add_right _ _
  | callf f args => exact callX_nx hcf h
  | callv x args =>
    simp only [opX] at h
    split at h
    · exact callX_nx hcf h
    · cases h

theorem lt_is {o : LOp} {xs : List Operand} {io : IOp} (h : lt o xs = some io) : ∃ lo as, io = .lt lo as := by
  unfold lt at h
  simp only [Option.map_eq_some_iff] at h
  obtain ⟨a, _, rfl⟩ := h
  exact ⟨_, _, rfl⟩
theorem compOp_inv {op : Op} {io : IOp} (h : compOp P op = some io) : (∃ lo as, io = .lt lo as) ∨ (∃ c f as, op = .call c ∧ c.callee = .value (.func f) ∧ compOs c.args.toList = some as ∧ io = .callf f as) ∨
    (∃ c x p as, op = .call c ∧ c.callee = .value x ∧ compO x = some p ∧ compOs c.args.toList = some as ∧ io = .callv p as) := by
  cases op
  case call c =>
    simp only [compOp] at h
    split at h
    · rename_i f hcal
      simp only [Option.map_eq_some_iff] at h
      obtain ⟨as, has, rfl⟩ := h
      exact .inr (.inl ⟨c, f, as, rfl, hcal, has, rfl⟩)
    · rename_i x _ hcal
      simp only [Option.bind_eq_some_iff, Option.map_eq_some_iff] at h
      obtain ⟨p, hp, as, has, rfl⟩ := h
      exact .inr (.inr ⟨c, x, p, as, rfl, hcal, hp, has, rfl⟩)
    all_goals (repeat' first | exact .inl (lt_is h) | contradiction | (cases h; done) | (simp only [Option.bind_eq_some_iff] at h; done) | (obtain ⟨_, _, h⟩ : ∃ _, _ ∧ _ := h) | (simp only [Option.bind_eq_some_iff] at h) | split at h)
  all_goals
    simp only [compOp] at h
    (repeat' first | exact .inl (lt_is h) | contradiction | (cases h; done) | (simp only [Option.bind_eq_some_iff] at h; done) | (obtain ⟨_, _, h⟩ : ∃ _, _ ∧ _ := h) | (simp only [Option.bind_eq_some_iff] at h) | split at h)

/-- One operation that is wanted. -/
theorem op_ok {cf : CallF} (hcf : CallOK P cf) {o : Oper} {io : IOp} (hc : compOp P o.op = some io) {n : Nat} {fr : Fr} {st st' : St} {v : V} (h : opX cf io fr st = some (v, st')) :
    ∃ wl, st'.wl = wl ++ st.wl ∧ ∀ (μ : Mu) (a : Act) (w : World) (K : Act → World → Prop) (Q : Exit → Act → World → Prop), FrR μ n fr a → SR P μ st.h w → (∀ id, st.nx ≤ id → id < st'.nx → μ id = none) →
      (∀ y w' μ', VR μ' v y → SR P μ' st'.h w' → Tr μ w wl st.nx st'.nx μ' w' → K (a.put o.dst y) w') → o.wp P a w K Q := by
  have call : ∀ f vs, callX cf f vs st = some (v, st') → ∃ wl, st'.wl = wl ++ st.wl ∧ Enters P f ∧ ∀ (μ : Mu) (a : Act) (w : World) (args : Array Value) (K : Act → World → Prop) (Q : Exit → Act → World → Prop), VRL μ vs args.toList → SR P μ st.h w →
      (∀ id, st.nx ≤ id → id < st'.nx → μ id = none) → (∀ y w' μ', VR μ' v y → SR P μ' st'.h w' → Tr μ w wl st.nx st'.nx μ' w' → K (a.put o.dst y) w') → (execOp a.eval o).run P w = .ok (.enter f args) w → o.wp P a w K Q := by
    intro f vs hx
    simp only [callX, Option.map_eq_some_iff] at hx
    obtain ⟨r, h1, h2⟩ := hx
    cases h2
    refine ⟨r.2.2.2, rfl, hcf.enter _ _ _ _ _ h1, fun μ a w args K Q hv hs hfr hK hrun => ?_⟩
    unfold Oper.wp
    rw [hrun, Oper.upon_enter]
    refine Calls.mono (hcf.calls _ _ _ _ _ h1 μ w args hv hs hfr) fun e w' he => ?_
    cases e with
    | returned y =>
      obtain ⟨μ', k1, k2, k3⟩ := he
      exact hK y w' μ' k1 k2 k3
    | panicked => exact he.elim
    | outgrown => exact he.elim
  cases io with
  | lt lo args =>
    simp only [opX, ltX, Option.bind_eq_some_iff, Option.map_eq_some_iff] at h
    obtain ⟨bs, hb, r, hr, h2⟩ := h
    cases h2
    refine ⟨r.wr.map (·.1), rfl, fun μ a w K Q hf hs hfr hK => ?_⟩
    obtain ⟨nxt, y, w', μ', e1, e2, e3⟩ := lt_ok hc hf hs (fun hne => hfr _ (Nat.le_refl _) (by
      have : r.nw.length ≠ 0 := by simpa using hne
      simp only [St.apply]; omega)) hb hr
    unfold Oper.wp
    rw [e1]
    rcases e2 with rfl | ⟨rfl, rfl⟩
    · rw [Oper.upon_value]; exact hK y w' μ' e3.val e3.sr e3.tr
    · rw [Oper.upon_skip]; exact hK undef w' μ' e3.val e3.sr e3.tr
  | callf f args =>
    obtain ⟨wl, h1, h2, h3⟩ := call f _ h
    refine ⟨wl, h1, fun μ a w K Q hf hs hfr hK => ?_⟩
    rcases compOp_inv hc with ⟨_, _, hq⟩ | ⟨c, g, as, ho, hcal, has, hq⟩ | ⟨_, _, _, _, _, _, _, _, hq⟩ <;> cases hq
    exact h3 μ a w (c.args.map a.eval) K Q (by simpa using compOs_ok hf has) hs hfr hK (exec_callf ho hcal h2)
  | callv x args =>
    simp only [opX] at h
    split at h
    · rename_i f first cap hxv
      obtain ⟨wl, h1, h2, h3⟩ := call f _ h
      refine ⟨wl, h1, fun μ a w K Q hf hs hfr hK => ?_⟩
      rcases compOp_inv hc with ⟨_, _, hq⟩ | ⟨_, _, _, _, _, _, hq⟩ | ⟨c, x0, p, as, ho, hcal, hp, has, hq⟩ <;> cases hq
      have hv := compO_ok hf hp
      rw [hxv] at hv
      obtain ⟨A, B, hA, hB, hC⟩ := hv.fn_inv
      exact h3 μ a w (A ++ c.args.map a.eval ++ B) K Q (by simpa [List.append_assoc] using (hB.append (compOs_ok hf has)).append hC) hs hfr hK (exec_callv ho hcal hA h2)
    · cases h

theorem compOpers_cons {n : Nat} {ops : Array Oper} {o : Oper} {l : List Oper} {ios : List IOper} (h : compOpers P n ops (o :: l) = some ios) :
    ∃ p g r, ios = { dst := o.dst, op := p, gd := g } :: r ∧ compOp P o.op = some p ∧ compG ops o.guard = some g ∧ (∀ k, o.dst = some k → k < n) ∧ compOpers P n ops l = some r := by
  simp only [compOpers, Option.bind_eq_some_iff] at h
  obtain ⟨p, h1, g, h2, h3⟩ := h
  split at h3
  · rename_i hd
    simp only [Option.map_eq_some_iff] at h3
    obtain ⟨r, h4, rfl⟩ := h3
    refine ⟨p, g, r, rfl, h1, h2, fun k hk => ?_, h4⟩
    rw [hk] at hd
    simpa [okDst] using hd
  · cases h3

theorem regX_nx {cf : CallF} (hcf : CallOK P cf) : ∀ (ios : List IOper) (fr fr' : Fr) (st st' : St), regX cf ios fr st = some (fr', st') → st.nx ≤ st'.nx
  | [], fr, fr', st, st', h => by simp [regX] at h; rw [h.2]; exact Nat.le_refl _
  | io :: ios, fr, fr', st, st', h => by
    simp only [regX, Option.bind_eq_some_iff] at h
    obtain ⟨b, _, h⟩ := h
    split at h
    · simp only [Option.bind_eq_some_iff] at h
      obtain ⟨⟨v, st1⟩, h1, h2⟩ := h
      exact Nat.le_trans (opX_nx hcf h1) (regX_nx hcf ios _ _ _ _ h2)
    · exact regX_nx hcf ios _ _ _ _ h

/-- A region in its written order. -/
theorem reg_ok {cf : CallF} (hcf : CallOK P cf) {n : Nat} {ops : Array Oper} {Q : Exit → Act → World → Prop} : ∀ (l : List Oper) (ios : List IOper), compOpers P n ops l = some ios → ∀ (fr fr' : Fr) (st st' : St), regX cf ios fr st = some (fr', st') →
    ∃ wl, st'.wl = wl ++ st.wl ∧ ∀ (μ : Mu) (a : Act) (w : World), FrR μ n fr a → SR P μ st.h w → (∀ id, st.nx ≤ id → id < st'.nx → μ id = none) →
      (∀ a' w' μ', FrR μ' n fr' a' → SR P μ' st'.h w' → Tr μ w wl st.nx st'.nx μ' w' → Q .normal a' w') → wpList P ops Q l a w
  | [], ios, hc, fr, fr', st, st', h => by
    simp [compOpers] at hc
    subst hc
    simp [regX] at h
    obtain ⟨rfl, rfl⟩ := h
    exact ⟨[], rfl, fun μ a w hf hs hfr hQ => hQ a w μ hf hs (Tr.refl _ _ _)⟩
  | o :: l, ios, hc, fr, fr', st, st', h => by
    obtain ⟨p, g, r, rfl, h1, h2, hd, h3⟩ := compOpers_cons hc
    simp only [regX, Option.bind_eq_some_iff] at h
    obtain ⟨b, hb, h⟩ := h
    split at h
    · rename_i hbt
      subst hbt
      simp only [Option.bind_eq_some_iff] at h
      obtain ⟨⟨v, st1⟩, h4, h5⟩ := h
      obtain ⟨wl1, e1, k1⟩ := op_ok (n := n) hcf h1 h4
      simp only at h5
      obtain ⟨wl2, e2, k2⟩ := reg_ok hcf (Q := Q) l r h3 _ _ _ _ h5
      have m1 : st.nx ≤ st1.nx := opX_nx hcf h4
      have m2 : st1.nx ≤ st'.nx := regX_nx hcf _ _ _ _ _ h5
      refine ⟨wl2 ++ wl1, by rw [e2, e1, List.append_assoc], fun μ a w hf hs hfr hQ => ?_⟩
      refine wpList_step fun K hK => ?_
      rw [if_pos (wanted_ok hf h2 hb)]
      refine k1 μ a w K Q hf hs (fun id q1 q2 => hfr id q1 (by omega)) fun y w' μ' hv hs' ht => hK _ _ ?_
      refine k2 μ' _ w' ((hf.mono ht.ext).put hd hv) hs' (fun id q1 q2 => ?_) fun a' w2 μ2 hf2 hs2 ht2 => hQ a' w2 μ2 hf2 hs2 (ht.trans ht2 m1 m2)
      cases hq : μ' id with
      | none => rfl
      | some lc =>
        have := ht.rng id lc hq (hfr id (by omega) q2)
        omega
    · rename_i hbt
      have hbf : b = false := by simpa using hbt
      subst hbf
      obtain ⟨wl2, e2, k2⟩ := reg_ok hcf (Q := Q) l r h3 _ _ _ _ h
      refine ⟨wl2, e2, fun μ a w hf hs hfr hQ => ?_⟩
      refine wpList_step fun K hK => ?_
      rw [if_neg (by rw [wanted_ok hf h2 hb]; simp)]
      exact hK _ _ (k2 μ _ w (hf.put hd rfl) hs hfr hQ)
end Go.Dm
