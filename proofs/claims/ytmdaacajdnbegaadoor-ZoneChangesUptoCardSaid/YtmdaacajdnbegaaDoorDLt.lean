/- Every operation that touches no code, in one statement. -/
import Derived.Test.YtmdaacajdnbegaaDoorDOps7
set_option linter.constructorNameAsVariable false
set_option linter.unusedSimpArgs false
set_option linter.unusedVariables false
set_option linter.unusedSectionVars false
namespace Go.Dm
open Go
set_option linter.constructorNameAsVariable false
set_option linter.unnecessarySimpa false
set_option linter.unusedSimpArgs false
variable {P : Program}

/-- The operation is carried out, and brings about what the machine says. -/
def Did1 (P : Program) (μ : Mu) (w : World) (h : Heap) (nx : Nat) (r : Res) (s : Sem Next) : Prop :=
  ∃ nxt y w' μ', s.run P w = .ok nxt w' ∧ (nxt = .value y ∨ (nxt = .skip ∧ y = undef)) ∧ Gave P μ w h nx r y w' μ'

theorem vres_inv {v : Option V} {r : Res} (h : vres v = some r) : ∃ u, v = some u ∧ r = { v := u } := by
  unfold vres at h
  simp only [Option.map_eq_some_iff] at h
  obtain ⟨u, h1, rfl⟩ := h
  exact ⟨u, h1, rfl⟩
theorem lt_inv {o lo : LOp} {xs : List Operand} {args : List Opnd} (h : lt o xs = some (.lt lo args)) : o = lo ∧ compOs xs = some args := by
  unfold lt at h
  simp only [Option.map_eq_some_iff, IOp.lt.injEq] at h
  obtain ⟨a, h1, rfl, rfl⟩ := h
  exact ⟨rfl, h1⟩
def asV (s : Sem Value) : Sem Next := do pure (.value (← s))
theorem Did1.ofPure {μ : Mu} {w : World} {h : Heap} {nx : Nat} {v : V} {s : Sem Value} (hs : SR P μ h w) (hr : ∃ y, s.run P w = .ok y w ∧ VR μ v y) : Did1 P μ w h nx { v } (asV s) := by
  obtain ⟨y, h1, h2⟩ := hr
  exact ⟨_, y, w, μ, by unfold asV; rw [Sem.run_bind, h1]; rfl, .inl rfl, Gave.pure hs h2⟩
theorem Did1.ofRun {μ : Mu} {w : World} {h : Heap} {nx : Nat} {r : Res} {s : Sem Value} (hr : ∃ y w' μ', s.run P w = .ok y w' ∧ Gave P μ w h nx r y w' μ') : Did1 P μ w h nx r (asV s) := by
  obtain ⟨y, w', μ', h1, h2⟩ := hr
  exact ⟨_, y, w', μ', by unfold asV; rw [Sem.run_bind, h1]; rfl, .inl rfl, h2⟩
theorem isU8_inv {t : TypeId} (h : isU8 P t = true) : P.underlying t = some (.int .u8) := by
  unfold isU8 at h
  split at h
  · assumption
  · cases h
theorem map_zip {α : Type} (f g : α → Nat × Operand) : True := trivial
theorem parts_eq (ps : Array (Nat × Operand)) (ρ : Operand → Value) : (ps.map fun (i, x) => (i, ρ x)) = ((ps.toList.map (·.1)).zip ((ps.toList.map (·.2)).map ρ)).toArray := by
  apply Array.ext'
  simp only [Array.toList_map, List.map_map]
  rw [List.zip_map']
  rfl
theorem opts_eq (ρ : Operand → Value) (lo hi mx : Option Operand) (x : Operand) : ([x] ++ lo.toList ++ hi.toList ++ mx.toList).map ρ = ρ x :: ((lo.map ρ).toList ++ (hi.map ρ).toList ++ (mx.map ρ).toList) := by
  cases lo <;> cases hi <;> cases mx <;> rfl
theorem opts_eq2 (ρ : Operand → Value) (lo hi : Option Operand) (x : Operand) : ([x] ++ lo.toList ++ hi.toList).map ρ = ρ x :: ((lo.map ρ).toList ++ (hi.map ρ).toList) := by
  cases lo <;> cases hi <;> rfl

theorem arr1 {μ : Mu} {vs : List V} {A : Array Value} {v : V} (h : VRL μ vs A.toList) (e : vs = [v]) : ∃ x, A = #[x] := by
  subst e
  cases hA : A.toList with
  | nil => rw [hA] at h; exact False.elim h
  | cons x r =>
    rw [hA] at h
    cases r with
    | cons => exact False.elim h.2
    | nil => exact ⟨x, by have := congrArg List.toArray hA; simpa using this⟩
theorem arr2 {μ : Mu} {vs : List V} {A : Array Value} {v u : V} (h : VRL μ vs A.toList) (e : vs = [v, u]) : ∃ x y, A = #[x, y] := by
  subst e
  cases hA : A.toList with
  | nil => rw [hA] at h; exact False.elim h
  | cons x r =>
    rw [hA] at h
    cases r with
    | nil => exact False.elim h.2
    | cons y r =>
      cases r with
      | cons => exact False.elim h.2.2
      | nil => exact ⟨x, y, by have := congrArg List.toArray hA; simpa using this⟩

section
variable {μ : Mu} {w : World} {h : Heap} {nx n : Nat} {fr : Fr} {a : Act} {args : List Opnd} {r : Res} {bs : List Box}

theorem callB_len {c : Call} {ty t : TypeId} (hcal : c.callee = .builtin .len) (ht : c.argTypes[0]? = some t) {lo : LOp} (hs : SR P μ h w) {vs : List V} (hv : VRL μ vs (c.args.toList.map a.eval)) {v : V}
    (hrun : (∃ str, sLen str vs = some v ∧ if str then P.underlying t = some .string else ∃ e, P.underlying t = some (.slice e)) ∨ (∃ n e, sLenc n vs = some v ∧ P.underlying t = some (.array n e))) :
    Did1 P μ w h nx { v } (do let d ← resolve a.eval c ty; invoke d.target d.args) := by
  have h1 : ∃ u, vs = [u] := by
    rcases hrun with ⟨str, h1, _⟩ | ⟨n, e, h1, _⟩
    · unfold sLen at h1; split at h1 <;> first | exact ⟨_, rfl⟩ | cases h1
    · unfold sLenc at h1; split at h1 <;> first | exact ⟨_, rfl⟩ | cases h1
  obtain ⟨u, hu⟩ := h1
  obtain ⟨x, hx⟩ := arr1 (A := c.args.map a.eval) (by simpa using hv) hu
  have hv' : VRL μ vs [x] := by
    have := congrArg Array.toList hx
    simp only [Array.toList_map] at this
    rwa [this] at hv
  have e1 : (do let d ← resolve a.eval c ty; invoke d.target d.args : Sem Next) = asV (Builtin.len_ c.argTypes ty #[x]) := by
    simp only [resolve, hcal, hx]
    rfl
  rw [e1]
  refine Did1.ofPure hs ?_
  rcases hrun with ⟨str, h1, h2⟩ | ⟨n, e, h1, h2⟩
  · exact len_ok ht h2 hv' h1 w
  · exact lenc_ok ht h2 hv' h1 w
theorem callB_mnx {c : Call} {ty : TypeId} {mx : Bool} (hcal : c.callee = .builtin (if mx then .max else .min)) (hs : SR P μ h w) {vs : List V} (hv : VRL μ vs (c.args.toList.map a.eval)) {v : V} (hrun : sMnx mx vs = some v) :
    Did1 P μ w h nx { v } (do let d ← resolve a.eval c ty; invoke d.target d.args) := by
  have h1 : ∃ u z, vs = [u, z] := by
    unfold sMnx at hrun; split at hrun <;> first | exact ⟨_, _, rfl⟩ | cases hrun
  obtain ⟨u, z, hu⟩ := h1
  obtain ⟨x, y, hx⟩ := arr2 (A := c.args.map a.eval) (by simpa using hv) hu
  have hv' : VRL μ vs [x, y] := by
    have := congrArg Array.toList hx
    simp only [Array.toList_map] at this
    rwa [this] at hv
  have e1 : (do let d ← resolve a.eval c ty; invoke d.target d.args : Sem Next) = asV (if mx then Builtin.max_ c.argTypes ty #[x, y] else Builtin.min_ c.argTypes ty #[x, y]) := by
    simp only [resolve, hcal, hx]
    cases mx <;> rfl
  rw [e1]
  exact Did1.ofPure hs (mnx_ok hv' hrun w)
theorem callB_app {c : Call} {ty t u e : TypeId} {s b : Nat} {zs : List V} (hcal : c.callee = .builtin .append) (h0 : c.argTypes[0]? = some t) (h1 : c.argTypes[1]? = some u) (hs : SR P μ h w) (hn : r.nw ≠ [] → μ nx = none) (ht : P.underlying t = some (.slice e))
    (hk : (∃ e', P.underlying u = some (.slice e')) ∨ P.underlying u = some .string) (hsz : szT P e = some s) (hby : byT P e = some b) (hz : zeT P e = some zs) (hc : s ≠ 0 ∧ b ≠ 0 ∧ zs.length = s)
    {vs : List V} (hv : VRL μ vs (c.args.toList.map a.eval)) (hf : fetch h (LOp.rd (.app e s b) vs) = some bs) (hrun : sApp nx e s b vs bs = some r) :
    Did1 P μ w h nx r (do let d ← resolve a.eval c ty; invoke d.target d.args) := by
  have h2 : ∃ u z, vs = [u, z] := by
    unfold sApp at hrun; split at hrun <;> first | exact ⟨_, _, rfl⟩ | cases hrun
  obtain ⟨u', z, hu⟩ := h2
  obtain ⟨x, y, hx⟩ := arr2 (A := c.args.map a.eval) (by simpa using hv) hu
  have hv' : VRL μ vs [x, y] := by
    have := congrArg Array.toList hx
    simp only [Array.toList_map] at this
    rwa [this] at hv
  have e1 : (do let d ← resolve a.eval c ty; invoke d.target d.args : Sem Next) = asV (Builtin.append_ #[t, u] ty #[x, y]) := by
    simp only [resolve, hcal, hx]
    show asV (Builtin.append_ c.argTypes ty #[x, y]) = _
    rw [append_types h0 h1]
  rw [e1]
  exact Did1.ofRun (app_ok hs hn ht hk hsz hby hz hc hv' hf hrun)
end

theorem lt_ok {o : Oper} {lo : LOp} {args : List Opnd} (hc : compOp P o.op = some (.lt lo args)) {μ : Mu} {n nx : Nat} {fr : Fr} {a : Act} {w : World} {h : Heap} (hf : FrR μ n fr a) (hs : SR P μ h w)
    {bs : List Box} {r : Res} (hn : r.nw ≠ [] → μ nx = none) (hfe : fetch h (lo.rd (args.map (·.ev fr))) = some bs) (hsem : lo.sem nx (args.map (·.ev fr)) bs = some r) : Did1 P μ w h nx r (execOp a.eval o) := by
  generalize hvs : args.map (·.ev fr) = vs at hfe hsem
  have hvr : ∀ {xs : List Operand}, compOs xs = some args → VRL μ vs (xs.map a.eval) := fun e => by rw [← hvs]; exact compOs_ok hf e
  unfold execOp
  cases ho : o.op <;> rw [ho] at hc <;> simp only [compOp] at hc <;> try (cases hc; done)
  case move x =>
    obtain ⟨rfl, he⟩ := lt_inv hc
    have hv := hvr he
    obtain ⟨v, hv1, rfl⟩ := vres_inv hsem
    obtain ⟨u, rfl, h1⟩ := hv.inv1
    simp only [sMv, Option.some.injEq] at hv1
    subst hv1
    exact ⟨_, _, w, μ, rfl, .inl rfl, Gave.pure hs h1⟩
  case assign x =>
    obtain ⟨rfl, he⟩ := lt_inv hc
    have hv := hvr he
    obtain ⟨v, hv1, rfl⟩ := vres_inv hsem
    obtain ⟨u, rfl, h1⟩ := hv.inv1
    simp only [sMv, Option.some.injEq] at hv1
    subst hv1
    exact ⟨_, _, w, μ, rfl, .inl rfl, Gave.pure hs h1⟩
  case pick c x y =>
    obtain ⟨rfl, he⟩ := lt_inv hc
    obtain ⟨v, hv1, rfl⟩ := vres_inv hsem
    obtain ⟨z, e1, e2⟩ := pick_ok (P := P) (hvr he) hv1 w
    exact ⟨_, _, w, μ, e1, .inl rfl, Gave.pure hs e2⟩
  case alloc t =>
    simp only [Option.bind_eq_some_iff] at hc
    obtain ⟨z, hz, hc⟩ := hc
    obtain ⟨rfl, he⟩ := lt_inv hc
    exact Did1.ofRun (new_ok hs hn hz hsem)
  case box t x =>
    simp only [Option.bind_eq_some_iff] at hc
    obtain ⟨z, hz, hc⟩ := hc
    obtain ⟨rfl, he⟩ := lt_inv hc
    exact Did1.ofRun (box_ok hs hn (hvr he) hsem)
  case build t ps =>
    simp only [Option.bind_eq_some_iff] at hc
    obtain ⟨z, hz, hc⟩ := hc
    split at hc <;> try (cases hc; done)
    · rename_i fs hu
      simp only [Option.bind_eq_some_iff] at hc
      obtain ⟨pl, hpl, hc⟩ := hc
      split at hc
      · rename_i hall
        obtain ⟨rfl, he⟩ := lt_inv hc
        obtain ⟨v, hv1, rfl⟩ := vres_inv hsem
        simp only [parts_eq]
        exact Did1.ofPure hs (buildS_ok hz hu hpl hall (hvr he) hv1)
      · cases hc
    · rename_i m e hu
      simp only [Option.bind_eq_some_iff] at hc
      obtain ⟨s, hsz, hc⟩ := hc
      obtain ⟨rfl, he⟩ := lt_inv hc
      obtain ⟨v, hv1, rfl⟩ := vres_inv hsem
      simp only [parts_eq]
      exact Did1.ofPure hs (buildA_ok hz hu hsz (hvr he) (by simpa [List.map_map, Function.comp_def] using hv1))
  case buildSlice t m ps =>
    split at hc <;> try (cases hc; done)
    rename_i e hu
    simp only [Option.bind_eq_some_iff] at hc
    obtain ⟨s, hsz, z, hz, hc⟩ := hc
    split at hc
    · rename_i hcond
      obtain ⟨rfl, he⟩ := lt_inv hc
      simp only [parts_eq]
      exact Did1.ofRun (bsl_ok hs hn hu hsz hz hcond (hvr he) hsem)
    · cases hc
  case load t x =>
    simp only [Option.bind_eq_some_iff] at hc
    obtain ⟨g, hg, m, hm, hc⟩ := hc
    split at hc
    · obtain ⟨rfl, he⟩ := lt_inv hc
      obtain ⟨v, hv1, rfl⟩ := vres_inv hsem
      obtain ⟨u, rfl, h1⟩ := (hvr he).inv1
      cases u <;> simp only [sLd] at hv1 <;> try (cases hv1; done)
      rename_i id off
      obtain ⟨b, rfl, hb⟩ := fetch1 hfe
      cases b with
      | map => simp at hv1
      | arr rw_ ty cs =>
        simp only [Option.bind_eq_some_iff] at hv1
        obtain ⟨c, hcut, hone⟩ := hv1
        obtain ⟨l, hl, hp⟩ := h1.p_inv
        obtain ⟨l', e1, _, e3⟩ := hs.box id _ hb
        rw [hl] at e1
        cases e1
        refine Did1.ofPure hs ?_
        rw [hp]
        exact load_ok e3 hcut hg hm hone
    · cases hc
  case store t x y =>
    simp only [Option.bind_eq_some_iff] at hc
    obtain ⟨m, hm, hc⟩ := hc
    obtain ⟨rfl, he⟩ := lt_inv hc
    obtain ⟨u, u2, rfl, h1, h2⟩ := (hvr he).inv2
    simp only [LOp.sem] at hsem
    unfold sSt at hsem
    split at hsem <;> try (cases hsem; done)
    rename_i id off x2 ty cs q1
    cases q1
    obtain ⟨b, hbe, hb⟩ := fetch1 hfe
    cases hbe
    split at hsem
    · rename_i hcond
      simp only [Option.map_eq_some_iff] at hsem
      obtain ⟨c, hcs, rfl⟩ := hsem
      obtain ⟨l, hl, hp⟩ := h1.p_inv
      obtain ⟨w', g1, g2, g3⟩ := store_ok (P := P) (nx := nx) hs hb hl h2 hcond.1 hcond.2 hm hcs
      refine ⟨.skip, undef, w', μ, ?_, .inr ⟨rfl, rfl⟩, rfl, g2, g3⟩
      simp only [hp, Instr.storeAt, Instr.sureAddr, Sem.run_bind, Sem.run_pure, Result.andThen_ok, g1]
    · cases hsem
  case nilCheck x =>
    obtain ⟨rfl, he⟩ := lt_inv hc
    obtain ⟨v, hv1, rfl⟩ := vres_inv hsem
    obtain ⟨⟨ad, hp⟩, h2⟩ := nck_ok (hvr he) hv1
    refine ⟨_, _, w, μ, ?_, .inl rfl, Gave.pure hs h2⟩
    simp only [hp]
    rfl
  case binOp op t x y cn =>
    have bin : lt (.bin op) [x, y] = some (.lt lo args) → Did1 P μ w h nx r (asV (do eqGuard op t x y (a.eval x) (a.eval y); binOp op t (a.eval x) (a.eval y))) := by
      intro hc
      obtain ⟨rfl, he⟩ := lt_inv hc
      obtain ⟨v, hv1, rfl⟩ := vres_inv hsem
      obtain ⟨u, u2, rfl, h1, h2⟩ := (hvr he).inv2
      exact Did1.ofPure hs (binD_ok h1 h2 hv1 t x y w)
    have eqn : ∀ ng uk, ((op = .eql ∧ ng = false) ∨ (op = .neq ∧ ng = true)) → ukT P t x y = some uk → lt (.eqn uk ng) [x, y] = some (.lt lo args) → Did1 P μ w h nx r (asV (do eqGuard op t x y (a.eval x) (a.eval y); binOp op t (a.eval x) (a.eval y))) := by
      intro ng uk hop huk hc
      obtain ⟨rfl, he⟩ := lt_inv hc
      obtain ⟨v, hv1, rfl⟩ := vres_inv hsem
      obtain ⟨u, u2, rfl, h1, h2⟩ := (hvr he).inv2
      simp only [sEqn, Option.map_eq_some_iff] at hv1
      obtain ⟨z, hz, rfl⟩ := hv1
      exact Did1.ofPure hs ⟨_, eqn_ok hop h1 h2 hz huk w, VR.b_mk _⟩
    have eqa : ∀ ng ks, ((op = .eql ∧ ng = false) ∨ (op = .neq ∧ ng = true)) → flatT P t = some ks → lt (.eqa ks ng) [x, y] = some (.lt lo args) → Did1 P μ w h nx r (asV (do eqGuard op t x y (a.eval x) (a.eval y); binOp op t (a.eval x) (a.eval y))) := by
      intro ng ks hop hks hc
      obtain ⟨rfl, he⟩ := lt_inv hc
      obtain ⟨v, hv1, rfl⟩ := vres_inv hsem
      exact Did1.ofPure hs (eqa_ok hop (hvr he) hv1 hks w)
    cases op <;> simp only at hc <;> try exact bin hc
    · split at hc
      · exact bin hc
      · exact bin hc
      · simp only [Option.bind_eq_some_iff] at hc
        obtain ⟨ks, hks, hc⟩ := hc
        exact eqa false ks (.inl ⟨rfl, rfl⟩) hks hc
      · simp only [Option.bind_eq_some_iff] at hc
        obtain ⟨uk, huk, hc⟩ := hc
        exact eqn false uk (.inl ⟨rfl, rfl⟩) huk hc
    · split at hc
      · exact bin hc
      · exact bin hc
      · simp only [Option.bind_eq_some_iff] at hc
        obtain ⟨ks, hks, hc⟩ := hc
        exact eqa true ks (.inr ⟨rfl, rfl⟩) hks hc
      · simp only [Option.bind_eq_some_iff] at hc
        obtain ⟨uk, huk, hc⟩ := hc
        exact eqn true uk (.inr ⟨rfl, rfl⟩) huk hc
  case unOp op t x =>
    cases op <;> simp only at hc <;> try (cases hc; done)
    all_goals
      obtain ⟨rfl, he⟩ := lt_inv hc
      obtain ⟨v, hv1, rfl⟩ := vres_inv hsem
      first
        | exact Did1.ofPure hs (not_ok (hvr he) hv1 w)
        | exact Did1.ofPure hs (neg_ok (hvr he) hv1 w)
  case convert s d x =>
    split at hc <;> try (cases hc; done)
    · rename_i k' k hS hD
      obtain ⟨rfl, he⟩ := lt_inv hc
      obtain ⟨v, hv1, rfl⟩ := vres_inv hsem
      exact Did1.ofPure hs (cvi_ok hS hD (hvr he) hv1 w)
    · rename_i hS hD
      obtain ⟨rfl, he⟩ := lt_inv hc
      obtain ⟨v, hv1, rfl⟩ := vres_inv hsem
      obtain ⟨u, rfl, h1⟩ := (hvr he).inv1
      cases u <;> simp only [sMvs] at hv1 <;> first | (cases hv1; done) | cases hv1
      exact Did1.ofPure hs ⟨_, cvss_ok hS hD h1 ⟨_, rfl⟩ w, h1⟩
    · rename_i e hS hD
      split at hc
      · rename_i hcond
        obtain ⟨rfl, he⟩ := lt_inv hc
        exact Did1.ofRun (cvb_ok hs hn hS hD (isU8_inv hcond.1) (szT_cells hcond.2) (hvr he) hsem)
      · cases hc
    · rename_i e hS hD
      split at hc
      · rename_i hcond
        obtain ⟨rfl, he⟩ := lt_inv hc
        obtain ⟨v, hv1, rfl⟩ := vres_inv hsem
        exact Did1.ofPure hs (cvs_ok hs hS (isU8_inv hcond) hD (hvr he) hfe hv1)
      · cases hc
  case makeFunc f x y =>
    cases f <;> simp only at hc <;> try (cases hc; done)
    rename_i f
    obtain ⟨rfl, he⟩ := lt_inv hc
    obtain ⟨v, hv1, rfl⟩ := vres_inv hsem
    have hv := hvr he
    rw [List.map_append] at hv
    refine Did1.ofPure hs ?_
    obtain ⟨z, e1, e2⟩ := mkf_ok (P := P) hv (by simp) hv1 w
    refine ⟨z, ?_, e2⟩
    have q1 : (x.map a.eval) = (x.toList.map a.eval).toArray := by apply Array.ext'; simp
    have q2 : (y.map a.eval) = (y.toList.map a.eval).toArray := by apply Array.ext'; simp
    rw [q1, q2]
    exact e1
  case makeMap t rr =>
    cases rr <;> simp only at hc <;> try (cases hc; done)
    obtain ⟨rfl, he⟩ := lt_inv hc
    exact Did1.ofRun (mkm_ok hs hn hsem)
  case makeSlice t l c =>
    split at hc <;> try (cases hc; done)
    rename_i e hu
    simp only [Option.bind_eq_some_iff] at hc
    obtain ⟨s, hsz, b, hby, z, hz, hc⟩ := hc
    split at hc
    · rename_i hcond
      obtain ⟨rfl, he⟩ := lt_inv hc
      exact Did1.ofRun (mks_ok hs hn hu hsz hby hz hcond (hvr he) hsem)
    · cases hc
  case slice t x lo' hi mx =>
    split at hc <;> try (cases hc; done)
    · rename_i hu
      obtain ⟨rfl, he⟩ := lt_inv hc
      obtain ⟨v, hv1, rfl⟩ := vres_inv hsem
      have hv := hvr he
      rw [opts_eq2] at hv
      refine Did1.ofPure hs ?_
      exact sls_ok hu hv (by simpa using hv1) w
    · rename_i e hu
      simp only [Option.bind_eq_some_iff] at hc
      obtain ⟨s, hsz, hc⟩ := hc
      obtain ⟨rfl, he⟩ := lt_inv hc
      obtain ⟨v, hv1, rfl⟩ := vres_inv hsem
      have hv := hvr he
      rw [opts_eq] at hv
      refine Did1.ofPure hs ?_
      exact sll_ok hu hsz hv (by simpa using hv1) w
  case fieldAddr t x k =>
    split at hc <;> try (cases hc; done)
    rename_i fs hu
    simp only [Option.bind_eq_some_iff] at hc
    obtain ⟨f, hf1, s, hsz, hc⟩ := hc
    split at hc
    · rename_i h0
      obtain ⟨rfl, he⟩ := lt_inv hc
      obtain ⟨v, hv1, rfl⟩ := vres_inv hsem
      exact Did1.ofPure hs (fa_ok hu hf1 hsz h0 (hvr he) hv1 w)
    · cases hc
  case field t x k =>
    split at hc <;> try (cases hc; done)
    rename_i fs hu
    simp only [Option.bind_eq_some_iff] at hc
    obtain ⟨f, hf1, s, hsz, g, hg, hc⟩ := hc
    split at hc
    · obtain ⟨rfl, he⟩ := lt_inv hc
      obtain ⟨v, hv1, rfl⟩ := vres_inv hsem
      exact Did1.ofPure hs (fld_ok hu hf1 hsz hg (hvr he) hv1 w)
    · cases hc
  case indexAddr t x k =>
    split at hc <;> try (cases hc; done)
    · rename_i e hu
      simp only [Option.bind_eq_some_iff] at hc
      obtain ⟨s, hsz, hc⟩ := hc
      obtain ⟨rfl, he⟩ := lt_inv hc
      obtain ⟨v, hv1, rfl⟩ := vres_inv hsem
      exact Did1.ofPure hs (ia_ok hu hsz (hvr he) hv1 w)
    · rename_i m e hu
      simp only [Option.bind_eq_some_iff] at hc
      obtain ⟨s, hsz, hc⟩ := hc
      obtain ⟨rfl, he⟩ := lt_inv hc
      obtain ⟨v, hv1, rfl⟩ := vres_inv hsem
      exact Did1.ofPure hs (iaa_ok hu hsz (hvr he) hv1 w)
  case index t x k =>
    split at hc <;> try (cases hc; done)
    · rename_i hu
      obtain ⟨rfl, he⟩ := lt_inv hc
      obtain ⟨v, hv1, rfl⟩ := vres_inv hsem
      exact Did1.ofPure hs (ixs_ok hu (hvr he) hv1 w)
    · rename_i m e hu
      simp only [Option.bind_eq_some_iff] at hc
      obtain ⟨s, hsz, g, hg, hc⟩ := hc
      split at hc
      · obtain ⟨rfl, he⟩ := lt_inv hc
        obtain ⟨v, hv1, rfl⟩ := vres_inv hsem
        exact Did1.ofPure hs (ixa_ok hu hsz hg (hvr he) hv1 w)
      · cases hc
  case lookup t m k ok =>
    split at hc <;> try (cases hc; done)
    rename_i kt e hu
    simp only [Option.bind_eq_some_iff] at hc
    obtain ⟨q, hq, z, hz, hc⟩ := hc
    obtain ⟨rfl, he⟩ := lt_inv hc
    obtain ⟨v, hv1, rfl⟩ := vres_inv hsem
    exact Did1.ofPure hs (look_ok hs hu hq hz (hvr he) hfe hv1)
  case mapUpdate t m k x =>
    split at hc <;> try (cases hc; done)
    rename_i kt e hu
    simp only [Option.bind_eq_some_iff] at hc
    obtain ⟨q, hq, hc⟩ := hc
    obtain ⟨rfl, he⟩ := lt_inv hc
    obtain ⟨w', e1, e2⟩ := mup_ok hs hu hq (hvr he) hfe hsem
    refine ⟨.skip, undef, w', μ, ?_, .inr ⟨rfl, rfl⟩, e2⟩
    simp only [Sem.run_bind, e1, Result.andThen_ok, Sem.run_pure]
  case insert t m k x =>
    split at hc <;> try (cases hc; done)
    rename_i kt e hu
    simp only [Option.bind_eq_some_iff] at hc
    obtain ⟨q, hq, hc⟩ := hc
    obtain ⟨rfl, he⟩ := lt_inv hc
    obtain ⟨w', e1, e2⟩ := mup_ok hs hu hq (hvr he) hfe hsem
    refine ⟨.skip, undef, w', μ, ?_, .inr ⟨rfl, rfl⟩, e2⟩
    simp only [Sem.run_bind, e1, Result.andThen_ok, Sem.run_pure]
  case extract x k =>
    obtain ⟨rfl, he⟩ := lt_inv hc
    obtain ⟨v, hv1, rfl⟩ := vres_inv hsem
    exact Did1.ofPure hs (ext_ok (hvr he) hv1 w)
  case call c =>
    split at hc <;> try (simp at hc; done)
    · simp only [Option.bind_eq_some_iff, Option.map_eq_some_iff] at hc
      obtain ⟨_, _, _, _, hq⟩ := hc
      cases hq
    · rename_i hcal
      simp only [Option.bind_eq_some_iff] at hc
      obtain ⟨t, ht, hc⟩ := hc
      split at hc <;> try (cases hc; done)
      · rename_i hu
        obtain ⟨rfl, he⟩ := lt_inv hc
        obtain ⟨v, hv1, rfl⟩ := vres_inv hsem
        exact callB_len (lo := .nck) hcal ht hs (hvr he) (.inl ⟨true, hv1, hu⟩)
      · rename_i e hu
        obtain ⟨rfl, he⟩ := lt_inv hc
        obtain ⟨v, hv1, rfl⟩ := vres_inv hsem
        exact callB_len (lo := .nck) hcal ht hs (hvr he) (.inl ⟨false, hv1, e, hu⟩)
      · rename_i m e hu
        obtain ⟨rfl, he⟩ := lt_inv hc
        obtain ⟨v, hv1, rfl⟩ := vres_inv hsem
        exact callB_len (lo := .nck) hcal ht hs (hvr he) (.inr ⟨m, e, hv1, hu⟩)
    · rename_i hcal
      simp only [Option.bind_eq_some_iff] at hc
      obtain ⟨t, ht, u, hu, hc⟩ := hc
      split at hc <;> try (cases hc; done)
      · rename_i e e' hT hU
        simp only [Option.bind_eq_some_iff] at hc
        obtain ⟨s, hsz, b, hby, z, hz, hc⟩ := hc
        split at hc
        · rename_i hcond
          obtain ⟨rfl, he⟩ := lt_inv hc
          exact callB_app hcal ht hu hs hn hT (.inl ⟨_, hU⟩) hsz hby hz hcond (hvr he) hfe hsem
        · cases hc
      · rename_i e hT hU
        simp only [Option.bind_eq_some_iff] at hc
        obtain ⟨s, hsz, b, hby, z, hz, hc⟩ := hc
        split at hc
        · rename_i hcond
          obtain ⟨rfl, he⟩ := lt_inv hc
          exact callB_app hcal ht hu hs hn hT (.inr hU) hsz hby hz hcond (hvr he) hfe hsem
        · cases hc
    · rename_i hcal
      obtain ⟨rfl, he⟩ := lt_inv hc
      obtain ⟨v, hv1, rfl⟩ := vres_inv hsem
      exact callB_mnx (mx := false) hcal hs (hvr he) hv1
    · rename_i hcal
      obtain ⟨rfl, he⟩ := lt_inv hc
      obtain ⟨v, hv1, rfl⟩ := vres_inv hsem
      exact callB_mnx (mx := true) hcal hs (hvr he) hv1
end Go.Dm
