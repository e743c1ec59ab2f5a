/- Code, functions, calls: what the machine says is so. -/
import Derived.Test.YtmdaacajdnbegaaDoorDDraw4
import Derived.LoopN
set_option linter.constructorNameAsVariable false
set_option linter.unusedSimpArgs false
set_option linter.unusedVariables false
set_option linter.unusedSectionVars false
namespace Go.Dm
open Go
set_option linter.constructorNameAsVariable false
set_option linter.unnecessarySimpa false
set_option linter.unusedSimpArgs false
variable {P : Program}

def Ex.out : Ex → Exit
  | .n => .normal
  | .x id => .exit id
  | .r => .ret

/-- What a piece of code does, in the model. -/
def Runs (P : Program) (n : Nat) (fr : Fr) (st : St) (e : Ex) (fr' : Fr) (st' : St) (W : (Exit → Act → World → Prop) → Act → World → Prop) : Prop :=
  st.nx ≤ st'.nx ∧ ∃ wl, st'.wl = wl ++ st.wl ∧ ∀ (Q : Exit → Act → World → Prop) (μ : Mu) (a : Act) (w : World), FrR μ n fr a → SR P μ st.h w → (∀ id, st.nx ≤ id → id < st'.nx → μ id = none) →
    (∀ a' w' μ', FrR μ' n fr' a' → SR P μ' st'.h w' → Tr μ w wl st.nx st'.nx μ' w' → Q e.out a' w') → W Q a w

theorem Runs.then {n : Nat} {fr fr1 fr' : Fr} {st st1 st' : St} {e : Ex} {W1 W2 W : (Exit → Act → World → Prop) → Act → World → Prop} (h1 : Runs P n fr st .n fr1 st1 W1) (h2 : Runs P n fr1 st1 e fr' st' W2)
    (hW : ∀ Q a w, W1 (Exit.then (W2 Q) Q) a w → W Q a w) : Runs P n fr st e fr' st' W := by
  obtain ⟨m1, wl1, e1, k1⟩ := h1
  obtain ⟨m2, wl2, e2, k2⟩ := h2
  refine ⟨Nat.le_trans m1 m2, wl2 ++ wl1, by rw [e2, e1, List.append_assoc], fun Q μ a w hf hs hfr hQ => hW Q a w ?_⟩
  refine k1 _ μ a w hf hs (fun id q1 q2 => hfr id q1 (by omega)) fun a' w' μ' hf' hs' ht => ?_
  refine k2 Q μ' a' w' hf' hs' (fun id q1 q2 => ?_) fun a2 w2 μ2 hf2 hs2 ht2 => hQ a2 w2 μ2 hf2 hs2 (ht.trans ht2 m1 m2)
  cases hq : μ' id with
  | none => rfl
  | some l =>
    have := ht.rng id l hq (hfr id (by omega) q2)
    omega
theorem Runs.out {n : Nat} {fr fr' : Fr} {st st' : St} {e : Ex} {W1 W : (Exit → Act → World → Prop) → Act → World → Prop} (he : e ≠ .n) (h1 : Runs P n fr st e fr' st' W1)
    (hW : ∀ (K : Act → World → Prop) Q a w, W1 (Exit.then K Q) a w → (∀ Q, W Q a w ∨ True) → W1 (Exit.then K Q) a w) (next : (Exit → Act → World → Prop) → Act → World → Prop) (hW2 : ∀ Q a w, W1 (Exit.then (next Q) Q) a w → W Q a w) : Runs P n fr st e fr' st' W := by
  obtain ⟨m1, wl1, e1, k1⟩ := h1
  refine ⟨m1, wl1, e1, fun Q μ a w hf hs hfr hQ => hW2 Q a w ?_⟩
  refine k1 _ μ a w hf hs hfr fun a' w' μ' hf' hs' ht => ?_
  have := hQ a' w' μ' hf' hs' ht
  cases e with
  | n => exact absurd rfl he
  | x id => exact this
  | r => exact this

theorem iter_ok {n : Nat} {c : Code} {f : Fr → St → Option (Ex × Fr × St)} (hf : ∀ fr st e fr' st', f fr st = some (e, fr', st') → Runs P n fr st e fr' st' (fun Q => c.wp P Q)) :
    ∀ (k : Nat) (fr : Fr) (st : St) (e : Ex) (fr' : Fr) (st' : St), iter f k fr st = some (e, fr', st') → Runs P n fr st e fr' st' (fun Q => Code.rounds P c Q k)
  | 0, fr, st, e, fr', st', h => by simp [iter] at h
  | k + 1, fr, st, e, fr', st', h => by
    simp only [iter, Option.bind_eq_some_iff] at h
    obtain ⟨⟨e1, fr1, st1⟩, h1, h2⟩ := h
    have r1 := hf _ _ _ _ _ h1
    have rs : ∀ Q a w, c.wp P (Exit.then (Code.rounds P c Q k) Q) a w → Code.rounds P c Q (k + 1) a w := fun Q a w q => by rw [rounds_succ]; exact q
    cases e1 with
    | n =>
      simp only at h2
      exact r1.then (iter_ok hf k _ _ _ _ _ h2) rs
    | x id =>
      simp only [Option.some.injEq, Prod.mk.injEq] at h2
      obtain ⟨rfl, rfl, rfl⟩ := h2
      exact r1.out (by simp) (fun _ _ _ _ q _ => q) (fun Q => Code.rounds P c Q k) rs
    | r =>
      simp only [Option.some.injEq, Prod.mk.injEq] at h2
      obtain ⟨rfl, rfl, rfl⟩ := h2
      exact r1.out (by simp) (fun _ _ _ _ q _ => q) (fun Q => Code.rounds P c Q k) rs

theorem code_ok {cf : CallF} (hcf : CallOK P cf) (hm : P.follows .mixedOrders = true) {L n : Nat} : ∀ (c : Code) (ic : ICode), compC P n c = some ic → ∀ (fr : Fr) (st : St) (e : Ex) (fr' : Fr) (st' : St), codeX cf L ic fr st = some (e, fr', st') →
    Runs P n fr st e fr' st' (fun Q => c.wp P Q) := by
  intro c
  induction c with
  | skip =>
    intro ic hc fr st e fr' st' h
    simp only [compC, Option.some.injEq] at hc
    subst hc
    simp only [codeX, Option.some.injEq, Prod.mk.injEq] at h
    obtain ⟨rfl, rfl, rfl⟩ := h
    exact ⟨Nat.le_refl _, [], rfl, fun Q μ a w hf hs _ hQ => wp_skip (hQ a w μ hf hs (Tr.refl _ _ _))⟩
  | region id ops draw =>
    intro ic hc fr st e fr' st' h
    simp only [compC, Option.bind_eq_some_iff] at hc
    obtain ⟨ios, hios, hc⟩ := hc
    cases draw with
    | true =>
      simp only [if_true] at hc
      split at hc
      · rename_i hok
        cases hc
        simp only [codeX, Option.map_eq_some_iff] at h
        obtain ⟨⟨fr1, st1⟩, h1, h2⟩ := h
        cases h2
        obtain ⟨m1, wl, e1, k⟩ := draw_ok hcf hm (id := id) hios hok h1
        exact ⟨m1, wl, e1, k⟩
      · cases hc
    | false =>
      simp only [Bool.false_eq_true, if_false, Option.some.injEq] at hc
      subst hc
      simp only [codeX, Option.map_eq_some_iff] at h
      obtain ⟨⟨fr1, st1⟩, h1, h2⟩ := h
      cases h2
      obtain ⟨wl, e1, _⟩ := reg_ok (n := n) (ops := ops) hcf (Q := fun _ _ _ => True) ops.toList ios hios _ _ _ _ h1
      refine ⟨regX_nx hcf _ _ _ _ _ h1, wl, e1, fun Q μ a w hf hs hfr hQ => ?_⟩
      obtain ⟨wl2, e2, k⟩ := reg_ok (n := n) (ops := ops) hcf (Q := Q) ops.toList ios hios _ _ _ _ h1
      have : wl2 = wl := List.append_cancel_right (e2.symm.trans e1)
      subst this
      exact wp_region_list (k μ a w hf hs hfr hQ)
  | seq x y ihx ihy =>
    intro ic hc fr st e fr' st' h
    simp only [compC, Option.bind_eq_some_iff, Option.map_eq_some_iff] at hc
    obtain ⟨a, ha, b, hb, rfl⟩ := hc
    simp only [codeX, Option.bind_eq_some_iff] at h
    obtain ⟨⟨e1, fr1, st1⟩, h1, h2⟩ := h
    have r1 := ihx a ha _ _ _ _ _ h1
    cases e1 with
    | n =>
      simp only at h2
      exact r1.then (ihy b hb _ _ _ _ _ h2) fun Q a w q => wp_seq q
    | x id =>
      simp only [Option.some.injEq, Prod.mk.injEq] at h2
      obtain ⟨rfl, rfl, rfl⟩ := h2
      exact r1.out (by simp) (fun _ _ _ _ q _ => q) (fun Q => y.wp P Q) fun Q a w q => wp_seq q
    | r =>
      simp only [Option.some.injEq, Prod.mk.injEq] at h2
      obtain ⟨rfl, rfl, rfl⟩ := h2
      exact r1.out (by simp) (fun _ _ _ _ q _ => q) (fun Q => y.wp P Q) fun Q a w q => wp_seq q
  | cond c x y ihx ihy =>
    intro ic hc fr st e fr' st' h
    simp only [compC, Option.bind_eq_some_iff, Option.map_eq_some_iff] at hc
    obtain ⟨o, ho, a, ha, b, hb, rfl⟩ := hc
    simp only [codeX] at h
    split at h
    · rename_i hq
      obtain ⟨m1, wl, e1, k⟩ := ihx a ha _ _ _ _ _ h
      refine ⟨m1, wl, e1, fun Q μ a w hf hs hfr hQ => ?_⟩
      have hv := compO_ok hf ho
      rw [hq] at hv
      exact wp_cond_true hv.b_inv (k Q μ a w hf hs hfr hQ)
    · rename_i hq
      obtain ⟨m1, wl, e1, k⟩ := ihy b hb _ _ _ _ _ h
      refine ⟨m1, wl, e1, fun Q μ a w hf hs hfr hQ => ?_⟩
      have hv := compO_ok hf ho
      rw [hq] at hv
      exact wp_cond_false hv.b_inv (k Q μ a w hf hs hfr hQ)
    · cases h
  | block id c ih =>
    intro ic hc fr st e fr' st' h
    simp only [compC, Option.map_eq_some_iff] at hc
    obtain ⟨a, ha, rfl⟩ := hc
    simp only [codeX, Option.map_eq_some_iff] at h
    obtain ⟨⟨e1, fr1, st1⟩, h1, h2⟩ := h
    simp only [Prod.mk.injEq] at h2
    obtain ⟨rfl, rfl, rfl⟩ := h2
    obtain ⟨m1, wl, w1, k⟩ := ih a ha _ _ _ _ _ h1
    refine ⟨m1, wl, w1, fun Q μ a w hf hs hfr hQ => wp_block (k _ μ a w hf hs hfr fun a' w' μ' q1 q2 q3 => ?_)⟩
    have := hQ a' w' μ' q1 q2 q3
    cases e1 with
    | n => simpa [Ex.out, Exit.inBlock] using this
    | r => simpa [Ex.out, Exit.inBlock] using this
    | x id' =>
      by_cases hid : id' = id
      · subst hid
        simpa [Ex.out, Exit.inBlock] using this
      · have hne : ¬ (Ex.x id' = Ex.x id) := fun q => hid (by cases q; rfl)
        rw [if_neg hne] at this
        simpa [Ex.out, Exit.inBlock, hid] using this
  | loop c ih =>
    intro ic hc fr st e fr' st' h
    simp only [compC, Option.map_eq_some_iff] at hc
    obtain ⟨a, ha, rfl⟩ := hc
    simp only [codeX] at h
    obtain ⟨m1, wl, e1, k⟩ := iter_ok (P := P) (n := n) (c := c) (fun _ _ _ _ _ q => ih a ha _ _ _ _ _ q) L _ _ _ _ _ h
    exact ⟨m1, wl, e1, fun Q μ a w hf hs hfr hQ => wp_loop_rounds L (k Q μ a w hf hs hfr hQ)⟩
  | exit id =>
    intro ic hc fr st e fr' st' h
    simp only [compC, Option.some.injEq] at hc
    subst hc
    simp only [codeX, Option.some.injEq, Prod.mk.injEq] at h
    obtain ⟨rfl, rfl, rfl⟩ := h
    exact ⟨Nat.le_refl _, [], rfl, fun Q μ a w hf hs _ hQ => wp_exit (hQ a w μ hf hs (Tr.refl _ _ _))⟩
  | ret =>
    intro ic hc fr st e fr' st' h
    simp only [compC, Option.some.injEq] at hc
    subst hc
    simp only [codeX, Option.some.injEq, Prod.mk.injEq] at h
    obtain ⟨rfl, rfl, rfl⟩ := h
    exact ⟨Nat.le_refl _, [], rfl, fun Q μ a w hf hs _ hQ => wp_ret (hQ a w μ hf hs (Tr.refl _ _ _))⟩
  | _ => intro ic hc; simp [compC] at hc

/-! ### functions -/
theorem Fr.of_get : ∀ (vs : List V) (j k : Nat), (Fr.of vs j).get k = if j ≤ k then vs.getD (k - j) .u else .u
  | [], j, k => by simp [Fr.of, Fr.get]
  | v :: vs, j, k => by
    simp only [Fr.of]
    by_cases hk : k = j
    · subst hk; simp
    · rw [Fr.get_put_ne _ _ hk, Fr.of_get vs (j + 1) k]
      by_cases hj : j ≤ k
      · rw [if_pos (by omega), if_pos hj, show k - j = (k - (j + 1)) + 1 by omega]
        simp [List.getD]
      · rw [if_neg (by omega), if_neg hj]
theorem FrR.of {μ : Mu} {vs : List V} {args : Array Value} {n : Nat} (h : VRL μ vs args.toList) (hn : vs.length ≤ n) : FrR μ n (Fr.of vs 0) { tmps := args ++ Array.replicate (n - args.size) undef, defers := [] } := by
  have hl : vs.length = args.size := by rw [h.length]; simp
  refine ⟨by simp; omega, fun k => ?_, rfl⟩
  rw [Fr.of_get]
  simp only [Nat.zero_le, if_true, Nat.sub_zero, Array.getD_eq_getD_getElem?, List.getD_eq_getElem?_getD]
  by_cases hk : k < args.size
  · rw [Array.getElem?_append_left hk]
    obtain ⟨y, h1, h2⟩ := h.get k (List.getElem?_eq_getElem (by omega))
    rw [List.getElem?_eq_getElem (by omega)]
    have : args[k]? = some y := by simpa using h1
    rw [this]
    exact h2
  · rw [List.getElem?_eq_none (by omega), Array.getElem?_append_right (by omega), Array.getElem?_replicate]
    split <;> rfl

theorem res_ok {μ : Mu} {n : Nat} {fr : Fr} {a : Act} {h : Heap} {w : World} (hf : FrR μ n fr a) (hs : SR P μ h w) {r : ResultVar} {ir : IRes} (hc : compR P r = some ir) {v : V} (hv : resD h fr ir = some v) :
    ∃ y, (match r with | .tmp t => pure (a.tmps.getD t undef) | .cell x t => do loadVar t (← asAddr (a.tmps.getD x undef)) : Sem Value).run P w = .ok y w ∧ VR μ v y := by
  cases r with
  | tmp t =>
    simp only [compR, Option.some.injEq] at hc
    subst hc
    simp only [resD, Option.some.injEq] at hv
    subst hv
    exact ⟨_, rfl, hf.get t⟩
  | cell x t =>
    simp only [compR, Option.bind_eq_some_iff] at hc
    obtain ⟨g, hg, s, hsz, hc⟩ := hc
    split at hc
    · cases hc
      simp only [resD] at hv
      split at hv <;> try (cases hv; done)
      rename_i id off hp
      split at hv <;> try (cases hv; done)
      rename_i rw_ ty cs hb
      simp only [Option.bind_eq_some_iff] at hv
      obtain ⟨c, hcut, hone⟩ := hv
      have hpv := hf.get x
      rw [hp] at hpv
      obtain ⟨l, hl, hpe⟩ := hpv.p_inv
      obtain ⟨l', e1, _, e3⟩ := hs.box id _ hb
      rw [hl] at e1
      cases e1
      obtain ⟨y, h1, h2⟩ := load_ok e3 hcut hg hsz hone
      refine ⟨y, ?_, h2⟩
      simp only [hpe, asAddr, Sem.run_bind, Sem.run_pure, Result.andThen_ok, h1]
    · cases hc
theorem results_ok {μ : Mu} {n : Nat} {fr : Fr} {a : Act} {h : Heap} {w : World} (hf : FrR μ n fr a) (hs : SR P μ h w) {fn : Func} {rs : List IRes} (hc : compRs P fn.results.toList = some rs) {vs : List V} (hv : ressD h fr rs = some vs) :
    ∃ y, (results fn a.tmps).run P w = .ok y w ∧ VR μ (tupD vs) y := by
  have key : ∀ (l : List ResultVar) (rs : List IRes) (vs : List V), compRs P l = some rs → ressD h fr rs = some vs →
      ∃ ys : List Value, (l.mapM (m := Sem) fun | .tmp t => pure (a.tmps.getD t undef) | .cell x t => do loadVar t (← asAddr (a.tmps.getD x undef))).run P w = .ok ys w ∧ VRL μ vs ys := by
    intro l
    induction l with
    | nil =>
      intro rs vs hc hv
      simp only [compRs, Option.some.injEq] at hc
      subst hc
      simp only [ressD, Option.some.injEq] at hv
      subst hv
      exact ⟨[], rfl, trivial⟩
    | cons r l ih =>
      intro rs vs hc hv
      simp only [compRs, Option.bind_eq_some_iff, Option.map_eq_some_iff] at hc
      obtain ⟨ir, h1, irs, h2, rfl⟩ := hc
      simp only [ressD, Option.bind_eq_some_iff, Option.map_eq_some_iff] at hv
      obtain ⟨v, h3, vs', h4, rfl⟩ := hv
      obtain ⟨y, e1, e2⟩ := res_ok (P := P) hf hs h1 h3
      obtain ⟨ys, e3, e4⟩ := ih irs vs' h2 h4
      refine ⟨y :: ys, ?_, e2, e4⟩
      rw [List.mapM_cons]
      simp only [Sem.run_bind, e1, Result.andThen_ok, e3, Sem.run_pure]
  obtain ⟨ys, e1, e2⟩ := key _ _ _ hc hv
  have hrun : (results fn a.tmps).run P w = .ok (if h : ys.toArray.size = 1 then ys.toArray[0] else .tuple ys.toArray) w := by
    unfold results
    rw [Array.mapM_eq_mapM_toList]
    simp only [Sem.run_bind, Sem.run_map, Sem.run_pure]
    exact congrArg (fun r : Result (List Value) => (r.andThen fun a w' => .ok a.toArray w').andThen fun a w' => Result.ok (if h : a.size = 1 then a[0] else Value.tuple a) w') e1
  cases vs with
  | nil =>
    obtain rfl : ys = [] := by cases ys with | nil => rfl | cons => exact False.elim e2
    exact ⟨.tuple #[], hrun, trivial⟩
  | cons v vs =>
    cases ys with
    | nil => exact False.elim e2
    | cons y ys =>
      cases vs with
      | nil =>
        obtain rfl : ys = [] := by cases ys with | nil => rfl | cons => exact False.elim e2.2
        exact ⟨y, hrun, e2.1⟩
      | cons v2 vs =>
        cases ys with
        | nil => exact False.elim e2.2
        | cons y2 ys =>
          refine ⟨.tuple (y :: y2 :: ys).toArray, ?_, by simpa [tupD, VR] using e2⟩
          rw [hrun, dif_neg (by simp)]

theorem Tr.drop {μ μ1 : Mu} {w w1 : World} {a b : List Nat} {n n1 : Nat} (h : Tr μ w a n n1 μ1 w1) (hab : ∀ x ∈ a, x ∈ b ∨ μ x = none) : Tr μ w b n n1 μ1 w1 := by
  have up : ∀ k, Ch μ a k → Ch μ b k := by
    rintro k ⟨id, hid, l, hl, hg⟩
    rcases hab id hid with h1 | h1
    · exact ⟨id, h1, l, hl, hg⟩
    · rw [hl] at h1; cases h1
  exact ⟨h.ext, h.rng, fun id l e e0 => (h.new id l e e0).imp_right (up _), h.os, h.tape, h.output, h.size, fun k hk hc => h.keep k hk fun h2 => hc (up k h2)⟩

/-- What the machine is told of functions is so. -/
structure LibOK (P : Program) (G : Lib) : Prop where
  mixed : P.follows .mixedOrders = true
  fn : ∀ f F, G.fn f = some F → ∃ fn, P.funcs[f]? = some fn ∧ compF P fn = some F ∧ (fn.name == "runtime.NumGoroutine") = false
  prim : ∀ f p, G.prim f = some p → Enters P f ∧ ∀ vs h nx r, p vs h nx = some r → ∀ (μ : Mu) (w : World) (args : Array Value), VRL μ vs args.toList → SR P μ h w → (∀ id, nx ≤ id → id < nx + r.nw.length → μ id = none) →
    Calls P f args w (Back P μ w (r.v, (h.sets r.wr).adds nx r.nw, nx + r.nw.length, r.wr.map (·.1)) nx)

theorem call_ok {G : Lib} (hG : LibOK P G) : ∀ k, CallOK P (G.call k)
  | 0 => ⟨fun _ _ _ _ _ h => by simp [Lib.call] at h, fun _ _ _ _ _ h => by simp [Lib.call] at h, fun _ _ _ _ _ h => by simp [Lib.call] at h⟩
  | k + 1 => by
    have ih := call_ok hG k
    have key : ∀ f vs h nx r, G.call (k + 1) f vs h nx = some r → Enters P f ∧ nx ≤ r.2.2.1 ∧ ∀ (μ : Mu) (w : World) (args : Array Value), VRL μ vs args.toList → SR P μ h w → (∀ id, nx ≤ id → id < r.2.2.1 → μ id = none) → Calls P f args w (Back P μ w r nx) := by
      intro f vs h nx r hr
      simp only [Lib.call] at hr
      split at hr
      · rename_i p hp
        simp only [Option.map_eq_some_iff] at hr
        obtain ⟨x, h1, rfl⟩ := hr
        obtain ⟨e1, e2⟩ := hG.prim f p hp
        exact ⟨e1, Nat.le_add_right _ _, fun μ w args hv hs hfr => e2 vs h nx x h1 μ w args hv hs hfr⟩
      · split at hr
        · cases hr
        · rename_i F hF
          obtain ⟨fn, hfn, hcomp, hname⟩ := hG.fn f F hF
          split at hr
          · rename_i hlen
            simp only [Option.bind_eq_some_iff] at hr
            obtain ⟨⟨e, fr', st'⟩, h1, h2⟩ := hr
            unfold compF at hcomp
            simp only [Option.bind_eq_some_iff, Option.map_eq_some_iff] at hcomp
            obtain ⟨c, hbody, ic, hic, rs, hrs, rfl⟩ := hcomp
            obtain ⟨m1, wl, e1, kk⟩ := code_ok ih hG.mixed c ic hic _ _ _ _ _ h1
            simp only [List.append_nil] at e1
            have hres : e ≠ .n → e ≠ .r → False := by
              intro q1 q2
              cases e with
              | n => exact q1 rfl
              | r => exact q2 rfl
              | x id => cases h2
            have hmap : (ressD st'.h fr' rs).map (fun vs' => (tupD vs', st'.h, st'.nx, st'.wl.filter fun id => !decide (nx ≤ id ∧ id < st'.nx))) = some r := by
              cases e with
              | n => exact h2
              | r => exact h2
              | x id => cases h2
            simp only [Option.map_eq_some_iff] at hmap
            obtain ⟨vs', hvs', rfl⟩ := hmap
            refine ⟨Enters.of hfn hname (by rw [hbody]; rfl), m1, fun μ w args hv hs hfr => ?_⟩
            refine calls_of_wp hfn hbody (kk _ μ _ w (FrR.of hv hlen) hs hfr fun a' w' μ' hf' hs' ht => ?_)
            obtain ⟨y, r1, r2⟩ := results_ok (P := P) hf' hs' hrs hvs'
            have hB : Back P μ w (tupD vs', st'.h, st'.nx, st'.wl.filter fun id => !decide (nx ≤ id ∧ id < st'.nx)) nx (.returned y) w' := by
              refine ⟨μ', r2, hs', ht.drop fun id hid => ?_⟩
              by_cases hq : nx ≤ id ∧ id < st'.nx
              · exact .inr (hfr id hq.1 hq.2)
              · left
                rw [e1]
                simp only [List.mem_filter, hid, true_and, Bool.not_eq_true', decide_eq_false_iff_not]
                exact hq
            cases e with
            | n => exact ⟨hf'.defers, y, r1, hB⟩
            | r => exact ⟨hf'.defers, y, r1, hB⟩
            | x id => exact (hres (by simp) (by simp)).elim
          · cases hr
    exact ⟨fun f vs h nx r hr => (key f vs h nx r hr).1, fun f vs h nx r hr => (key f vs h nx r hr).2.1, fun f vs h nx r hr => (key f vs h nx r hr).2.2⟩
end Go.Dm
