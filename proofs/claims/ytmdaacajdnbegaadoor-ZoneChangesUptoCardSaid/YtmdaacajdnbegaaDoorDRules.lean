/- The rules by which a run is reckoned, one a kind of operation. -/
import Derived.Test.YtmdaacajdnbegaaDoorDWp
namespace Go.Dm
open Go
set_option linter.unusedSimpArgs false
set_option linter.unusedVariables false
variable {G : Lib} {st : St} {K : V → St → Prop} {h : Heap} {nx : Nat} {wl : List Nat} {fr : Fr}

/-! ### what is not looked at yet: a continuation with a mark that hangs on it stays as it is while the rest is reckoned -/
universe u v w
inductive Tag {α : Sort u} (a : α) : Type
  | mk
inductive Tag2 {α : Sort u} {β : Sort v} (a : α) (b : β) : Type
  | mk
inductive Tag3 {α : Sort u} {β : Sort v} {γ : Sort w} (a : α) (b : β) (c : γ) : Type
  | mk
def FP (G : Lib) (c : ICode) (fr : Fr) (st : St) (N : Fr → St → Prop) (X : Nat → Fr → St → Prop) (R : Fr → St → Prop) (_ : Tag3 N X R) : Prop := WP G c fr st N X R
def FR (G : Lib) (ops : List IOper) (fr : Fr) (st : St) (N : Fr → St → Prop) (_ : Tag N) : Prop := WR G ops fr st N
def FD (G : Lib) (ops : List IOper) (bm : List Nat) (cs : List (Nat × List Nat)) (fr : Fr) (st : St) (N : Fr → St → Prop) (_ : Tag N) : Prop := WD G ops bm cs fr st N
def FI (G : Lib) (o : IOp) (fr : Fr) (st : St) (K : V → St → Prop) (_ : Tag K) : Prop := WI G o fr st K
def FL (G : Lib) (c : ICode) (fr : Fr) (st : St) (X : Nat → Fr → St → Prop) (R : Fr → St → Prop) (_ : Tag2 X R) : Prop := WL G c fr st X R
def FO (o : LOp) (vs : List V) (st : St) (K : V → St → Prop) (_ : Tag K) : Prop := WO o vs st K
def FV (G : Lib) (x : V) (vs : List V) (st : St) (K : V → St → Prop) (_ : Tag K) : Prop := WV G x vs st K
def FG (x : V) (w : Bool) (Y N : Prop) (_ : Tag2 Y N) : Prop := WG x w Y N
def FC (x : V) (Y N : Prop) (_ : Tag2 Y N) : Prop := WC x Y N
def FS (G : Lib) (f : Nat) (vs : List V) (h : Heap) (nx : Nat) (Q : V → Heap → Nat → List Nat → Prop) (_ : Tag Q) : Prop := Spec G f vs h nx Q
/-- Both: the second is looked at when the first is so. -/
def FA (a b : Prop) (_ : Tag b) : Prop := a ∧ b
def WB (x : Option V) (K : V → Prop) : Prop := match x with | some v => K v | none => False
def WBL (x : Option (List V)) (K : List V → Prop) : Prop := match x with | some v => K v | none => False
def WBX (x : Option Box) (K : Box → Prop) : Prop := match x with | some v => K v | none => False
def FB (x : Option V) (K : V → Prop) (_ : Tag K) : Prop := WB x K
def FBL (x : Option (List V)) (K : List V → Prop) (_ : Tag K) : Prop := WBL x K
def FBX (x : Option Box) (K : Box → Prop) (_ : Tag K) : Prop := WBX x K
def FIf (c : Bool) (Y : Prop) (_ : Tag Y) : Prop := c = true ∧ Y

/-! ### code -/
theorem code_rules :
    (∀ G fr st N X R t, FP G .skip fr st N X R t = N fr st) ∧
    (∀ G fr st N X R t ops, FP G (.reg ops) fr st N X R t = FR G ops fr st N .mk) ∧
    (∀ G fr st N X R t ops bm, FP G (.draw ops bm) fr st N X R t = FD G ops bm [] fr st N .mk) ∧
    (∀ G fr st N X R t a b, FP G (.seq a b) fr st N X R t = FP G a fr st (fun fr st => FP G b fr st N X R t) X R .mk) ∧
    (∀ G fr st N X R t c a b, FP G (.cond c a b) fr st N X R t = FC (c.ev fr) (FP G a fr st N X R t) (FP G b fr st N X R t) .mk) ∧
    (∀ G fr st N X R t id c, FP G (.block id c) fr st N X R t = FP G c fr st N (fun j fr st => if j = id then N fr st else X j fr st) R .mk) ∧
    (∀ G fr st N X R t c, FP G (.loop c) fr st N X R t = FL G c fr st X R .mk) ∧
    (∀ G fr st N X R t id, FP G (.exit id) fr st N X R t = X id fr st) ∧
    (∀ G fr st N X R t, FP G .ret fr st N X R t = R fr st) ∧
    (∀ G fr st N t, FR G [] fr st N t = N fr st) ∧
    (∀ G fr st N t d op r, FR G (⟨d, op, none⟩ :: r) fr st N t = FI G op fr st (fun v st' => FR G r (putD fr d v) st' N t) .mk) ∧
    (∀ G fr st N t d op k w r, FR G (⟨d, op, some (k, w)⟩ :: r) fr st N t = FG (fr.get k) w (FI G op fr st (fun v st' => FR G r (putD fr d v) st' N t) .mk) (FR G r (putD fr d .u) st N t) .mk) ∧
    (∀ G fr st N t bm cs, FD G [] bm cs fr st N t = N fr st) ∧
    (∀ G fr st N t d op r m bm cs, FD G (⟨d, op, none⟩ :: r) (m :: bm) cs fr st N t = FA (visOK op m cs fr = true) (FI G op fr { h := st.h, nx := st.nx, wl := [] } (fun v st' => FA (wrOK op m cs fr st.h st'.wl) (FD G r bm (cs ++ [(op.cls, tellD op fr st.nx st'.wl)]) (putD fr d v) { h := st'.h, nx := st'.nx, wl := st'.wl ++ st.wl } N t) .mk) .mk) .mk) ∧
    (∀ G fr st N t d op k w r m bm cs, FD G (⟨d, op, some (k, w)⟩ :: r) (m :: bm) cs fr st N t = FA (visOK op m cs fr = true) (FG (fr.get k) w (FI G op fr { h := st.h, nx := st.nx, wl := [] } (fun v st' => FA (wrOK op m cs fr st.h st'.wl) (FD G r bm (cs ++ [(op.cls, tellD op fr st.nx st'.wl)]) (putD fr d v) { h := st'.h, nx := st'.nx, wl := st'.wl ++ st.wl } N t) .mk) .mk) (FD G r bm (cs ++ [(0, [])]) (putD fr d .u) st N t) .mk) .mk) ∧
    (∀ G fr st o args K t, FI G (.lt o args) fr st K t = FO o (evs fr args) st K t) ∧
    (∀ G fr st f args K t, FI G (.callf f args) fr st K t = FS G f (evs fr args) st.h st.nx (fun v h' nx' wl => K v { h := h', nx := nx', wl := wl ++ st.wl }) .mk) ∧
    (∀ G fr st x args K t, FI G (.callv x args) fr st K t = FV G (x.ev fr) (evs fr args) st K t) ∧
    (∀ G st f first cap vs K t, FV G (.fn f first cap) vs st K t = FS G f (first ++ vs ++ cap) st.h st.nx (fun v h' nx' wl => K v { h := h', nx := nx', wl := wl ++ st.wl }) .mk) ∧
    (∀ b t, FA True b t = b) := by
  refine ⟨?_, ?_, ?_, ?_, ?_, ?_, ?_, ?_, ?_, ?_, ?_, ?_, ?_, ?_, ?_, ?_, ?_, ?_, ?_, ?_⟩ <;> intros <;> first | rfl | simp [FA]
theorem vis_rules :
    (∀ xs m cs fr, visOK (.lt (.mv) xs) m cs fr = true) ∧
    (∀ xs m cs fr, visOK (.lt (.mvs) xs) m cs fr = true) ∧
    (∀ xs m cs fr, visOK (.lt (.pick) xs) m cs fr = true) ∧
    (∀ z pl xs m cs fr, visOK (.lt (.build z pl) xs) m cs fr = true) ∧
    (∀ xs m cs fr, visOK (.lt (.nck) xs) m cs fr = true) ∧
    (∀ op xs m cs fr, visOK (.lt (.bin op) xs) m cs fr = true) ∧
    (∀ k n xs m cs fr, visOK (.lt (.eqn k n) xs) m cs fr = true) ∧
    (∀ k n xs m cs fr, visOK (.lt (.eqa k n) xs) m cs fr = true) ∧
    (∀ xs m cs fr, visOK (.lt (.not) xs) m cs fr = true) ∧
    (∀ xs m cs fr, visOK (.lt (.neg) xs) m cs fr = true) ∧
    (∀ k xs m cs fr, visOK (.lt (.cvi k) xs) m cs fr = true) ∧
    (∀ k xs m cs fr, visOK (.lt (.fa k) xs) m cs fr = true) ∧
    (∀ k xs m cs fr, visOK (.lt (.ia k) xs) m cs fr = true) ∧
    (∀ k n xs m cs fr, visOK (.lt (.iaa k n) xs) m cs fr = true) ∧
    (∀ xs m cs fr, visOK (.lt (.ixs) xs) m cs fr = true) ∧
    (∀ k n b xs m cs fr, visOK (.lt (.ixa k n b) xs) m cs fr = true) ∧
    (∀ k n b xs m cs fr, visOK (.lt (.fld k n b) xs) m cs fr = true) ∧
    (∀ a b xs m cs fr, visOK (.lt (.sls a b) xs) m cs fr = true) ∧
    (∀ k a b c xs m cs fr, visOK (.lt (.sll k a b c) xs) m cs fr = true) ∧
    (∀ a xs m cs fr, visOK (.lt (.len a) xs) m cs fr = true) ∧
    (∀ a xs m cs fr, visOK (.lt (.lenc a) xs) m cs fr = true) ∧
    (∀ a xs m cs fr, visOK (.lt (.mnx a) xs) m cs fr = true) ∧
    (∀ a b xs m cs fr, visOK (.lt (.mkf a b) xs) m cs fr = true) ∧
    (∀ k xs m cs fr, visOK (.lt (.ext k) xs) m cs fr = true) ∧
    (∀ b k xs m cs fr, visOK (.lt (.ld b k) xs) m cs fr = visSee m cs 0 (LOp.rd (.ld b k) (evs fr xs))) ∧
    (∀ xs m cs fr, visOK (.lt (.cvs) xs) m cs fr = visSee m cs 0 (LOp.rd (.cvs) (evs fr xs))) ∧
    (∀ k z o xs m cs fr, visOK (.lt (.look k z o) xs) m cs fr = visSee m cs 0 (LOp.rd (.look k z o) (evs fr xs))) ∧
    (∀ k z xs m cs fr, visOK (.lt (.new k z) xs) m cs fr = true) ∧
    (∀ k n xs m cs fr, visOK (.lt (.box k n) xs) m cs fr = true) ∧
    (∀ k n z q p xs m cs fr, visOK (.lt (.bsl k n z q p) xs) m cs fr = true) ∧
    (∀ k xs m cs fr, visOK (.lt (.cvb k) xs) m cs fr = true) ∧
    (∀ xs m cs fr, visOK (.lt (.mkm) xs) m cs fr = true) ∧
    (∀ a b c z xs m cs fr, visOK (.lt (.mks a b c z) xs) m cs fr = true) ∧
    (∀ k xs m cs fr, visOK (.lt (.st k) xs) m cs fr = visAll m cs 0) ∧
    (∀ a b c xs m cs fr, visOK (.lt (.app a b c) xs) m cs fr = visAll m cs 0) ∧
    (∀ k xs m cs fr, visOK (.lt (.mup k) xs) m cs fr = visAll m cs 0) ∧
    (∀ f xs m cs fr, visOK (.callf f xs) m cs fr = visAll m cs 0) ∧
    (∀ f xs m cs fr, visOK (.callv f xs) m cs fr = visAll m cs 0) ∧
    (∀ m k, visAll m [] k = true) ∧
    (∀ m k c r cs, visAll m ((c, r) :: cs) k = ((Nat.testBit m k || decide (c ≤ 1)) && visAll m cs (k + 1))) ∧
    (∀ m k ids, visSee m [] k ids = true) ∧
    (∀ m k c r cs ids, visSee m ((c, r) :: cs) k ids = ((Nat.testBit m k || decide (c ≤ 1) || before ids r) && visSee m cs (k + 1) ids)) ∧
    (∀ lo, before [] [lo] = true) ∧ (∀ j lo, before [j] [lo] = (decide (j < lo) && true)) ∧ (∀ ids, before ids [] = false) ∧
    (∀ op fr nx, tellD op fr nx [] = if op.cls ≤ 1 then (lightD op fr).2 else [nx]) ∧ (∀ op fr nx j l, tellD op fr nx (j :: l) = if op.cls ≤ 1 then (lightD op fr).2 else []) := by
  refine ⟨?_, ?_, ?_, ?_, ?_, ?_, ?_, ?_, ?_, ?_, ?_, ?_, ?_, ?_, ?_, ?_, ?_, ?_, ?_, ?_, ?_, ?_, ?_, ?_, ?_, ?_, ?_, ?_, ?_, ?_, ?_, ?_, ?_, ?_, ?_, ?_, ?_, ?_, ?_, ?_, ?_, ?_, ?_, ?_, ?_, ?_, ?_⟩ <;> intros <;> first | rfl | (rw [evs_map]; rfl)
theorem cls_rules :
    (∀ xs, IOp.cls (.lt (.mv) xs) = 0) ∧
    (∀ xs, IOp.cls (.lt (.mvs) xs) = 0) ∧
    (∀ xs, IOp.cls (.lt (.pick) xs) = 0) ∧
    (∀ z pl xs, IOp.cls (.lt (.build z pl) xs) = 0) ∧
    (∀ xs, IOp.cls (.lt (.nck) xs) = 0) ∧
    (∀ op xs, IOp.cls (.lt (.bin op) xs) = 0) ∧
    (∀ k n xs, IOp.cls (.lt (.eqn k n) xs) = 0) ∧
    (∀ k n xs, IOp.cls (.lt (.eqa k n) xs) = 0) ∧
    (∀ xs, IOp.cls (.lt (.not) xs) = 0) ∧
    (∀ xs, IOp.cls (.lt (.neg) xs) = 0) ∧
    (∀ k xs, IOp.cls (.lt (.cvi k) xs) = 0) ∧
    (∀ k xs, IOp.cls (.lt (.fa k) xs) = 0) ∧
    (∀ k xs, IOp.cls (.lt (.ia k) xs) = 0) ∧
    (∀ k n xs, IOp.cls (.lt (.iaa k n) xs) = 0) ∧
    (∀ xs, IOp.cls (.lt (.ixs) xs) = 0) ∧
    (∀ k n b xs, IOp.cls (.lt (.ixa k n b) xs) = 0) ∧
    (∀ k n b xs, IOp.cls (.lt (.fld k n b) xs) = 0) ∧
    (∀ a b xs, IOp.cls (.lt (.sls a b) xs) = 0) ∧
    (∀ k a b c xs, IOp.cls (.lt (.sll k a b c) xs) = 0) ∧
    (∀ a xs, IOp.cls (.lt (.len a) xs) = 0) ∧
    (∀ a xs, IOp.cls (.lt (.lenc a) xs) = 0) ∧
    (∀ a xs, IOp.cls (.lt (.mnx a) xs) = 0) ∧
    (∀ a b xs, IOp.cls (.lt (.mkf a b) xs) = 0) ∧
    (∀ k xs, IOp.cls (.lt (.ext k) xs) = 0) ∧
    (∀ b k xs, IOp.cls (.lt (.ld b k) xs) = 1) ∧
    (∀ xs, IOp.cls (.lt (.cvs) xs) = 1) ∧
    (∀ k z o xs, IOp.cls (.lt (.look k z o) xs) = 1) ∧
    (∀ k z xs, IOp.cls (.lt (.new k z) xs) = 2) ∧
    (∀ k n xs, IOp.cls (.lt (.box k n) xs) = 2) ∧
    (∀ k n z q p xs, IOp.cls (.lt (.bsl k n z q p) xs) = 2) ∧
    (∀ k xs, IOp.cls (.lt (.cvb k) xs) = 2) ∧
    (∀ xs, IOp.cls (.lt (.mkm) xs) = 2) ∧
    (∀ a b c z xs, IOp.cls (.lt (.mks a b c z) xs) = 2) ∧
    (∀ k xs, IOp.cls (.lt (.st k) xs) = 3) ∧
    (∀ a b c xs, IOp.cls (.lt (.app a b c) xs) = 3) ∧
    (∀ k xs, IOp.cls (.lt (.mup k) xs) = 3) ∧
    (∀ f xs, IOp.cls (.callf f xs) = 3) ∧
    (∀ f xs, IOp.cls (.callv f xs) = 3) := by
  refine ⟨?_, ?_, ?_, ?_, ?_, ?_, ?_, ?_, ?_, ?_, ?_, ?_, ?_, ?_, ?_, ?_, ?_, ?_, ?_, ?_, ?_, ?_, ?_, ?_, ?_, ?_, ?_, ?_, ?_, ?_, ?_, ?_, ?_, ?_, ?_, ?_, ?_, ?_⟩ <;> intros <;> rfl
theorem FA_true {a b : Prop} {t : Tag b} (h : a) : FA a b t = b := by simp [FA, h]
theorem wrOK_nil (o : IOp) (m : Nat) (cs : List (Nat × List Nat)) (fr : Fr) (h : Heap) : wrOK o m cs fr h [] = True := by simp [wrOK]
theorem frame_rules :
    (∀ fr n, Opnd.ev fr (.t n) = fr.get n) ∧ (∀ fr v, Opnd.ev fr (.c v) = v) ∧ (∀ fr, evs fr [] = []) ∧ (∀ fr x r, evs fr (x :: r) = x.ev fr :: evs fr r) ∧
    (∀ fr d v j, (putD fr (some d) v).get j = if j = d then v else fr.get j) ∧ (∀ fr d v j, (Fr.put fr d v).get j = if j = d then v else fr.get j) ∧ (∀ fr v, putD fr none v = fr) ∧ (∀ k j, (Fr.of [] k).get j = V.u) ∧ (∀ v r k j, (Fr.of (v :: r) k).get j = if j = k then v else (Fr.of r (k + 1)).get j) := by
  refine ⟨?_, ?_, ?_, ?_, ?_, ?_, ?_, ?_, ?_⟩ <;> intros <;> rfl
theorem guard_rules : (∀ Y N t, FG (.b true) true Y N t = Y) ∧ (∀ Y N t, FG (.b false) true Y N t = N) ∧ (∀ Y N t, FG (.b true) false Y N t = N) ∧ (∀ Y N t, FG (.b false) false Y N t = Y) ∧ (∀ Y N w t, FG .u w Y N t = N) ∧ (∀ Y N t, FC (.b true) Y N t = Y) ∧ (∀ Y N t, FC (.b false) Y N t = N) := by
  simp [FG, FC, WG, WC]
theorem FG.split {c w : Bool} {Y N : Prop} {t : Tag2 Y N} (a : c = true → FG (.b true) w Y N t) (b : c = false → FG (.b false) w Y N t) : FG (.b c) w Y N t := by
  cases c
  · exact b rfl
  · exact a rfl
theorem FC.split {c : Bool} {Y N : Prop} {t : Tag2 Y N} (a : c = true → Y) (b : c = false → N) : FC (.b c) Y N t := by
  cases c
  · exact b rfl
  · exact a rfl
theorem FG.not {c w : Bool} {Y N : Prop} {t : Tag2 Y N} (a : c = false → FG (.b true) w Y N t) (b : c = true → FG (.b false) w Y N t) : FG (.b (!c)) w Y N t := by
  cases c
  · exact a rfl
  · exact b rfl
theorem FC.not {c : Bool} {Y N : Prop} {t : Tag2 Y N} (a : c = false → Y) (b : c = true → N) : FC (.b (!c)) Y N t := by
  cases c
  · exact a rfl
  · exact b rfl
theorem FG.beq {α : Type} [BEq α] [LawfulBEq α] {x y : α} {w : Bool} {Y N : Prop} {t : Tag2 Y N} (a : x = y → FG (.b true) w Y N t) (b : (x == y) = false → FG (.b false) w Y N t) : FG (.b (x == y)) w Y N t :=
  FG.split (fun h => a (eq_of_beq h)) b
theorem FC.beq {α : Type} [BEq α] [LawfulBEq α] {x y : α} {Y N : Prop} {t : Tag2 Y N} (a : x = y → Y) (b : (x == y) = false → N) : FC (.b (x == y)) Y N t :=
  FC.split (fun h => a (eq_of_beq h)) b
theorem FG.nbeq {α : Type} [BEq α] [LawfulBEq α] {x y : α} {w : Bool} {Y N : Prop} {t : Tag2 Y N} (a : (x == y) = false → FG (.b true) w Y N t) (b : x = y → FG (.b false) w Y N t) : FG (.b (!(x == y))) w Y N t :=
  FG.not a (fun h => b (eq_of_beq h))
theorem FC.nbeq {α : Type} [BEq α] [LawfulBEq α] {x y : α} {Y N : Prop} {t : Tag2 Y N} (a : (x == y) = false → Y) (b : x = y → N) : FC (.b (!(x == y))) Y N t :=
  FC.not a (fun h => b (eq_of_beq h))
theorem FG.dec {p : Prop} [Decidable p] {w : Bool} {Y N : Prop} {t : Tag2 Y N} (a : p → FG (.b true) w Y N t) (b : ¬ p → FG (.b false) w Y N t) : FG (.b (decide p)) w Y N t :=
  FG.split (fun h => a (of_decide_eq_true h)) (fun h => b (of_decide_eq_false h))
theorem FC.dec {p : Prop} [Decidable p] {Y N : Prop} {t : Tag2 Y N} (a : p → Y) (b : ¬ p → N) : FC (.b (decide p)) Y N t :=
  FC.split (fun h => a (of_decide_eq_true h)) (fun h => b (of_decide_eq_false h))

theorem WB_rules : (∀ v K t, FB (some v) K t = K v) ∧ (∀ v K t, FBL (some v) K t = K v) ∧ (∀ v K t, FBX (some v) K t = K v) := ⟨fun _ _ _ => rfl, fun _ _ _ => rfl, fun _ _ _ => rfl⟩
theorem WB_intro {x : Option V} {K : V → Prop} {v : V} (e : x = some v) (k : K v) : WB x K := by rw [e]; exact k

theorem vres_map {x : Option V} {st : St} {K : V → St → Prop} : (match (vres x).map fun r => (r.v, st.apply r) with | some x => K x.1 x.2 | none => False) = WB x fun v => K v st := by
  cases x <;> rfl
theorem WO_pure {o : LOp} {vs : List V} {st : St} {x : Option V} (h : o.rd vs = []) (e : ∀ nx, o.sem nx vs [] = vres x) : WO o vs st K = WB x fun v => K v st := by
  simp only [WO, ltX, h, fetch, Option.bind_some, e]
  exact vres_map
theorem FO_pure {o : LOp} {vs : List V} {st : St} {K : V → St → Prop} {t : Tag K} {x : Option V} (h : o.rd vs = []) (e : ∀ nx, o.sem nx vs [] = vres x) : FO o vs st K t = FB x (fun v => K v st) .mk := WO_pure h e
theorem pure_rules :
    (∀ x st K t, FO .mv [x] st K t = K x st) ∧
    (∀ l st K t, FO .mvs [.s l] st K t = K (.s l) st) ∧
    (∀ c x y st K t, FO .pick [.b c, x, y] st K t = K (if c = true then x else y) st) ∧
    (∀ zero pl vs st K t, FO (.build zero pl) vs st K t = FBL (fillD zero pl vs) (fun c => K (.agg c) st) .mk) ∧
    (∀ id off st K t, FO .nck [.p id off] st K t = K (.p id off) st) ∧
    (∀ op x y st K t, FO (.bin op) [x, y] st K t = FB (binD op x y) (fun v => K v st) .mk) ∧
    (∀ uk ng x y st K t, FO (.eqn uk ng) [x, y] st K t = FB ((eqD uk x y).map fun z => .b (z != ng)) (fun v => K v st) .mk) ∧
    (∀ ks ng xs ys st K t, FO (.eqa ks ng) [.agg xs, .agg ys] st K t = FB ((eqs ks xs ys).map fun z => .b (z != ng)) (fun v => K v st) .mk) ∧
    (∀ x st K t, FO .not [.b x] st K t = K (.b (!x)) st) ∧
    (∀ k x st K t, FO .neg [.i k x] st K t = K (.i k (k.wrap (0 - x))) st) ∧
    (∀ k k' x st K t, FO (.cvi k) [.i k' x] st K t = K (.i k (k.wrap x)) st) ∧
    (∀ o id off st K t, FO (.fa o) [.p id off] st K t = K (.p id (off + o)) st) ∧
    (∀ sz id off ln lb ex k n st K t, FO (.ia sz) [.sl id off ln lb ex, .i k n] st K t = FB (if 0 ≤ n ∧ n < ln then some (.p id (off + n.toNat * sz)) else none) (fun v => K v st) .mk) ∧
    (∀ ln sz id off k n st K t, FO (.iaa ln sz) [.p id off, .i k n] st K t = FB (if 0 ≤ n ∧ n < ln then some (.p id (off + n.toNat * sz)) else none) (fun v => K v st) .mk) ∧
    (∀ ln sz agg cs k n st K t, FO (.ixa ln sz agg) [.agg cs, .i k n] st K t = FB (if 0 ≤ n ∧ n < ln then (cut cs (n.toNat * sz) sz).bind fun c => one agg sz c else none) (fun v => K v st) .mk) ∧
    (∀ off n cs st K t, FO (.fld off n true) [.agg cs] st K t = FBL (cut cs off n) (fun c => K (.agg c) st) .mk) ∧
    (∀ off cs st K t, FO (.fld off 1 false) [.agg cs] st K t = FB (cs[off]?) (fun v => K v st) .mk) ∧
    (∀ lo hi l r st K t, FO (.sls lo hi) (.s l :: r) st K t = FB ((bounds3 lo hi false r).bind fun b => slsD l b.1 b.2.1) (fun v => K v st) .mk) ∧
    (∀ sz lo hi mx x r st K t, FO (.sll sz lo hi mx) (x :: r) st K t = FB (sSll sz lo hi mx (x :: r)) (fun v => K v st) .mk) ∧
    (∀ l st K t, FO (.len true) [.s l] st K t = K (.i .i64 l.length) st) ∧
    (∀ id off n lb ex st K t, FO (.len false) [.sl id off n lb ex] st K t = K (.i .i64 n) st) ∧
    (∀ st K t, FO (.len false) [.sn] st K t = K (.i .i64 0) st) ∧
    (∀ st K t, FO (.len false) [.se] st K t = K (.i .i64 0) st) ∧
    (∀ n x st K t, FO (.lenc n) [x] st K t = K (.i .i64 n) st) ∧
    (∀ mx k x y st K t, FO (.mnx mx) [.i k x, .i k y] st K t = K (.i k (if mx then (if x < y then y else x) else (if y < x then y else x))) st) ∧
    (∀ f vs st K t, FO (.mkf f 0) vs st K t = K (.fn f [] vs) st) ∧
    (∀ k vs st K t, FO (.ext k) [.tup vs] st K t = FB (vs[k]?) (fun v => K v st) .mk) := by
  refine ⟨?_, ?_, ?_, ?_, ?_, ?_, ?_, ?_, ?_, ?_, ?_, ?_, ?_, ?_, ?_, ?_, ?_, ?_, ?_, ?_, ?_, ?_, ?_, ?_, ?_, ?_, ?_⟩ <;> intros
  case refine_4 => 
    rw [FO_pure rfl (fun _ => rfl)]
    cases fillD _ _ _ <;> rfl
  case refine_16 off n cs st K t =>
    rw [FO_pure (x := sFld off n true [.agg cs]) rfl (fun _ => rfl)]
    simp only [sFld, one]
    cases cut cs off n <;> rfl
  case refine_17 off cs st K t =>
    rw [FO_pure (x := sFld off 1 false [.agg cs]) rfl (fun _ => rfl)]
    simp only [sFld, one, cut]
    by_cases h : off < cs.length
    · rw [if_pos (by omega), List.getElem?_eq_getElem h]
      simp [List.head?_take, h]
    · rw [if_neg (by omega), List.getElem?_eq_none (by omega)]
      rfl
  case refine_25 => rw [FO_pure rfl (fun _ => rfl)]; simp [sMnx, FB, WB]
  case refine_26 => rw [FO_pure rfl (fun _ => rfl)]; simp [sMkf, FB, WB]
  all_goals first
    | (rw [FO_pure rfl (fun _ => rfl)]; rfl)
    | (rw [FO_pure rfl (fun _ => rfl)])
theorem ixs_at {l : List UInt8} {i : Nat} {k : IntKind} (hi : i < l.length) (st : St) (K : V → St → Prop) (t : Tag K) : FO .ixs [.s l, .i k (i : Int)] st K t = K (.i .u8 (l[i]).toNat) st := by
  rw [FO_pure (x := some (.i .u8 (l[i]).toNat)) rfl]
  · rfl
  · intro nx
    simp only [LOp.sem, sIxs]
    rw [if_pos (by omega)]
    simp [List.getElem?_eq_getElem hi]
theorem ixs_lit {l : List UInt8} {n : Nat} {k : IntKind} (hi : n < l.length) (st : St) (K : V → St → Prop) (t : Tag K) : FO .ixs [.s l, .i k (OfNat.ofNat n)] st K t = K (.i .u8 (l[n]).toNat) st := ixs_at hi st K t
def okB (b : Option Box) : Bool := match b with | some b => b.rw | none => false
theorem wr_rules : (∀ o xs m cs fr h j, wrOK (.lt o xs) m cs fr h [j] = (freeAll m [j] cs 0 ∧ okB (h j) = true ∧ (o.rd (evs fr xs)).contains j = true)) ∧
    (∀ rw ty cs, okB (some (.arr rw ty cs)) = rw) ∧ (∀ es, okB (some (.map es)) = true) ∧
    (∀ n id off x, LOp.rd (.st n) [.p id off, x] = [id]) ∧ (∀ ag n id off, LOp.rd (.ld ag n) [.p id off] = [id]) ∧ (∀ kt id a b, LOp.rd (.mup kt) [.m id, a, b] = [id]) ∧ (∀ kt z o id a, LOp.rd (.look kt z o) [.m id, a] = [id]) ∧
    (∀ o xs fr, (lightD (.lt o xs) fr).2 = o.rd (evs fr xs)) ∧
    (∀ m wl k, freeAll m wl [] k = True) ∧ (∀ m wl c r cs k, freeAll m wl ((c, r) :: cs) k = ((Nat.testBit m k = true ∨ c = 0 ∨ (c ≤ 1 ∧ ∀ j, j ∈ wl → j ∉ r)) ∧ freeAll m wl cs (k + 1))) ∧
    (∀ (j : Nat) (l : List Nat), (∀ i, i ∈ [j] → i ∉ l) = (j ∉ l)) ∧ (∀ j i : Nat, (j ∈ [i]) = (j = i)) ∧ (∀ j, ([j] : List Nat).contains j = true) := by
  refine ⟨?_, fun _ _ _ => rfl, fun _ => rfl, fun _ _ _ _ => rfl, fun _ _ _ _ => rfl, fun _ _ _ _ => rfl, fun _ _ _ _ _ => rfl, ?_, fun _ _ _ => rfl, fun _ _ _ _ _ _ => rfl, by simp, by simp, by simp⟩
  · intro o xs m cs fr h j
    simp only [wrOK, okW, List.all_cons, List.all_nil, lightD, evs_map, Bool.not_true, Bool.false_or, Bool.and_true, reduceCtorEq, false_or, List.cons_ne_self, Bool.and_eq_true]
    rfl
  · intro o xs fr; simp [lightD, evs_map]
end Go.Dm
