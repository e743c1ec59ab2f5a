/- Operations that look into no memory. -/
import Derived.Test.YtmdaacajdnbegaaDoorDOps1
import Derived.Laws.StructEq
import Derived.Laws.Small
import Derived.Lib.SliceRun
set_option linter.constructorNameAsVariable false
set_option linter.unusedSimpArgs false
set_option linter.unusedVariables false
set_option linter.unusedSectionVars false
namespace Go.Dm
open Go
set_option linter.constructorNameAsVariable false
set_option linter.unnecessarySimpa false
variable {P : Program}

/-! ### constants, operands -/
theorem absC_ok {μ : Mu} {v : Value} {u : V} (h : absC v = some u) : VR μ u v := by
  unfold absC at h
  split at h <;> first | (cases h; simp [VR]; done) | (cases h; trivial) | cases h
theorem absL_ok {μ : Mu} : ∀ {vs : List Value} {us : List V}, absL vs = some us → VRL μ us vs
  | [], us, h => by simp [absL] at h; subst h; trivial
  | v :: r, us, h => by
    simp only [absL, Option.bind_eq_some_iff, Option.map_eq_some_iff] at h
    obtain ⟨x, h1, xs, h2, rfl⟩ := h
    exact ⟨absC_ok h1, absL_ok h2⟩
theorem absV_ok {μ : Mu} {v : Value} {u : V} (h : absV v = some u) : VR μ u v := by
  unfold absV at h
  split at h
  · simp only [Option.map_eq_some_iff] at h
    obtain ⟨xs, h1, rfl⟩ := h
    exact absL_ok h1
  · exact absC_ok h
theorem compO_ok {μ : Mu} {n : Nat} {fr : Fr} {a : Act} {x : Operand} {p : Opnd} (hf : FrR μ n fr a) (h : compO x = some p) : VR μ (p.ev fr) (a.eval x) := by
  cases x with
  | tmp t => simp [compO] at h; subst h; exact hf.get t
  | const v =>
    simp only [compO, Option.map_eq_some_iff] at h
    obtain ⟨u, h1, rfl⟩ := h
    exact absV_ok h1
  | global g => simp [compO] at h
  | func f => simp [compO] at h; subst h; exact ⟨rfl, trivial, trivial⟩
theorem compOs_ok {μ : Mu} {n : Nat} {fr : Fr} {a : Act} (hf : FrR μ n fr a) : ∀ {xs : List Operand} {ps : List Opnd}, compOs xs = some ps → VRL μ (ps.map (·.ev fr)) (xs.map a.eval)
  | [], ps, h => by simp [compOs] at h; subst h; trivial
  | x :: r, ps, h => by
    simp only [compOs, Option.bind_eq_some_iff, Option.map_eq_some_iff] at h
    obtain ⟨p, h1, ps', h2, rfl⟩ := h
    exact ⟨compO_ok hf h1, compOs_ok hf h2⟩

/-! ### inversion -/
theorem VR.b_inv {μ : Mu} {x : Bool} {v : Value} (h : VR μ (.b x) v) : v = .bool x := by cases v <;> first | exact False.elim h | (cases (h : x = _); rfl)
theorem VR.i_inv {μ : Mu} {k : IntKind} {n : Int} {v : Value} (h : VR μ (.i k n) v) : v = .int k n := by cases v <;> first | exact False.elim h | (obtain ⟨rfl, rfl⟩ := (h : k = _ ∧ n = _); rfl)
theorem VR.s_inv {μ : Mu} {l : List UInt8} {v : Value} (h : VR μ (.s l) v) : v = .string ⟨l.toArray⟩ := by
  cases v <;> first | exact False.elim h | (rename_i s; cases s; rename_i d; have h2 : d.toList = l := h; subst h2; simp)
theorem VR.s_mk {μ : Mu} (l : List UInt8) : VR μ (.s l) (.string ⟨l.toArray⟩) := by simp [VR]
theorem VR.p_inv {μ : Mu} {id off : Nat} {v : Value} (h : VR μ (.p id off) v) : ∃ l, μ id = some l ∧ v = .pointer (some ⟨l.g, l.o + off, none⟩) := by
  cases v <;> first | exact False.elim h | skip
  rename_i a
  cases a with
  | none => exact False.elim h
  | some a => obtain ⟨l, h1, rfl⟩ := h; exact ⟨l, h1, rfl⟩
theorem VR.pn_inv {μ : Mu} {v : Value} (h : VR μ .pn v) : v = .pointer none := by
  cases v <;> first | exact False.elim h | skip
  rename_i a; cases a <;> first | exact False.elim h | rfl
theorem VR.sl_inv {μ : Mu} {id off len lb : Nat} {ex : Bool} {v : Value} (h : VR μ (.sl id off len lb ex) v) :
    ∃ l c, μ id = some l ∧ v = .slice (some ⟨l.g, l.o + off, none⟩) len c ∧ len ≤ lb ∧ lb ≤ c ∧ (ex = true → c = lb) ∧ (off = 0 → c ≤ l.cap) := by
  cases v <;> first | exact False.elim h | skip
  rename_i a n c
  cases a with
  | none => exact False.elim h
  | some a => obtain ⟨l, h1, rfl, rfl, h2⟩ := h; exact ⟨l, c, h1, rfl, h2⟩
theorem VR.sn_inv {μ : Mu} {v : Value} (h : VR μ .sn v) : v = .slice none 0 0 := by
  cases v <;> first | exact False.elim h | skip
  rename_i a n c; cases a with
  | none => obtain ⟨rfl, rfl⟩ := (h : n = 0 ∧ c = 0); rfl
  | some a => exact False.elim h
theorem VR.se_inv {μ : Mu} {v : Value} (h : VR μ .se v) : ∃ a c, v = .slice (some a) 0 c := by
  cases v <;> first | exact False.elim h | skip
  rename_i a n c; cases a with
  | none => exact False.elim h
  | some a => obtain rfl := (h : n = 0); exact ⟨a, c, rfl⟩
theorem VR.m_inv {μ : Mu} {id : Nat} {v : Value} (h : VR μ (.m id) v) : ∃ l, μ id = some l ∧ v = .map (some l.g) := by
  cases v <;> first | exact False.elim h | skip
  rename_i a; cases a with
  | none => exact False.elim h
  | some a => obtain ⟨l, h1, rfl⟩ := h; exact ⟨l, h1, rfl⟩
theorem VR.fn_inv {μ : Mu} {f : Nat} {x y : List V} {v : Value} (h : VR μ (.fn f x y) v) : ∃ a b, v = .func (.func f) a b ∧ VRL μ x a.toList ∧ VRL μ y b.toList := by
  cases v <;> first | exact False.elim h | skip
  rename_i g a b; cases g <;> first | exact False.elim h | skip
  obtain ⟨rfl, h1, h2⟩ := h; exact ⟨a, b, rfl, h1, h2⟩
theorem VR.agg_inv {μ : Mu} {x : List V} {v : Value} (h : VR μ (.agg x) v) : ∃ a, v = .agg a ∧ VRL μ x a.toList := by
  cases v <;> first | exact False.elim h | exact ⟨_, rfl, h⟩
theorem VR.tup_inv {μ : Mu} {x : List V} {v : Value} (h : VR μ (.tup x) v) : ∃ a, v = .tuple a ∧ VRL μ x a.toList := by
  cases v <;> first | exact False.elim h | exact ⟨_, rfl, h⟩
theorem VR.e_inv {μ : Mu} {z : Bool} {v : Value} (h : VR μ (.e z) v) : (z = true ∧ v = .nilIface) ∨ (z = false ∧ ∃ t u, v = .iface t u) := by
  cases v <;> first | exact False.elim h | exact .inl ⟨h, rfl⟩ | exact .inr ⟨h, _, _, rfl⟩

/-! ### numbers, texts, bools -/
theorem VR.i_mk {μ : Mu} (k : IntKind) (n : Int) : VR μ (.i k n) (.int k n) := ⟨rfl, rfl⟩
theorem VR.b_mk {μ : Mu} (x : Bool) : VR μ (.b x) (.bool x) := (rfl : x = x)
theorem toList_mk (l : List UInt8) : (⟨l.toArray⟩ : ByteArray).toList = l := by rw [ByteArray.toList_eq]
theorem append_mk (l m : List UInt8) : (⟨l.toArray⟩ : ByteArray) ++ ⟨m.toArray⟩ = ⟨(l ++ m).toArray⟩ := by
  apply ByteArray.ext
  simp
theorem size_mk (l : List UInt8) : (⟨l.toArray⟩ : ByteArray).size = l.length := rfl

theorem intD_ok {μ : Mu} {op : BinOp} {k : IntKind} {x y : Int} {v : V} (h : intD op k x y = some v) (h1 : op ≠ .shl) (h2 : op ≠ .shr) (t : TypeId) (w : World) :
    ∃ r, (binOp op t (.int k x) (.int k y)).run P w = .ok r w ∧ VR μ v r := by
  cases op <;> simp only [intD, bitsD, intCmpD] at h <;> (repeat' split at h) <;> first | (cases h; done) | skip
  all_goals cases h
  all_goals first
    | exact absurd rfl h1
    | exact absurd rfl h2
    | exact ⟨_, by simp_all [binOp, Op.intArith, Op.intDiv, Op.intBits, Op.intCmp]; rfl, VR.i_mk _ _⟩
    | exact ⟨_, by simp_all [binOp, Op.intArith, Op.intDiv, Op.intBits, Op.intCmp], VR.i_mk _ _⟩
    | exact ⟨_, by simp_all [binOp, Op.intArith, Op.intDiv, Op.intBits, Op.intCmp]; rfl, VR.b_mk _⟩
    | exact ⟨_, by simp_all [binOp, Op.intArith, Op.intDiv, Op.intBits, Op.intCmp], VR.b_mk _⟩
theorem shiftD_ok {μ : Mu} {op : BinOp} {k k' : IntKind} {x y : Int} {v : V} (h : shiftD op k x y = some v) (t : TypeId) (w : World) :
    ∃ r, (binOp op t (.int k x) (.int k' y)).run P w = .ok r w ∧ VR μ v r := by
  unfold shiftD at h
  split at h
  · cases h
  · rename_i hy
    cases op <;> simp only at h <;> first | (cases h; done) | cases h
    all_goals exact ⟨_, by simp only [binOp, Op.shift]; rw [if_neg hy]; rfl, VR.i_mk _ _⟩
theorem strD_ok {μ : Mu} {op : BinOp} {x y : List UInt8} {v : V} (h : strD op x y = some v) (t : TypeId) (w : World) :
    ∃ r, (binOp op t (.string ⟨x.toArray⟩) (.string ⟨y.toArray⟩)).run P w = .ok r w ∧ VR μ v r := by
  cases op <;> simp only [strD] at h <;> (repeat' split at h) <;> first | (cases h; done) | cases h
  · rename_i hl
    refine ⟨_, ?_, VR.s_mk _⟩
    have hm : IntKind.i64.max = 9223372036854775807 := rfl
    simp only [binOp, Op.stringOp, size_mk, hm]
    rw [if_neg (by omega), append_mk]
    rfl
  · exact ⟨_, by simp only [binOp, Op.stringOp, toList_mk]; rfl, VR.b_mk _⟩
  · exact ⟨_, by simp only [binOp, Op.stringOp, toList_mk]; rfl, VR.b_mk _⟩
theorem eqGuard_int (op : BinOp) (t : TypeId) (p q : Operand) (k k' : IntKind) (x y : Int) (w : World) : (eqGuard op t p q (.int k x) (.int k' y)).run P w = .ok () w := by
  cases op <;> rfl
theorem eqGuard_str (op : BinOp) (t : TypeId) (p q : Operand) (x y : ByteArray) (w : World) : (eqGuard op t p q (.string x) (.string y)).run P w = .ok () w := by
  cases op <;> rfl
theorem binD_ok {μ : Mu} {op : BinOp} {x y : V} {a b : Value} {v : V} (hx : VR μ x a) (hy : VR μ y b) (h : binD op x y = some v) (t : TypeId) (p q : Operand) (w : World) :
    ∃ r, (do eqGuard op t p q a b; binOp op t a b : Sem Value).run P w = .ok r w ∧ VR μ v r := by
  cases x <;> cases y <;> simp only [binD] at h <;> try (cases h; done)
  · rename_i k n k' n'
    obtain rfl := hx.i_inv
    obtain rfl := hy.i_inv
    simp only [Sem.run_bind, eqGuard_int, Result.andThen_ok]
    split at h
    · exact shiftD_ok h t w
    · exact shiftD_ok h t w
    · rename_i h1 h2
      split at h
      · rename_i hk
        subst hk
        exact intD_ok h (fun e => h1 e) (fun e => h2 e) t w
      · cases h
  · rename_i l l'
    obtain rfl := hx.s_inv
    obtain rfl := hy.s_inv
    simp only [Sem.run_bind, eqGuard_str, Result.andThen_ok]
    exact strD_ok h t w

/-! ### against nil -/
theorem ukT_bool {t : TypeId} {x y : Operand} (h : ukT P t x y = some .bool) : P.underlying t = some .bool := by
  unfold ukT at h; split at h <;> first | assumption | (simp at h; done) | (split at h <;> simp at h)
theorem ukT_ptr {t : TypeId} {x y : Operand} (h : ukT P t x y = some .ptr) : ∃ e, P.underlying t = some (.pointer e) := by
  unfold ukT at h; split at h <;> first | exact ⟨_, by assumption⟩ | (simp at h; done) | (split at h <;> simp at h)
theorem ukT_slc {t : TypeId} {x y : Operand} (h : ukT P t x y = some .slc) : ∃ e, P.underlying t = some (.slice e) := by
  unfold ukT at h; split at h <;> first | exact ⟨_, by assumption⟩ | (simp at h; done) | (split at h <;> simp at h)
theorem ukT_ifc {t : TypeId} {x y : Operand} (h : ukT P t x y = some .ifc) : (∃ e, P.underlying t = some (.interface e)) ∧ (isC x || isC y) = true := by
  unfold ukT at h; split at h <;> first | (simp at h; done) | skip
  split at h
  · rename_i h1
    exact ⟨⟨_, by assumption⟩, h1⟩
  · simp at h
theorem eqGuard_const {p q : Operand} (h : (isC p || isC q) = true) (op : BinOp) (t : TypeId) (w : World) : (eqGuard op t p q .nilIface .nilIface).run P w = .ok () w := by
  cases p <;> cases q <;> simp [isC] at h <;> cases op <;> rfl

theorem equalIn_max (t : TypeId) (a b : Value) : Op.equal t a b = Op.equalIn (9999 + 1) t a b := rfl
theorem eqD_ok {μ : Mu} {uk : UK} {x y : V} {a b : Value} {z : Bool} {t : TypeId} {p q : Operand} (hx : VR μ x a) (hy : VR μ y b) (h : eqD uk x y = some z) (hu : ukT P t p q = some uk) (w : World) :
    (eqGuard .eql t p q a b).run P w = .ok () w ∧ (eqGuard .neq t p q a b).run P w = .ok () w ∧ (Op.equal t a b).run P w = .ok z w ∧ (∀ k n, a ≠ .int k n) ∧ (∀ k n, b ≠ .int k n) ∧ (∀ s, a ≠ .string s) ∧ (∀ s, b ≠ .string s) ∧ (∀ k s, a ≠ .float k s) ∧ (∀ k s c, a ≠ .complex k s c) := by
  rw [equalIn_max]
  cases uk with
  | bool =>
    have hU := ukT_bool hu
    cases x <;> cases y <;> simp only [eqD] at h <;> first | (cases h; done) | cases h
    obtain rfl := hx.b_inv
    obtain rfl := hy.b_inv
    exact ⟨rfl, rfl, run_equalIn_bool' w 9999 t _ _ hU, by simp, by simp, by simp, by simp, by simp, by simp⟩
  | ptr =>
    obtain ⟨e, hU⟩ := ukT_ptr hu
    cases x <;> cases y <;> simp only [eqD] at h <;> first | (cases h; done) | cases h
    · obtain ⟨l, _, rfl⟩ := hx.p_inv
      obtain rfl := hy.pn_inv
      exact ⟨rfl, rfl, (fun d => by simp [Op.equalIn, run_underlying hU] : ∀ d, (Op.equalIn (d + 1) t _ _).run P w = _) 9999, by simp, by simp, by simp, by simp, by simp, by simp⟩
    · obtain rfl := hx.pn_inv
      obtain ⟨l, _, rfl⟩ := hy.p_inv
      exact ⟨rfl, rfl, (fun d => by simp [Op.equalIn, run_underlying hU] : ∀ d, (Op.equalIn (d + 1) t _ _).run P w = _) 9999, by simp, by simp, by simp, by simp, by simp, by simp⟩
    · obtain rfl := hx.pn_inv
      obtain rfl := hy.pn_inv
      exact ⟨rfl, rfl, (fun d => by simp [Op.equalIn, run_underlying hU] : ∀ d, (Op.equalIn (d + 1) t _ _).run P w = _) 9999, by simp, by simp, by simp, by simp, by simp, by simp⟩
  | slc =>
    obtain ⟨e, hU⟩ := ukT_slc hu
    cases x <;> cases y <;> simp only [eqD] at h <;> first | (cases h; done) | cases h
    · obtain ⟨l, c, _, rfl, _⟩ := hx.sl_inv
      obtain rfl := hy.sn_inv
      exact ⟨rfl, rfl, (fun d => by simp [Op.equalIn, run_underlying hU] : ∀ d, (Op.equalIn (d + 1) t _ _).run P w = _) 9999, by simp, by simp, by simp, by simp, by simp, by simp⟩
    · obtain rfl := hx.sn_inv
      obtain ⟨l, c, _, rfl, _⟩ := hy.sl_inv
      exact ⟨rfl, rfl, (fun d => by simp [Op.equalIn, run_underlying hU] : ∀ d, (Op.equalIn (d + 1) t _ _).run P w = _) 9999, by simp, by simp, by simp, by simp, by simp, by simp⟩
    · obtain rfl := hx.sn_inv
      obtain rfl := hy.sn_inv
      exact ⟨rfl, rfl, (fun d => by simp [Op.equalIn, run_underlying hU] : ∀ d, (Op.equalIn (d + 1) t _ _).run P w = _) 9999, by simp, by simp, by simp, by simp, by simp, by simp⟩
    · obtain rfl := hx.sn_inv
      obtain ⟨l, c, rfl⟩ := hy.se_inv
      exact ⟨rfl, rfl, (fun d => by simp [Op.equalIn, run_underlying hU] : ∀ d, (Op.equalIn (d + 1) t _ _).run P w = _) 9999, by simp, by simp, by simp, by simp, by simp, by simp⟩
    · obtain ⟨l, c, rfl⟩ := hx.se_inv
      obtain rfl := hy.sn_inv
      exact ⟨rfl, rfl, (fun d => by simp [Op.equalIn, run_underlying hU] : ∀ d, (Op.equalIn (d + 1) t _ _).run P w = _) 9999, by simp, by simp, by simp, by simp, by simp, by simp⟩
  | ifc =>
    obtain ⟨⟨e, hU⟩, hc⟩ := ukT_ifc hu
    have g : ∀ op : BinOp, (eqGuard op t p q .nilIface .nilIface).run P w = .ok () w := fun op => eqGuard_const hc op t w
    cases x <;> cases y <;> simp only [eqD] at h <;> first | (cases h; done) | skip
    rename_i z1 z2
    rcases hx.e_inv with ⟨rfl, rfl⟩ | ⟨rfl, t1, u1, rfl⟩ <;> rcases hy.e_inv with ⟨rfl, rfl⟩ | ⟨rfl, t2, u2, rfl⟩
    · simp [eqD] at h; subst h
      exact ⟨g _, g _, (fun d => by simp [Op.equalIn, run_underlying hU] : ∀ d, (Op.equalIn (d + 1) t _ _).run P w = _) 9999, by simp, by simp, by simp, by simp, by simp, by simp⟩
    · simp [eqD] at h; subst h
      exact ⟨rfl, rfl, (fun d => by simp [Op.equalIn, run_underlying hU] : ∀ d, (Op.equalIn (d + 1) t _ _).run P w = _) 9999, by simp, by simp, by simp, by simp, by simp, by simp⟩
    · simp [eqD] at h; subst h
      exact ⟨rfl, rfl, (fun d => by simp [Op.equalIn, run_underlying hU] : ∀ d, (Op.equalIn (d + 1) t _ _).run P w = _) 9999, by simp, by simp, by simp, by simp, by simp, by simp⟩
    · simp [eqD] at h
theorem eqn_ok {μ : Mu} {uk : UK} {x y : V} {a b : Value} {z ng : Bool} {t : TypeId} {p q : Operand} {op : BinOp} (hop : (op = .eql ∧ ng = false) ∨ (op = .neq ∧ ng = true)) (hx : VR μ x a) (hy : VR μ y b) (h : eqD uk x y = some z) (hu : ukT P t p q = some uk) (w : World) :
    (do eqGuard op t p q a b; binOp op t a b : Sem Value).run P w = .ok (.bool (z != ng)) w := by
  obtain ⟨g1, g2, g3, n1, n2, n3, n4, n5, n6⟩ := eqD_ok hx hy h hu w
  rcases hop with ⟨rfl, rfl⟩ | ⟨rfl, rfl⟩
  · simp only [Sem.run_bind, g1, Result.andThen_ok]
    cases a <;> first | exact absurd rfl (n1 _ _) | exact absurd rfl (n3 _) | exact absurd rfl (n5 _ _) | exact absurd rfl (n6 _ _ _) | (simp only [binOp, Sem.run_bind, g3, Result.andThen_ok, Sem.run_pure]; simp)
  · simp only [Sem.run_bind, g2, Result.andThen_ok]
    cases a <;> first | exact absurd rfl (n1 _ _) | exact absurd rfl (n3 _) | exact absurd rfl (n5 _ _) | exact absurd rfl (n6 _ _ _) | (simp only [binOp, Sem.run_bind, g3, Result.andThen_ok, Sem.run_pure]; simp)
end Go.Dm
