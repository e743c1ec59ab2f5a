/- Operations that look into no memory: choices, turned numbers, places, parts, slices. -/
import Derived.Test.YtmdaacajdnbegaaDoorDOps2
import Derived.Laws.Slices
import Derived.Laws.BytesString
namespace Go.Dm
open Go
set_option linter.constructorNameAsVariable false
set_option linter.unnecessarySimpa false
set_option linter.unusedSimpArgs false
variable {P : Program}

theorem VRL.nil_inv {μ : Mu} {vs : List V} (h : VRL μ vs []) : vs = [] := by cases vs <;> first | rfl | exact False.elim h
theorem VRL.cons_inv {μ : Mu} {vs : List V} {y : Value} {ys : List Value} (h : VRL μ vs (y :: ys)) : ∃ v r, vs = v :: r ∧ VR μ v y ∧ VRL μ r ys := by
  cases vs with
  | nil => exact False.elim h
  | cons v r => exact ⟨v, r, rfl, h.1, h.2⟩
theorem VRL.inv1 {μ : Mu} {vs : List V} {y : Value} (h : VRL μ vs [y]) : ∃ v, vs = [v] ∧ VR μ v y := by
  obtain ⟨v, r, rfl, h1, h2⟩ := h.cons_inv
  obtain rfl := h2.nil_inv
  exact ⟨v, rfl, h1⟩
theorem VRL.inv2 {μ : Mu} {vs : List V} {y z : Value} (h : VRL μ vs [y, z]) : ∃ v u, vs = [v, u] ∧ VR μ v y ∧ VR μ u z := by
  obtain ⟨v, r, rfl, h1, h2⟩ := h.cons_inv
  obtain ⟨u, rfl, h3⟩ := h2.inv1
  exact ⟨v, u, rfl, h1, h3⟩
theorem VRL.inv3 {μ : Mu} {vs : List V} {x y z : Value} (h : VRL μ vs [x, y, z]) : ∃ t v u, vs = [t, v, u] ∧ VR μ t x ∧ VR μ v y ∧ VR μ u z := by
  obtain ⟨v, r, rfl, h1, h2⟩ := h.cons_inv
  obtain ⟨u, t, rfl, h3⟩ := h2.inv2
  exact ⟨v, u, t, rfl, h1, h3⟩

theorem pick_ok {μ : Mu} {vs : List V} {c a b : Value} {v : V} (hv : VRL μ vs [c, a, b]) (h : sPick vs = some v) (w : World) :
    ∃ y, (do pure (Next.value (if ← asBool c then a else b)) : Sem Next).run P w = .ok (.value y) w ∧ VR μ v y := by
  obtain ⟨t, x, z, rfl, h1, h2, h3⟩ := hv.inv3
  cases t <;> simp only [sPick] at h <;> first | (cases h; done) | cases h
  obtain rfl := h1.b_inv
  rename_i q
  cases q
  · exact ⟨b, by simp [asBool, Sem.run_bind], by simpa using h3⟩
  · exact ⟨a, by simp [asBool, Sem.run_bind], by simpa using h2⟩
theorem not_ok {μ : Mu} {vs : List V} {x : Value} {v : V} (hv : VRL μ vs [x]) (h : sNot vs = some v) (w : World) : ∃ y, (Op.unary .not x).run P w = .ok y w ∧ VR μ v y := by
  obtain ⟨t, rfl, h1⟩ := hv.inv1
  cases t <;> simp only [sNot] at h <;> first | (cases h; done) | cases h
  obtain rfl := h1.b_inv
  exact ⟨_, by simp [Op.unary]  , VR.b_mk _⟩
theorem neg_ok {μ : Mu} {vs : List V} {x : Value} {v : V} (hv : VRL μ vs [x]) (h : sNeg vs = some v) (w : World) : ∃ y, (Op.unary .neg x).run P w = .ok y w ∧ VR μ v y := by
  obtain ⟨t, rfl, h1⟩ := hv.inv1
  cases t <;> simp only [sNeg] at h <;> first | (cases h; done) | cases h
  obtain rfl := h1.i_inv
  exact ⟨_, by simp [Op.unary, Op.intArith]  , VR.i_mk _ _⟩
theorem cvi_ok {μ : Mu} {vs : List V} {x : Value} {v : V} {s d : TypeId} {k k' : IntKind} (hs : P.underlying s = some (.int k')) (hd : P.underlying d = some (.int k)) (hv : VRL μ vs [x]) (h : sCvi k vs = some v) (w : World) :
    ∃ y, (convert s d x).run P w = .ok y w ∧ VR μ v y := by
  obtain ⟨t, rfl, h1⟩ := hv.inv1
  cases t <;> simp only [sCvi] at h <;> first | (cases h; done) | cases h
  obtain rfl := h1.i_inv
  exact ⟨_, by simp [convert, run_underlying hs, run_underlying hd, Conv.intToInt]  , VR.i_mk _ _⟩
theorem cvss_ok {μ : Mu} {x : V} {y : Value} {s d : TypeId} (hs : P.underlying s = some .string) (hd : P.underlying d = some .string) (hx : VR μ x y) (hl : ∃ l, x = .s l) (w : World) :
    (convert s d y).run P w = .ok y w := by
  obtain ⟨l, rfl⟩ := hl
  obtain rfl := hx.s_inv
  simp [convert, run_underlying hs, run_underlying hd]
theorem nck_ok {μ : Mu} {vs : List V} {x : Value} {v : V} (hv : VRL μ vs [x]) (h : sNck vs = some v) : (∃ a, x = .pointer (some a)) ∧ VR μ v x := by
  obtain ⟨t, rfl, h1⟩ := hv.inv1
  cases t <;> simp only [sNck] at h <;> first | (cases h; done) | cases h
  obtain ⟨l, _, rfl⟩ := h1.p_inv
  exact ⟨⟨_, rfl⟩, h1⟩

theorem VR.p_mk {μ : Mu} {id off : Nat} {l : Loc} (h : μ id = some l) : VR μ (.p id off) (.pointer (some ⟨l.g, l.o + off, none⟩)) := ⟨l, h, rfl⟩

theorem fa_ok {μ : Mu} {vs : List V} {x : Value} {v : V} {t : TypeId} {fs : Array Field} {k s : Nat} {f : Field} (ht : P.underlying t = some (.struct fs)) (hf : fs[k]? = some f) (hs : szT P f.type = some s) (h0 : s ≠ 0)
    (hv : VRL μ vs [x]) (h : sFa f.offset vs = some v) (w : World) : ∃ y, (Instr.fieldAt t x k).run P w = .ok y w ∧ VR μ v y := by
  obtain ⟨u, rfl, h1⟩ := hv.inv1
  cases u <;> simp only [sFa] at h <;> first | (cases h; done) | cases h
  obtain ⟨l, hl, rfl⟩ := h1.p_inv
  rename_i id o
  refine ⟨_, ?_, VR.p_mk hl⟩
  simp [Instr.fieldAt, run_underlying ht, hf, Instr.sureAddr, fieldPlace, szT_run hs, h0, addr_add, Nat.add_assoc]
theorem ia_ok {μ : Mu} {vs : List V} {x k : Value} {v : V} {t e : TypeId} {s : Nat} (ht : P.underlying t = some (.slice e)) (hs : szT P e = some s) (hv : VRL μ vs [x, k]) (h : sIa s vs = some v) (w : World) :
    ∃ y, (Instr.indexAt t x k).run P w = .ok y w ∧ VR μ v y := by
  obtain ⟨u, u2, rfl, h1, h2⟩ := hv.inv2
  cases u <;> cases u2 <;> simp only [sIa] at h <;> try (cases h; done)
  obtain ⟨l, c, hl, rfl, _⟩ := h1.sl_inv
  obtain rfl := h2.i_inv
  split at h
  · rename_i hb
    cases h
    refine ⟨_, ?_, VR.p_mk hl⟩
    simp [Instr.indexAt, run_underlying ht, asIntOf, szT_run hs, addr_add, hb.1, hb.2, Nat.add_assoc]
  · cases h
theorem iaa_ok {μ : Mu} {vs : List V} {x k : Value} {v : V} {t e : TypeId} {n s : Nat} (ht : P.underlying t = some (.array n e)) (hs : szT P e = some s) (hv : VRL μ vs [x, k]) (h : sIaa n s vs = some v) (w : World) :
    ∃ y, (Instr.indexAt t x k).run P w = .ok y w ∧ VR μ v y := by
  obtain ⟨u, u2, rfl, h1, h2⟩ := hv.inv2
  cases u <;> cases u2 <;> simp only [sIaa] at h <;> try (cases h; done)
  obtain ⟨l, hl, rfl⟩ := h1.p_inv
  obtain rfl := h2.i_inv
  split at h
  · rename_i hb
    cases h
    refine ⟨_, ?_, VR.p_mk hl⟩
    simp [Instr.indexAt, run_underlying ht, asIntOf, Instr.sureAddr, szT_run hs, addr_add, hb.1, hb.2, Nat.add_assoc]
  · cases h
theorem ixs_ok {μ : Mu} {vs : List V} {x k : Value} {v : V} {t : TypeId} (ht : P.underlying t = some .string) (hv : VRL μ vs [x, k]) (h : sIxs vs = some v) (w : World) :
    ∃ y, (Instr.index t x k).run P w = .ok y w ∧ VR μ v y := by
  obtain ⟨u, u2, rfl, h1, h2⟩ := hv.inv2
  cases u <;> cases u2 <;> simp only [sIxs] at h <;> try (cases h; done)
  obtain rfl := h1.s_inv
  obtain rfl := h2.i_inv
  rename_i l kk n
  split at h
  · rename_i hb
    simp only [Option.map_eq_some_iff] at h
    obtain ⟨c, hc, rfl⟩ := h
    refine ⟨_, ?_, VR.i_mk _ _⟩
    have hg : (⟨l.toArray⟩ : ByteArray)[n.toNat]? = some c := by
      rw [← hc]
      obtain ⟨h1, h2⟩ := List.getElem?_eq_some_iff.1 hc
      have h3 : n.toNat < (⟨l.toArray⟩ : ByteArray).size := h1
      rw [getElem?_pos (⟨l.toArray⟩ : ByteArray) n.toNat h3, getElem?_pos l n.toNat h1]
      congr 1
    simp [Instr.index, run_underlying ht, asIntOf, hb, hg]
  · cases h

theorem one_part {μ : Mu} {cs c : List V} {ys : List Value} {off n : Nat} {g : Bool} {t : TypeId} {v : V} (hv : VRL μ cs ys) (hc : cut cs off n = some c) (ho : one g n c = some v) (hg : agT P t = some g) (hn : szT P t = some n) (w : World) :
    ∃ y, (part t ys.toArray off).run P w = .ok y w ∧ VR μ v y := by
  have hl := hv.length
  obtain ⟨hle, rfl⟩ := cut_some hc
  unfold one at ho
  unfold part
  cases g with
  | true =>
    simp only [if_true, Option.some.injEq] at ho
    subst ho
    refine ⟨_, by simp [Sem.run_bind, agT_run hg, szT_run hn]; rfl, ?_⟩
    have := (hv.drop off).take n
    simp only [VR]
    simpa [List.extract, List.drop_take] using this
  | false =>
    simp only [Bool.false_eq_true, if_false] at ho
    split at ho
    · rename_i h1
      subst h1
      have hx : cs[off]? = some v := by
        rw [List.head?_eq_getElem?, List.getElem?_take_of_lt (by omega), List.getElem?_drop] at ho
        simpa using ho
      obtain ⟨y, hy, hr⟩ := hv.get off hx
      refine ⟨y, ?_, hr⟩
      simp [Sem.run_bind, agT_run hg, hy]
    · cases ho
theorem fld_ok {μ : Mu} {vs : List V} {x : Value} {v : V} {t : TypeId} {fs : Array Field} {k s : Nat} {f : Field} {g : Bool} (ht : P.underlying t = some (.struct fs)) (hf : fs[k]? = some f) (hs : szT P f.type = some s) (hg : agT P f.type = some g)
    (hv : VRL μ vs [x]) (h : sFld f.offset s g vs = some v) (w : World) : ∃ y, (Instr.field t x k).run P w = .ok y w ∧ VR μ v y := by
  obtain ⟨u, rfl, h1⟩ := hv.inv1
  cases u <;> simp only [sFld] at h <;> try (cases h; done)
  obtain ⟨a, rfl, h2⟩ := h1.agg_inv
  simp only [Option.bind_eq_some_iff] at h
  obtain ⟨c, hc, ho⟩ := h
  obtain ⟨y, e, r⟩ := one_part h2 hc ho hg hs w
  refine ⟨y, ?_, r⟩
  simpa [Instr.field, run_underlying ht, hf, asAgg] using e
theorem ixa_ok {μ : Mu} {vs : List V} {x k : Value} {v : V} {t e : TypeId} {n s : Nat} {g : Bool} (ht : P.underlying t = some (.array n e)) (hs : szT P e = some s) (hg : agT P e = some g) (hv : VRL μ vs [x, k]) (h : sIxa n s g vs = some v) (w : World) :
    ∃ y, (Instr.index t x k).run P w = .ok y w ∧ VR μ v y := by
  obtain ⟨u, u2, rfl, h1, h2⟩ := hv.inv2
  cases u <;> cases u2 <;> simp only [sIxa] at h <;> try (cases h; done)
  obtain ⟨a, rfl, h3⟩ := h1.agg_inv
  obtain rfl := h2.i_inv
  split at h
  · rename_i hb
    simp only [Option.bind_eq_some_iff] at h
    obtain ⟨c, hc, ho⟩ := h
    obtain ⟨y, e1, r⟩ := one_part h3 hc ho hg hs w
    refine ⟨y, ?_, r⟩
    simpa [Instr.index, run_underlying ht, asIntOf, hb.1, hb.2, szT_run hs] using e1
  · cases h
theorem len_ok {μ : Mu} {str : Bool} {vs : List V} {x : Value} {v : V} {t ty : TypeId} {ts : Array TypeId} (h0 : ts[0]? = some t) (ht : if str then P.underlying t = some .string else ∃ e, P.underlying t = some (.slice e)) (hv : VRL μ vs [x]) (h : sLen str vs = some v) (w : World) :
    ∃ y, (Builtin.len_ ts ty #[x]).run P w = .ok y w ∧ VR μ v y := by
  obtain ⟨u, rfl, h1⟩ := hv.inv1
  cases str with
  | true =>
    simp only [if_true] at ht
    cases u <;> simp only [sLen] at h <;> first | (cases h; done) | cases h
    obtain rfl := h1.s_inv
    exact ⟨_, by simp [Builtin.len_, h0, run_underlying ht, goInt, size_mk], VR.i_mk _ _⟩
  | false =>
    simp only [Bool.false_eq_true, if_false] at ht
    obtain ⟨e, he⟩ := ht
    cases u <;> simp only [sLen] at h <;> first | (cases h; done) | cases h
    · obtain ⟨l, c, _, rfl, _⟩ := h1.sl_inv
      exact ⟨_, by simp [Builtin.len_, h0, run_underlying he, goInt], VR.i_mk _ _⟩
    · obtain rfl := h1.sn_inv
      exact ⟨_, by simp [Builtin.len_, h0, run_underlying he, goInt], VR.i_mk _ _⟩
    · obtain ⟨a, c, rfl⟩ := h1.se_inv
      exact ⟨_, by simp [Builtin.len_, h0, run_underlying he, goInt], VR.i_mk _ _⟩
theorem lenc_ok {μ : Mu} {n : Nat} {vs : List V} {x : Value} {v : V} {t ty e : TypeId} {ts : Array TypeId} (h0 : ts[0]? = some t) (ht : P.underlying t = some (.array n e)) (hv : VRL μ vs [x]) (h : sLenc n vs = some v) (w : World) :
    ∃ y, (Builtin.len_ ts ty #[x]).run P w = .ok y w ∧ VR μ v y := by
  obtain ⟨u, rfl, h1⟩ := hv.inv1
  simp only [sLenc] at h
  cases h
  exact ⟨_, by simp [Builtin.len_, h0, run_underlying ht, goInt], VR.i_mk _ _⟩
theorem mnx_ok {μ : Mu} {mx : Bool} {vs : List V} {x z : Value} {v : V} {ts : Array TypeId} {ty : TypeId} (hv : VRL μ vs [x, z]) (h : sMnx mx vs = some v) (w : World) :
    ∃ y, (if mx then Builtin.max_ ts ty #[x, z] else Builtin.min_ ts ty #[x, z]).run P w = .ok y w ∧ VR μ v y := by
  obtain ⟨u, u2, rfl, h1, h2⟩ := hv.inv2
  cases u <;> cases u2 <;> simp only [sMnx] at h <;> try (cases h; done)
  obtain rfl := h1.i_inv
  obtain rfl := h2.i_inv
  split at h
  · cases h
    cases mx
    · exact ⟨_, by simp [Builtin.min_, Builtin.min2]  , VR.i_mk _ _⟩
    · exact ⟨_, by simp [Builtin.max_, Builtin.max2]  , VR.i_mk _ _⟩
  · cases h
theorem ext_ok {μ : Mu} {k : Nat} {vs : List V} {x : Value} {v : V} (hv : VRL μ vs [x]) (h : sExt k vs = some v) (w : World) : ∃ y, (Instr.extract x k).run P w = .ok y w ∧ VR μ v y := by
  obtain ⟨u, rfl, h1⟩ := hv.inv1
  cases u <;> simp only [sExt] at h <;> try (cases h; done)
  obtain ⟨a, rfl, h2⟩ := h1.tup_inv
  obtain ⟨y, e, r⟩ := h2.get k h
  refine ⟨y, ?_, r⟩
  have e' : a[k]? = some y := by simpa using e
  simp [Instr.extract, e']
theorem mkf_ok {μ : Mu} {f n : Nat} {vs : List V} {xs ys : List Value} {v : V} (hv : VRL μ vs (xs ++ ys)) (hn : xs.length = n) (h : sMkf f n vs = some v) (w : World) :
    ∃ y, (Instr.makeFunc (.func f) xs.toArray ys.toArray).run P w = .ok y w ∧ VR μ v y := by
  unfold sMkf at h
  split at h
  · cases h
    refine ⟨_, rfl, rfl, ?_, ?_⟩
    · have := hv.take n
      rwa [List.take_left' hn] at this
    · have := hv.drop n
      rwa [List.drop_left' hn] at this
  · cases h
end Go.Dm
