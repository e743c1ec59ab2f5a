/- Maps. -/
import Derived.Test.YtmdaacajdnbegaaDoorDOps6
import Derived.MapKept
namespace Go.Dm
open Go
set_option linter.constructorNameAsVariable false
set_option linter.unnecessarySimpa false
set_option linter.unusedSimpArgs false
variable {P : Program}

/-- The values behind two keys that can be held against each other. -/
theorem keyD_vals {μ : Mu} {kt : KT} {x y : V} {a b : Value} {z : Bool} (hx : VR μ x a) (hy : VR μ y b) (h : keyD kt x y = some z) : (a = b ↔ z = true) ∧ okK kt x = true ∧ okK kt y = true := by
  unfold keyD at h
  split at h
  · cases h
    obtain rfl := hx.b_inv
    obtain rfl := hy.b_inv
    exact ⟨by simp, rfl, rfl⟩
  · split at h
    · rename_i hk
      subst hk
      cases h
      obtain rfl := hx.i_inv
      obtain rfl := hy.i_inv
      exact ⟨by simp, rfl, rfl⟩
    · cases h
  · cases h
    obtain rfl := hx.s_inv
    obtain rfl := hy.s_inv
    refine ⟨?_, rfl, rfl⟩
    simp
  · cases h
    obtain ⟨A, rfl, hA⟩ := hx.agg_inv
    obtain ⟨B, rfl, hB⟩ := hy.agg_inv
    refine ⟨?_, rfl, rfl⟩
    cases hA' : A.toList with
    | nil => rw [hA'] at hA; exact False.elim hA
    | cons a as =>
      cases hB' : B.toList with
      | nil => rw [hB'] at hB; exact False.elim hB
      | cons b bs =>
        rw [hA'] at hA
        rw [hB'] at hB
        cases as with
        | cons => exact False.elim hA.2
        | nil =>
          cases bs with
          | cons => exact False.elim hB.2
          | nil =>
            have e1 := hA.1.s_inv
            have e2 := hB.1.s_inv
            subst e1
            subst e2
            have eA := congrArg List.toArray hA'
            have eB := congrArg List.toArray hB'
            simp only [Array.toArray_toList] at eA eB
            subst eA
            subst eB
            simp
  · cases h

/-- A key in the model. -/
inductive KV : KT → Value → Prop
  | b (x : Bool) : KV .b (.bool x)
  | i (k : IntKind) (n : Int) : KV .i (.int k n)
  | s (s : ByteArray) : KV .s (.string s)
  | st (s : ByteArray) : KV .st (.agg #[.string s])
theorem okK_kv {μ : Mu} {kt : KT} {x : V} {a : Value} (hx : VR μ x a) (h : okK kt x = true) : KV kt a := by
  unfold okK at h
  split at h
  · obtain rfl := hx.b_inv; exact .b _
  · obtain rfl := hx.i_inv; exact .i _ _
  · obtain rfl := hx.s_inv; exact .s _
  · obtain ⟨A, rfl, hA⟩ := hx.agg_inv
    cases hA' : A.toList with
    | nil => rw [hA'] at hA; exact False.elim hA
    | cons a as =>
      rw [hA'] at hA
      cases as with
      | cons => exact False.elim hA.2
      | nil =>
        have e1 := hA.1.s_inv
        subst e1
        have eA := congrArg List.toArray hA'
        simp only [Array.toArray_toList] at eA
        subst eA
        exact .st _
  · cases h
theorem keyT_st {t : TypeId} (h : keyT P t = some .st) : ∃ fs f, P.underlying t = some (.struct fs) ∧ fs = #[f] ∧ f.name ≠ "_" ∧ f.offset = 0 ∧ fkT P f.type = some .s ∧ P.stoodInHeld t = false := by
  unfold keyT at h
  split at h <;> first | (cases h; done) | skip
  rename_i fs hu
  split at h
  · rename_i hf
    unfold flatT at hf
    rw [hu] at hf
    simp only at hf
    split at hf
    · rename_i hc
      cases hfs : fs.toList with
      | nil => rw [hfs] at hf; simp [fksT] at hf
      | cons f r =>
        rw [hfs] at hf
        simp only [fksT] at hf
        split at hf
        · rename_i hn
          simp only [Option.bind_eq_some_iff, Option.map_eq_some_iff, List.cons.injEq] at hf
          obtain ⟨k, hk, ks, hks, rfl, rfl⟩ := hf
          cases r with
          | cons g r =>
            simp only [fksT] at hks
            split at hks
            · simp only [Option.bind_eq_some_iff, Option.map_eq_some_iff] at hks
              obtain ⟨_, _, _, _, hq⟩ := hks
              cases hq
            · cases hks
          | nil =>
            refine ⟨fs, f, hu, ?_, hn.1, hn.2, hk, hc.1⟩
            rw [← Array.toArray_toList (xs := fs), hfs]
        · cases hf
    · cases hf
  · cases h
theorem checkKey_ok {kt : KT} {t : TypeId} {a : Value} (h : keyT P t = some kt) (ha : KV kt a) (e : Bool) (w : World) : (Instr.checkKey e 10000 t a).run P w = .ok () w := by
  cases ha with
  | st s =>
    obtain ⟨fs, f, hu, rfl, h1, h2, h3, _⟩ := keyT_st h
    have hp : (part f.type #[.string s] f.offset).run P w = .ok (.string s) w := by simp [part, agT_run (fkT_part h3), h2]
    have hc : ∀ n, (Instr.checkKey e (n + 1) f.type (.string s)).run P w = .ok () w := by
      unfold fkT at h3
      split at h3 <;> first | (cases h3; done) | skip
      rename_i hu2
      intro n
      simp [Instr.checkKey, run_underlying hu2]
    have hd : ∀ n, (Instr.checkKey e (n + 1 + 1) t (.agg #[.string s])).run P w = .ok () w := by
      intro n
      have := hc n
      rw [Instr.checkKey]
      simp [run_underlying hu, h1, hp, this, Sem.run_bind]
    exact hd 9998
  | _ =>
    unfold keyT at h
    split at h <;> first | (cases h; done) | (split at h <;> cases h; done) | skip
    rename_i hu
    refine (fun n => ?_ : ∀ n, (Instr.checkKey e (n + 1) t _).run P w = .ok () w) 9999
    rw [Instr.checkKey]
    simp [run_underlying hu]

theorem findNow_ok {μ : Mu} {kt : KT} {d : TypeDesc} {k : V} {a : Value} (hk : VR μ k a) (hd : (d = .bool ∧ kt = .b) ∨ (∃ j, d = .int j ∧ kt = .i) ∨ (d = .string ∧ kt = .s)) :
    ∀ (es : List (V × V)) (ents : List MapEntry) (n : Nat) (r : Option (Nat × V)), ER μ es ents → findD kt k es n = some r →
      (r = none → Instr.findNow d a ents n = some none) ∧ ∀ m v, r = some (m, v) → ∃ y, Instr.findNow d a ents n = some (some (m, y)) ∧ VR μ v y ∧ n ≤ m ∧ ∃ e, ents[m - n]? = some e ∧ e.key = a
  | [], ents, n, r, he, h => by
    cases ents with
    | cons => exact False.elim he
    | nil => simp [findD] at h; subst h; exact ⟨fun _ => rfl, fun m v hq => by cases hq⟩
  | (k', v') :: es, ents, n, r, he, h => by
    cases ents with
    | nil => exact False.elim he
    | cons e ents =>
      obtain ⟨e1, e2, e3, e4⟩ := he
      simp only [findD, Option.bind_eq_some_iff] at h
      obtain ⟨z, hz, hr⟩ := h
      obtain ⟨q1, q2, q3⟩ := keyD_vals hk e1 hz
      have hsame : Instr.sameNow d a e.key = some z := by
        simp only at e1 q3 hz
        generalize e.key = kk at *
        rcases hd with ⟨rfl, rfl⟩ | ⟨j, rfl, rfl⟩ | ⟨rfl, rfl⟩
        · cases k <;> simp [okK] at q2
          cases k' <;> simp [okK] at q3
          obtain rfl := hk.b_inv
          obtain rfl := e1.b_inv
          simpa [Instr.sameNow, keyD] using hz
        · cases k <;> simp [okK] at q2
          cases k' <;> simp [okK] at q3
          obtain rfl := hk.i_inv
          obtain rfl := e1.i_inv
          simpa [Instr.sameNow, keyD] using hz
        · cases k <;> simp [okK] at q2
          cases k' <;> simp [okK] at q3
          obtain rfl := hk.s_inv
          obtain rfl := e1.s_inv
          simp only [Instr.sameNow]
          congr 1
          rw [Bool.eq_iff_iff, MapKept.bytes_beq, ← q1]
          simp
      cases z with
      | true =>
        simp only [if_true, Option.some.injEq] at hr
        subst hr
        refine ⟨fun hq => by (cases hq), fun m v hq => ?_⟩
        cases hq
        exact ⟨e.val, by simp [Instr.findNow, hsame], e3, Nat.le_refl _, e, by simp, (q1.2 rfl).symm⟩
      | false =>
        simp only [Bool.false_eq_true, if_false] at hr
        obtain ⟨i1, i2⟩ := findNow_ok hk hd es ents (n + 1) r e4 hr
        refine ⟨fun hq => by simp [Instr.findNow, hsame, i1 hq], fun m v hq => ?_⟩
        obtain ⟨y, j1, j2, j3, e', j4, j5⟩ := i2 m v hq
        refine ⟨y, by simp [Instr.findNow, hsame, j1], j2, by omega, e', ?_, j5⟩
        rw [show m - n = (m - (n + 1)) + 1 by omega, List.getElem?_cons_succ]
        exact j4
theorem findAsking_ok {μ : Mu} {t : TypeId} {k : V} {a : Value} (hk : VR μ k a) (ht : keyT P t = some .st) (w : World) :
    ∀ (es : List (V × V)) (ents : List MapEntry) (n : Nat) (r : Option (Nat × V)), ER μ es ents → findD .st k es n = some r →
      (r = none → (Instr.findAsking t a ents n).run P w = .ok none w) ∧ ∀ m v, r = some (m, v) → ∃ y, (Instr.findAsking t a ents n).run P w = .ok (some (m, y)) w ∧ VR μ v y ∧ n ≤ m ∧ ∃ e, ents[m - n]? = some e ∧ e.key = a
  | [], ents, n, r, he, h => by
    cases ents with
    | cons => exact False.elim he
    | nil => simp [findD] at h; subst h; exact ⟨fun _ => rfl, fun m v hq => by cases hq⟩
  | (k', v') :: es, ents, n, r, he, h => by
    cases ents with
    | nil => exact False.elim he
    | cons e ents =>
      obtain ⟨e1, e2, e3, e4⟩ := he
      simp only [findD, Option.bind_eq_some_iff] at h
      obtain ⟨z, hz, hr⟩ := h
      obtain ⟨q1, q2, q3⟩ := keyD_vals hk e1 hz
      have hsame : (Op.equal t a e.key).run P w = .ok z w := by
        have ka := okK_kv hk q2
        have kb := okK_kv e1 q3
        generalize e.key = kk at *
        cases ka; cases kb
        rename_i s1 s2
        obtain ⟨fs, f, hu, rfl, h1, h2, h3, h4⟩ := keyT_st ht
        have hfo : P.fieldsOf t = #[f] := by unfold Program.fieldsOf; rw [hu]
        have p1 : (part f.type #[.string s1] f.offset).run P w = .ok (.string s1) w := by simp [part, agT_run (fkT_part h3), h2]
        have p2 : (part f.type #[.string s2] f.offset).run P w = .ok (.string s2) w := by simp [part, agT_run (fkT_part h3), h2]
        have hus : P.underlying f.type = some .string := by
          unfold fkT at h3
          split at h3 <;> first | (cases h3; done) | assumption
        rw [equalIn_max, run_equalIn_struct w 9999 t _ _ (by rw [hfo]; exact hu) h4, hfo]
        have hz2 : (s1.toList == s2.toList) = z := by
          rw [Bool.eq_iff_iff, ← q1, beq_iff_eq]
          simp only [Value.agg.injEq, Array.mk.injEq, List.cons.injEq, Value.string.injEq, and_true]
          constructor
          · intro h
            have h5 := beq_toListBytes s1 s2
            rw [h, beq_self_eq_true] at h5
            exact (MapKept.bytes_beq s1 s2).1 h5
          · rintro rfl; rfl
        simp only [Op.eqFields, h1, ne_eq, not_false_eq_true, if_true, Sem.run_bind, p1, p2, Result.andThen_ok, run_equalIn_string w 9998 f.type s1 s2 hus, hz2]
        cases z <;> simp
      cases z with
      | true =>
        simp only [if_true, Option.some.injEq] at hr
        subst hr
        refine ⟨fun hq => by (cases hq), fun m v hq => ?_⟩
        cases hq
        exact ⟨e.val, by simp [Instr.findAsking, hsame, Sem.run_bind], e3, Nat.le_refl _, e, by simp, (q1.2 rfl).symm⟩
      | false =>
        simp only [Bool.false_eq_true, if_false] at hr
        obtain ⟨i1, i2⟩ := findAsking_ok hk ht w es ents (n + 1) r e4 hr
        refine ⟨fun hq => by simp [Instr.findAsking, hsame, i1 hq, Sem.run_bind], fun m v hq => ?_⟩
        obtain ⟨y, j1, j2, j3, e', j4, j5⟩ := i2 m v hq
        refine ⟨y, by simp [Instr.findAsking, hsame, j1, Sem.run_bind], j2, by omega, e', ?_, j5⟩
        rw [show m - n = (m - (n + 1)) + 1 by omega, List.getElem?_cons_succ]
        exact j4
theorem findKey_ok {μ : Mu} {kt : KT} {t : TypeId} {k : V} {a : Value} (hk : VR μ k a) (ht : keyT P t = some kt) (w : World) {es : List (V × V)} {ents : List MapEntry} {r : Option (Nat × V)} (he : ER μ es ents) (h : findD kt k es 0 = some r) :
    (r = none → (Instr.findKey t a ents).run P w = .ok none w) ∧ ∀ m v, r = some (m, v) → ∃ y, (Instr.findKey t a ents).run P w = .ok (some (m, y)) w ∧ VR μ v y ∧ ∃ e, ents[m]? = some e ∧ e.key = a := by
  have now : ∀ d, P.underlying t = some d → ((d = .bool ∧ kt = .b) ∨ (∃ j, d = .int j ∧ kt = .i) ∨ (d = .string ∧ kt = .s)) →
      (r = none → (Instr.findKey t a ents).run P w = .ok none w) ∧ ∀ m v, r = some (m, v) → ∃ y, (Instr.findKey t a ents).run P w = .ok (some (m, y)) w ∧ VR μ v y ∧ ∃ e, ents[m]? = some e ∧ e.key = a := by
    intro d hu hd
    obtain ⟨i1, i2⟩ := findNow_ok hk hd es ents 0 r he h
    refine ⟨fun hq => by simp [Instr.findKey, run_underlying hu, i1 hq], fun m v hq => ?_⟩
    obtain ⟨y, j1, j2, _, e, j4, j5⟩ := i2 m v hq
    exact ⟨y, by simp [Instr.findKey, run_underlying hu, j1], j2, e, by simpa using j4, j5⟩
  cases kt with
  | st =>
    obtain ⟨fs, f, hu, _⟩ := keyT_st ht
    obtain ⟨i1, i2⟩ := findAsking_ok hk ht w es ents 0 r he h
    have hnow : Instr.findNow (.struct fs) a ents 0 = none ∨ (ents = [] ∧ Instr.findNow (.struct fs) a ents 0 = some none) := by
      cases ents with
      | nil => exact .inr ⟨rfl, rfl⟩
      | cons => exact .inl rfl
    rcases hnow with hnow | ⟨rfl, hnow⟩
    · refine ⟨fun hq => by simp [Instr.findKey, run_underlying hu, hnow, i1 hq], fun m v hq => ?_⟩
      obtain ⟨y, j1, j2, _, e, j4, j5⟩ := i2 m v hq
      exact ⟨y, by simp [Instr.findKey, run_underlying hu, hnow, j1], j2, e, by simpa using j4, j5⟩
    · cases es with
      | cons => exact False.elim he
      | nil => simp [findD] at h; subst h; exact ⟨fun _ => by simp [Instr.findKey, run_underlying hu, hnow], fun m v hq => by cases hq⟩
  | b =>
    unfold keyT at ht
    split at ht <;> first | (cases ht; done) | (split at ht <;> cases ht; done) | (rename_i hu; exact now _ hu (.inl ⟨rfl, rfl⟩))
  | i =>
    unfold keyT at ht
    split at ht <;> first | (cases ht; done) | (split at ht <;> cases ht; done) | (rename_i hu; exact now _ hu (.inr (.inl ⟨_, rfl, rfl⟩)))
  | s =>
    unfold keyT at ht
    split at ht <;> first | (cases ht; done) | (split at ht <;> cases ht; done) | (rename_i hu; exact now _ hu (.inr (.inr ⟨rfl, rfl⟩)))

theorem zvT_run {μ : Mu} {t : TypeId} {v : V} (h : zvT P t = some v) (w : World) : ∃ y, (zeroValue t).run P w = .ok y w ∧ VR μ v y := by
  unfold zvT at h
  simp only [Option.bind_eq_some_iff] at h
  obtain ⟨i, h1, z, h2, h3⟩ := h
  exact ⟨z, by simp [zeroValue, typeInfo, h1, h2], absV_ok h3⟩

theorem mkm_ok {μ : Mu} {h : Heap} {w : World} {nx : Nat} {t : TypeId} {vs : List V} {r : Res} (hs : SR P μ h w) (hn : r.nw ≠ [] → μ nx = none) (h0 : sMkm nx vs = some r) :
    ∃ y w' μ', (Instr.makeMap t none).run P w = .ok y w' ∧ Gave P μ w h nx r y w' μ' := by
  cases vs with
  | cons => simp [sMkm] at h0
  | nil =>
    simp only [sMkm, Option.some.injEq] at h0
    subst h0
    replace hn := hn (by simp)
    refine ⟨.map (some w.heap.size), w.alloc (.map #[] 0), μ.set nx ⟨w.heap.size, 0, 0⟩, by simp [Instr.makeMap], ⟨_, Mu.set_same _ _ _, rfl⟩, ?_, ?_⟩
    · exact hs.born hn _ _ rfl ⟨#[], 0, heap_alloc_new w _, trivial⟩ (by simp) (fun k hk => heap_alloc_old w _ k hk)
    · exact Tr.born hn _ rfl (by simp) (fun k hk => heap_alloc_old w _ k hk) rfl rfl rfl
theorem look_ok {μ : Mu} {h : Heap} {w : World} {t kt e : TypeId} {q : KT} {z : V} {ok : Bool} {x k : Value} {vs : List V} {bs : List Box} {v : V} (hs : SR P μ h w) (ht : P.underlying t = some (.map kt e)) (hq : keyT P kt = some q) (hz : zvT P e = some z)
    (hv : VRL μ vs [x, k]) (hf : fetch h (LOp.rd (.look q z ok) vs) = some bs) (h0 : sLook q z ok vs bs = some v) : ∃ y, (Instr.lookup t x k ok).run P w = .ok y w ∧ VR μ v y := by
  obtain ⟨mv, kv, rfl, k1, k2⟩ := hv.inv2
  cases mv <;> simp only [sLook] at h0 <;> try (cases h0; done)
  rename_i id
  obtain ⟨b, rfl, hb⟩ := fetch1 hf
  obtain ⟨l, hl, rfl⟩ := k1.m_inv
  cases b with
  | arr => simp at h0
  | map es =>
    simp only at h0
    split at h0
    · rename_i hok
      simp only [Option.map_eq_some_iff] at h0
      obtain ⟨r, hr, rfl⟩ := h0
      obtain ⟨m, e1, e2, ents, ck, e3, e4⟩ := hs.box id _ hb
      rw [hl] at e1
      cases e1
      have hck := checkKey_ok (P := P) hq (okK_kv k2 hok) ents.isEmpty w
      obtain ⟨f1, f2⟩ := findKey_ok (P := P) k2 hq w e4 hr
      obtain ⟨zy, z1, z2⟩ := zvT_run (μ := μ) hz w
      cases r with
      | none =>
        refine ⟨_, by simp [Instr.lookup, run_underlying ht, MapKept.run_getObj_map e3, hck, f1 rfl, z1, Sem.run_bind]; rfl, ?_⟩
        cases ok
        · exact z2
        · exact ⟨z2, rfl, trivial⟩
      | some p =>
        obtain ⟨m, u⟩ := p
        obtain ⟨y, g1, g2, _⟩ := f2 m u rfl
        refine ⟨_, by simp [Instr.lookup, run_underlying ht, MapKept.run_getObj_map e3, hck, g1, Sem.run_bind]; rfl, ?_⟩
        cases ok
        · exact g2
        · exact ⟨g2, rfl, trivial⟩
    · cases h0
theorem keyStays_ok {q : KT} {a : Value} (h : KV q a) (w : World) : (Instr.keyThatStays a a).run P w = .ok a w := by
  have hs : ∀ s : ByteArray, (s == s) = true := fun s => by rw [beq_toListBytes]; simp
  cases h <;> simp [Instr.keyThatStays, Instr.sameBits, hs]
theorem ER.set {μ : Mu} : ∀ {es : List (V × V)} {ents : List MapEntry} (m : Nat) (k v : V) (f : MapEntry → MapEntry), ER μ es ents → (∀ e, VR μ k (f e).key ∧ k ≠ .u ∧ VR μ v (f e).val) → ER μ (es.set m (k, v)) (ents.modify m f)
  | [], [], m, _, _, _, _, _ => by cases m <;> exact trivial
  | [], _ :: _, _, _, _, _, h, _ => False.elim h
  | _ :: _, [], _, _, _, _, h, _ => False.elim h
  | x :: xs, y :: ys, 0, k, v, f, h, hf => by
    simp only [List.set_cons_zero, List.modify_zero_cons]
    exact ⟨(hf y).1, (hf y).2.1, (hf y).2.2, h.2.2.2⟩
  | x :: xs, y :: ys, m + 1, k, v, f, h, hf => by
    simp only [List.set_cons_succ, List.modify_succ_cons]
    exact ⟨h.1, h.2.1, h.2.2.1, ER.set m k v f h.2.2.2 hf⟩
theorem ER.snoc {μ : Mu} : ∀ {es : List (V × V)} {ents : List MapEntry} (p : V × V) (e : MapEntry), ER μ es ents → (VR μ p.1 e.key ∧ p.1 ≠ .u ∧ VR μ p.2 e.val) → ER μ (es ++ [p]) (ents ++ [e])
  | [], [], _, _, _, h => ⟨h.1, h.2.1, h.2.2, trivial⟩
  | [], _ :: _, _, _, h, _ => False.elim h
  | _ :: _, [], _, _, h, _ => False.elim h
  | _ :: _, _ :: _, p, e, h, hp => ⟨h.1, h.2.1, h.2.2.1, ER.snoc p e h.2.2.2 hp⟩
theorem mup_ok {μ : Mu} {h : Heap} {w : World} {nx : Nat} {t kt e : TypeId} {q : KT} {x k y : Value} {vs : List V} {bs : List Box} {r : Res} (hs : SR P μ h w) (ht : P.underlying t = some (.map kt e)) (hq : keyT P kt = some q)
    (hv : VRL μ vs [x, k, y]) (hf : fetch h (LOp.rd (.mup q) vs) = some bs) (h0 : sMup q vs bs = some r) : ∃ w', (Instr.mapUpdate t x k y).run P w = .ok () w' ∧ Gave P μ w h nx r undef w' μ := by
  obtain ⟨mv, kv, yv, rfl, k1, k2, k3⟩ := hv.inv3
  cases mv <;> simp only [sMup] at h0 <;> try (cases h0; done)
  rename_i id
  obtain ⟨b, rfl, hb⟩ := fetch1 hf
  obtain ⟨l, hl, rfl⟩ := k1.m_inv
  cases b with
  | arr => simp at h0
  | map es =>
    simp only at h0
    split at h0
    · rename_i hok
      simp only [Option.map_eq_some_iff] at h0
      obtain ⟨r, hr, rfl⟩ := h0
      obtain ⟨m, e1, e2, ents, ck, e3, e4⟩ := hs.box id _ hb
      rw [hl] at e1
      cases e1
      have hkv := okK_kv k2 hok
      have hck := checkKey_ok (P := P) hq hkv false w
      have hku : kv ≠ .u := by rintro rfl; cases q <;> simp [okK] at hok
      obtain ⟨f1, f2⟩ := findKey_ok (P := P) k2 hq w e4 hr
      have fin : ∀ (es' : List (V × V)) (ents' : Array MapEntry) (ck' : Nat), ER μ es' ents'.toList → Gave P μ w h nx { v := .u, wr := [(id, some (.map es'))] } undef { w with heap := w.heap.setIfInBounds l.g (.map ents' ck') } μ := by
        intro es' ents' ck' her
        obtain ⟨q1, q2⟩ := MapKept.heap_set (o' := Obj.map ents' ck') e3
        exact ⟨rfl, hs.set hb rfl hl ⟨ents', ck', q1, her⟩ q2 (by simp), Tr.set hl q2 (by simp) rfl rfl rfl⟩
      cases r with
      | none =>
        refine ⟨_, by simp [Instr.mapUpdate, run_underlying ht, MapKept.run_getObj_map e3, hck, f1 rfl, Sem.run_bind, MapKept.run_setObj_map _ e3]; rfl, ?_⟩
        exact fin _ _ _ (by simpa using ER.snoc (kv, yv) _ e4 ⟨k2, hku, k3⟩)
      | some p =>
        obtain ⟨m, u⟩ := p
        obtain ⟨y', g1, g2, en, g3, g4⟩ := f2 m u rfl
        have hold : ((ents[m]?).map (·.key)).getD k = k := by
          have : ents[m]? = some en := by simpa using g3
          rw [this]
          simpa using g4
        refine ⟨_, by simp [Instr.mapUpdate, run_underlying ht, MapKept.run_getObj_map e3, hck, g1, Sem.run_bind, hold, keyStays_ok hkv, MapKept.run_setObj_map _ e3]; rfl, ?_⟩
        exact fin _ _ _ (by simpa using ER.set m kv yv _ e4 (fun e => ⟨k2, hku, k3⟩))
    · cases h0
end Go.Dm
