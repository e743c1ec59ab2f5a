/- New boxes: variables, literals, rows, conversions. -/
import Derived.Test.YtmdaacajdnbegaaDoorDOps4
import Derived.Laws.MakeOwn
import Derived.Great.FillDense
import Derived.Great.BuildSlice
import Derived.Lib.ConvBytes
set_option linter.constructorNameAsVariable false
set_option linter.unusedSimpArgs false
set_option linter.unusedVariables false
set_option linter.unusedSectionVars false
namespace Go.Dm
open Go
set_option linter.constructorNameAsVariable false
set_option linter.unnecessarySimpa false
set_option linter.unusedSimpArgs false
variable {P : Program}

/-- A new block under a number that was free. -/
theorem SR.born {μ : Mu} {h : Heap} {w w' : World} {nx : Nat} (hs : SR P μ h w) (hn : μ nx = none) (l : Loc) (b : Box) (hg : l.g = w.heap.size) (hb : BR P (μ.set nx l) w' l b)
    (hz : w'.heap.size = w.heap.size + 1) (hk : ∀ k, k < w.heap.size → w'.heap[k]? = w.heap[k]?) : SR P (μ.set nx l) (h.set nx (some b)) w' := by
  have hlow : ∃ W, Low P (μ.set nx l) (h.set nx (some b)) w' W := by
    obtain ⟨W, low⟩ := hs.low
    refine ⟨W, low.start, by have := low.size; omega, fun k hk' => ?_, fun id c m hc hr hm => ?_⟩
    · have := low.size
      rw [hk k (by omega)]; exact low.same k hk'
    · by_cases hid : id = nx
      · subst hid
        simp only [Mu.set_same, Option.some.injEq] at hm
        rw [← hm, hg]; exact low.size
      · rw [Heap.set_ne _ _ hid] at hc
        rw [Mu.set_ne _ _ hid] at hm
        exact low.own id c m hc hr hm
  refine ⟨hlow, fun id c hc => ?_, fun i j c d m k h1 h2 h3 h4 h5 h6 => ?_⟩
  · by_cases hid : id = nx
    · subst hid
      simp only [Heap.set_same, Option.some.injEq] at hc
      subst hc
      exact ⟨l, by simp, by omega, hb⟩
    · rw [Heap.set_ne _ _ hid] at hc
      obtain ⟨m, h1, h2, h3⟩ := hs.box id c hc
      exact ⟨m, Mu.ext l hn _ _ h1, by omega, h3.keep (Mu.ext l hn) (hk m.g h2)⟩
  · by_cases hi : i = nx
    · subst hi
      have hj : j ≠ i := fun e => h4 e.symm
      rw [Heap.set_ne _ _ hj] at h3
      rw [Mu.set_ne _ _ hj] at h6
      obtain ⟨k', e1, e2, _⟩ := hs.box j d h3
      rw [h6] at e1
      cases e1
      simp only [Mu.set_same, Option.some.injEq] at h5
      subst h5
      omega
    · rw [Heap.set_ne _ _ hi] at h1
      rw [Mu.set_ne _ _ hi] at h5
      by_cases hj : j = nx
      · subst hj
        obtain ⟨k', e1, e2, _⟩ := hs.box i c h1
        rw [h5] at e1
        cases e1
        simp only [Mu.set_same, Option.some.injEq] at h6
        subst h6
        omega
      · rw [Heap.set_ne _ _ hj] at h3
        rw [Mu.set_ne _ _ hj] at h6
        exact hs.apart i j c d m k h1 h2 h3 h4 h5 h6
theorem Tr.born {μ : Mu} {w w' : World} {nx : Nat} (hn : μ nx = none) (l : Loc) (hg : l.g = w.heap.size) (hz : w'.heap.size = w.heap.size + 1) (hk : ∀ k, k < w.heap.size → w'.heap[k]? = w.heap[k]?)
    (e1 : w'.os = w.os) (e2 : w'.tape = w.tape) (e3 : w'.output = w.output) : Tr μ w [] nx (nx + 1) (μ.set nx l) w' := by
  refine ⟨Mu.ext l hn, fun id m h1 h2 => ?_, fun id m h1 h2 => ?_, e1, e2, e3, by omega, fun k hk' _ => hk k hk'⟩
  · by_cases hid : id = nx
    · omega
    · rw [Mu.set_ne _ _ hid, h2] at h1; cases h1
  · by_cases hid : id = nx
    · subst hid
      simp only [Mu.set_same, Option.some.injEq] at h1
      subst h1
      exact .inl (by omega)
    · rw [Mu.set_ne _ _ hid, h2] at h1; cases h1

/-- What an operation must bring about: a value, the heap, what stays. -/
structure Gave (P : Program) (μ : Mu) (w : World) (h : Heap) (nx : Nat) (r : Res) (y : Value) (w' : World) (μ' : Mu) : Prop where
  val : VR μ' r.v y
  sr : SR P μ' ((h.sets r.wr).adds nx r.nw) w'
  tr : Tr μ w (r.wr.map (·.1)) nx (nx + r.nw.length) μ' w'
theorem Gave.pure {μ : Mu} {w : World} {h : Heap} {nx : Nat} {v : V} {y : Value} (hs : SR P μ h w) (hv : VR μ v y) : Gave P μ w h nx { v } y w μ :=
  ⟨hv, hs, Tr.refl μ w nx⟩

/-- A new row of cells. -/
theorem row_born {μ : Mu} {h : Heap} {w w' : World} {nx : Nat} (hs : SR P μ h w) (hn : μ nx = none) {ty cap : Nat} {cs : List V} {vs : List Value} {A : Array Value} {fr : Nat × Nat} (hv : VRL μ cs vs) (ho : ∀ u ∈ cs, u.ok1 = true)
    (hA : ∀ (j : Nat) v, vs[j]? = some v → A[j]? = some v) (hc : cap * P.cellsOf ty ≤ A.size) (hf : Free fr A.size)
    (hg : w'.heap[w.heap.size]? = some (.cells A ty fr)) (hz : w'.heap.size = w.heap.size + 1) (hk : ∀ k, k < w.heap.size → w'.heap[k]? = w.heap[k]?)
    (e1 : w'.os = w.os) (e2 : w'.tape = w.tape) (e3 : w'.output = w.output) :
    SR P (μ.set nx ⟨w.heap.size, 0, cap⟩) (h.set nx (some (.arr true ty cs))) w' ∧ Tr μ w [] nx (nx + 1) (μ.set nx ⟨w.heap.size, 0, cap⟩) w' := by
  refine ⟨hs.born hn _ _ rfl (BR.cells true hg hf rfl (fun j u hj => ?_) hc) hz hk, Tr.born hn _ rfl hz hk e1 e2 e3⟩
  obtain ⟨v, h1, h2⟩ := hv.get j hj
  exact ⟨ho u (List.mem_of_getElem? hj), v, hA j v h1, VR.mono (Mu.ext _ hn) _ _ h2⟩
theorem row_alloc {μ : Mu} {h : Heap} {w : World} {nx : Nat} (hs : SR P μ h w) (hn : μ nx = none) {ty cap : Nat} {cs : List V} {A : Array Value} (hv : VRL μ cs A.toList) (ho : ∀ u ∈ cs, u.ok1 = true) (hc : cap * P.cellsOf ty ≤ A.size) :
    SR P (μ.set nx ⟨w.heap.size, 0, cap⟩) (h.set nx (some (.arr true ty cs))) (w.alloc (.cells A ty)) ∧ Tr μ w [] nx (nx + 1) (μ.set nx ⟨w.heap.size, 0, cap⟩) (w.alloc (.cells A ty)) :=
  row_born hs hn hv ho (fun j v hj => by simpa using hj) hc (Free.zero _) (heap_alloc_new w _) (by simp) (fun k hk => heap_alloc_old w _ k hk) rfl rfl rfl

theorem absC_ok1 {v : Value} {u : V} (h : absC v = some u) : u.ok1 = true := by
  unfold absC at h
  split at h <;> first | (cases h; rfl) | cases h
theorem absL_ok1 : ∀ {vs : List Value} {us : List V}, absL vs = some us → ∀ u ∈ us, u.ok1 = true
  | [], us, h => by simp [absL] at h; subst h; simp
  | v :: r, us, h => by
    simp only [absL, Option.bind_eq_some_iff, Option.map_eq_some_iff] at h
    obtain ⟨x, h1, xs, h2, rfl⟩ := h
    intro u hu
    rcases List.mem_cons.1 hu with rfl | hu
    · exact absC_ok1 h1
    · exact absL_ok1 h2 u hu

theorem zeT_inv {t : TypeId} {zs : List V} (h : zeT P t = some zs) : ∃ i z, P.info? t = some i ∧ i.zero = some z ∧ absL z.cells.toList = some zs ∧ ∀ w : World, (zeroValue t).run P w = .ok z w := by
  unfold zeT at h
  simp only [Option.bind_eq_some_iff] at h
  obtain ⟨i, h1, z, h2, h3⟩ := h
  refine ⟨i, z, h1, h2, h3, fun w => ?_⟩
  simp [zeroValue, typeInfo, h1, h2]
theorem szT_inv {t : TypeId} {s : Nat} {i : TypeInfo} (h : szT P t = some s) (hi : P.info? t = some i) : i.size = s := by
  unfold szT at h; rw [hi] at h; simpa using h
theorem byT_inv {t : TypeId} {s : Nat} {i : TypeInfo} (h : byT P t = some s) (hi : P.info? t = some i) : i.bytes = s := by
  unfold byT at h; rw [hi] at h; simpa using h
theorem szT_cells {t : TypeId} {s : Nat} (h : szT P t = some s) : P.cellsOf t = s := by
  unfold szT at h; unfold Program.cellsOf; rw [h]; rfl

/-- A new variable. -/
theorem new_ok {μ : Mu} {h : Heap} {w : World} {nx : Nat} {t : TypeId} {zs : List V} {vs : List V} {r : Res} (hs : SR P μ h w) (hn : r.nw ≠ [] → μ nx = none) (hz : zeT P t = some zs) (h0 : sNew nx t zs vs = some r) :
    ∃ y w' μ', (Instr.alloc t true (.tuple #[])).run P w = .ok y w' ∧ Gave P μ w h nx r y w' μ' := by
  obtain ⟨i, z, h1, h2, h3, h4⟩ := zeT_inv hz
  cases vs with
  | cons => simp [sNew] at h0
  | nil =>
    simp only [sNew, Option.some.injEq] at h0
    subst h0
    replace hn := hn (by simp)
    obtain ⟨g1, g2⟩ := row_alloc (P := P) (ty := t) (cap := 0) hs hn (absL_ok (μ := μ) h3) (absL_ok1 h3) (by omega)
    refine ⟨.pointer (some ⟨w.heap.size, 0, none⟩), _, _, ?_, ?_, g1, g2⟩
    · simp [Instr.alloc, h4, newVar, newRow]
    · exact ⟨_, Mu.set_same _ _ _, rfl⟩
theorem box_ok {μ : Mu} {h : Heap} {w : World} {nx n : Nat} {t : TypeId} {vs : List V} {x : Value} {r : Res} (hs : SR P μ h w) (hn : r.nw ≠ [] → μ nx = none) (hv : VRL μ vs [x]) (h0 : sBox nx t n vs = some r) :
    ∃ y w' μ', (Instr.box t x).run P w = .ok y w' ∧ Gave P μ w h nx r y w' μ' := by
  obtain ⟨u, rfl, h1⟩ := hv.inv1
  simp only [sBox] at h0
  split at h0
  · rename_i hc
    cases h0
    replace hn := hn (by simp)
    have ho : ∀ y ∈ u.cells, y.ok1 = true := fun y hy => by simpa using List.all_eq_true.1 hc.2 y hy
    have hu : u ≠ .u := by rintro rfl; have := ho .u (by simp [V.cells]); simp [V.ok1] at this
    obtain ⟨g1, g2⟩ := row_alloc (P := P) (ty := t) (cap := 0) hs hn (h1.cells hu) ho (by omega)
    refine ⟨.pointer (some ⟨w.heap.size, 0, none⟩), _, _, ?_, ?_, g1, g2⟩
    · simp [Instr.box, newVar, newRow]
    · exact ⟨_, Mu.set_same _ _ _, rfl⟩
  · cases h0

/-! ### literals -/
theorem fill_ok {μ : Mu} {place : Nat → Option (Nat × Nat)} : ∀ (ks : List Nat) (pl : List (Nat × Nat)) (vs : List V) (ys : List Value) (cs r : List V) (A : Array Value), ks.map place = pl.map some → VRL μ vs ys → VRL μ cs A.toList →
    (∀ u ∈ cs, u.ok1 = true) → fillD cs pl vs = some r → ∃ B, Instr.fill place A (ks.zip ys) = some B ∧ VRL μ r B.toList ∧ ∀ u ∈ r, u.ok1 = true
  | [], pl, vs, ys, cs, r, A, hp, hv, hc, ho, h => by
    cases pl with
    | cons => simp at hp
    | nil =>
      cases vs with
      | cons => simp [fillD] at h
      | nil =>
        simp [fillD] at h
        subst h
        exact ⟨A, rfl, hc, ho⟩
  | k :: ks, pl, vs, ys, cs, r, A, hp, hv, hc, ho, h => by
    cases pl with
    | nil => simp at hp
    | cons p pl =>
      obtain ⟨off, sz⟩ := p
      simp only [List.map_cons, List.cons.injEq] at hp
      cases vs with
      | nil => simp [fillD] at h
      | cons v vs =>
        cases ys with
        | nil => exact False.elim hv
        | cons y ys =>
          simp only [fillD] at h
          split at h
          · rename_i hcond
            simp only [Option.bind_eq_some_iff] at h
            obtain ⟨c, h1, h2⟩ := h
            have hvo : ∀ u ∈ v.cells, u.ok1 = true := fun y hy => by simpa using List.all_eq_true.1 hcond.2 y hy
            have hu : v ≠ .u := by rintro rfl; have := hvo .u (by simp [V.cells]); simp [V.ok1] at this
            have hyc := hv.1.cells hu
            have hyl : y.cells.size = sz := by rw [← hcond.1, hyc.length]; simp
            have hle := (splice_some h1).1
            have hAl : cs.length = A.size := by rw [hc.length]; simp
            obtain ⟨f1, f2⟩ := Great.foldl_set off y.cells.toList 0 A
            have hzip : y.cells.zipIdx.foldl (fun cs (x : Value × Nat) => cs.setIfInBounds (off + x.2) x.1) A = (y.cells.toList.zipIdx 0).foldl (fun cs (x : Value × Nat) => cs.setIfInBounds (off + x.2) x.1) A := by
              rw [← Array.foldl_toList]; simp
            generalize hB : (y.cells.toList.zipIdx 0).foldl (fun cs (x : Value × Nat) => cs.setIfInBounds (off + x.2) x.1) A = B at *
            have hcB : VRL μ c B.toList := by
              refine VRL.of_get (by rw [splice_len h1, hAl]; simp [f1]) fun j u hj => ?_
              rw [splice_get h1 j] at hj
              have f2j := f2 j
              simp only [Nat.add_zero, Array.length_toList] at f2j
              have hjB : B.toList[j]? = B[j]? := by simp
              rw [hjB, f2j]
              by_cases hin : off ≤ j ∧ j < off + v.cells.length
              · rw [if_pos hin] at hj
                rw [if_pos ⟨hin.1, by rw [hyl, ← hcond.1]; exact hin.2, by omega⟩]
                obtain ⟨z, z1, z2⟩ := hyc.get _ hj
                exact ⟨z, z1, z2⟩
              · rw [if_neg hin] at hj
                rw [if_neg (by rw [hyl, ← hcond.1]; omega)]
                obtain ⟨z, z1, z2⟩ := hc.get _ hj
                exact ⟨z, by simpa using z1, z2⟩
            have hcO : ∀ u ∈ c, u.ok1 = true := by
              intro u hu2
              obtain ⟨j, hj⟩ := List.mem_iff_getElem?.1 hu2
              rw [splice_get h1 j] at hj
              split at hj
              · exact hvo u (List.mem_of_getElem? hj)
              · exact ho u (List.mem_of_getElem? hj)
            obtain ⟨R, e1, e2, e3⟩ := fill_ok ks pl vs ys c r B hp.2 hv.2 hcB hcO h2
            refine ⟨R, ?_, e2, e3⟩
            simp only [List.zip_cons_cons, Instr.fill, hp.1]
            rw [if_neg (by simp [hyl]; omega), hzip]
            exact e1
          · cases h

theorem placesT_ok {fs : Array Field} : ∀ {ks : List Nat} {pl : List (Nat × Nat)}, placesT P fs ks = some pl → ∀ pls : Array (Nat × Nat), pls.toList = fs.toList.map (fun f => (f.offset, P.cellsOf f.type)) → ks.map (pls[·]?) = pl.map some
  | [], pl, h, _, _ => by simp [placesT] at h; subst h; rfl
  | k :: ks, pl, h, pls, hp => by
    simp only [placesT, Option.bind_eq_some_iff, Option.map_eq_some_iff] at h
    obtain ⟨f, h1, s, h2, l, h3, rfl⟩ := h
    simp only [List.map_cons, List.cons.injEq]
    refine ⟨?_, placesT_ok h3 pls hp⟩
    have : pls[k]? = pls.toList[k]? := by simp
    rw [this, hp, List.getElem?_map]
    have e : fs.toList[k]? = some f := by simpa using h1
    rw [e]
    simp [szT_cells h2]
theorem run_mapM_fields {fs : List Field} (h : ∀ f ∈ fs, ∃ s, szT P f.type = some s) (w : World) :
    (fs.mapM (m := Sem) fun f => Prod.mk f.offset <$> sizeOf f.type).run P w = .ok (fs.map fun f => (f.offset, P.cellsOf f.type)) w := by
  induction fs with
  | nil => simp
  | cons f fs ih =>
    obtain ⟨s, hs⟩ := h f (by simp)
    simp [List.mapM_cons, Sem.run_bind, szT_run hs, ih fun g hg => h g (by simp [hg]), szT_cells hs]

theorem agg_build {μ : Mu} {w : World} {t : TypeId} {zs : List V} {z : Value} (hz : absL z.cells.toList = some zs) (hzv : ∀ w : World, (zeroValue t).run P w = .ok z w) : VRL μ zs z.cells.toList ∧ ∀ u ∈ zs, u.ok1 = true := ⟨absL_ok hz, absL_ok1 hz⟩
theorem buildS_ok {μ : Mu} {w : World} {t : TypeId} {fs : Array Field} {zs : List V} {ks : List Nat} {pl : List (Nat × Nat)} {ys : List Value} {vs : List V} {v : V} (hz : zeT P t = some zs) (ht : P.underlying t = some (.struct fs))
    (hp : placesT P fs ks = some pl) (hall : (fs.toList.all fun f => (szT P f.type).isSome) = true) (hv : VRL μ vs ys) (h : (fillD zs pl vs).map .agg = some v) :
    ∃ y, (Instr.build t (ks.zip ys).toArray).run P w = .ok y w ∧ VR μ v y := by
  obtain ⟨i, z, h1, h2, h3, h4⟩ := zeT_inv hz
  simp only [Option.map_eq_some_iff] at h
  obtain ⟨r, hr, rfl⟩ := h
  obtain ⟨B, e1, e2, _⟩ := fill_ok (μ := μ) (place := ((fs.toList.map fun f => (f.offset, P.cellsOf f.type)).toArray[·]?)) ks pl vs ys zs r z.cells (placesT_ok hp _ (by simp)) hv (absL_ok h3) (absL_ok1 h3) hr
  refine ⟨.agg B, ?_, e2⟩
  have hm := run_mapM_fields (P := P) (fs := fs.toList) (fun f hf => Option.isSome_iff_exists.1 (by simpa using List.all_eq_true.1 hall f hf)) w
  simp [Instr.build, h4, run_underlying ht, Array.mapM_eq_mapM_toList, hm]
  simp at e1
  rw [e1]
  simp
theorem buildA_ok {μ : Mu} {w : World} {t e : TypeId} {n s : Nat} {zs : List V} {ks : List Nat} {ys : List Value} {vs : List V} {v : V} (hz : zeT P t = some zs) (ht : P.underlying t = some (.array n e)) (hs : szT P e = some s)
    (hv : VRL μ vs ys) (h : (fillD zs (ks.map fun k => (k * s, s)) vs).map .agg = some v) : ∃ y, (Instr.build t (ks.zip ys).toArray).run P w = .ok y w ∧ VR μ v y := by
  obtain ⟨i, z, h1, h2, h3, h4⟩ := zeT_inv hz
  simp only [Option.map_eq_some_iff] at h
  obtain ⟨r, hr, rfl⟩ := h
  obtain ⟨B, e1, e2, _⟩ := fill_ok (μ := μ) (place := fun i => some (i * s, s)) ks _ vs ys zs r z.cells (by simp) hv (absL_ok h3) (absL_ok1 h3) hr
  refine ⟨.agg B, ?_, e2⟩
  simp [Instr.build, h4, run_underlying ht, szT_run hs, e1]

theorem rep_get (zs : List V) (h0 : zs.length ≠ 0) : ∀ (n j : Nat), j < n * zs.length → (List.replicate n zs).flatten[j]? = zs[j % zs.length]?
  | 0, j, h => by simp at h
  | n + 1, j, h => by
    simp only [List.replicate_succ, List.flatten_cons]
    by_cases hj : j < zs.length
    · rw [List.getElem?_append_left hj, Nat.mod_eq_of_lt hj]
    · rw [List.getElem?_append_right (by omega), rep_get zs h0 n (j - zs.length) (by rw [Nat.add_mul] at h; omega), ← Nat.mod_eq_sub_mod (by omega)]
theorem rep_len (zs : List V) (n : Nat) : (List.replicate n zs).flatten.length = n * zs.length := by
  induction n with
  | zero => simp
  | succ n ih => simp [List.replicate_succ, ih, Nat.add_mul]; omega
theorem rep_ok1 {zs : List V} (h : ∀ u ∈ zs, u.ok1 = true) (n : Nat) : ∀ u ∈ (List.replicate n zs).flatten, u.ok1 = true := by
  intro u hu
  simp only [List.mem_flatten, List.mem_replicate] at hu
  obtain ⟨l, ⟨_, rfl⟩, hl⟩ := hu
  exact h u hl
theorem rep_vr {μ : Mu} {zs : List V} {z : Array Value} (hz : VRL μ zs z.toList) (h0 : zs.length ≠ 0) (n : Nat) : VRL μ (List.replicate n zs).flatten (madeCells z (n * zs.length)).toList := by
  have hl : zs.length = z.size := by rw [hz.length]; simp
  refine VRL.of_get (by rw [rep_len]; simp [size_madeCells]) fun j u hj => ?_
  have hlt : j < n * zs.length := by
    have := (List.getElem?_eq_some_iff.1 hj).1
    rwa [rep_len] at this
  rw [rep_get zs h0 n j hlt] at hj
  obtain ⟨y, h1, h2⟩ := hz.get _ hj
  refine ⟨y, ?_, h2⟩
  have hm : j % z.size < z.size := Nat.mod_lt _ (by omega)
  rw [hl] at h1
  have h1' : z[j % z.size]? = some y := by simpa using h1
  simp only [madeCells, Array.getElem?_toList, Array.getElem?_map, Array.getElem?_range, hlt, if_true, Option.map_some]
  rw [getElem!_pos z _ hm]
  rw [getElem?_pos z _ hm] at h1'
  simpa using h1'

theorem bsl_ok {μ : Mu} {h : Heap} {w : World} {nx n s : Nat} {t e : TypeId} {zs : List V} {ks : List Nat} {ys : List Value} {vs : List V} {r : Res} (hs : SR P μ h w) (hn : r.nw ≠ [] → μ nx = none) (ht : P.underlying t = some (.slice e)) (hsz : szT P e = some s)
    (hz : zeT P e = some zs) (hc : n * s ≤ 16777216 ∧ zs.length = s ∧ s ≠ 0) (hv : VRL μ vs ys) (h0 : sBsl nx e s n zs ks vs = some r) :
    ∃ y w' μ', (Instr.buildSlice t n (ks.zip ys).toArray).run P w = .ok y w' ∧ Gave P μ w h nx r y w' μ' := by
  obtain ⟨i, z, h1, h2, h3, h4⟩ := zeT_inv hz
  obtain ⟨hc1, hc2, hc3⟩ := hc
  subst hc2
  unfold sBsl at h0
  simp only [Option.map_eq_some_iff] at h0
  obtain ⟨cs, hcs, rfl⟩ := h0
  replace hn := hn (by simp)
  have hzr : VRL μ zs z.cells.toList := absL_ok h3
  obtain ⟨B, e1, e2, e3⟩ := fill_ok (μ := μ) (place := fun i => some (i * zs.length, zs.length)) ks _ vs ys _ cs (madeCells z.cells (n * zs.length)) (by simp) hv (rep_vr hzr hc3 n) (rep_ok1 (absL_ok1 h3) n) hcs
  have hBl : cs.length = B.size := by rw [e2.length]; simp
  have hcl : cs.length = n * zs.length := by
    have : ∀ (pl : List (Nat × Nat)) (vs : List V) (c r : List V), fillD c pl vs = some r → r.length = c.length := by
      intro pl
      induction pl with
      | nil => intro vs c r h; cases vs <;> simp [fillD] at h; subst h; rfl
      | cons p pl ih =>
        intro vs c r h
        obtain ⟨off, sz⟩ := p
        cases vs with
        | nil => simp [fillD] at h
        | cons v vs =>
          simp only [fillD] at h
          split at h
          · simp only [Option.bind_eq_some_iff] at h
            obtain ⟨c2, q1, q2⟩ := h
            rw [ih vs c2 r q2, splice_len q1]
          · cases h
    rw [this _ _ _ _ hcs, rep_len]
  obtain ⟨g1, g2⟩ := row_alloc (P := P) (ty := e) (cap := n) hs hn e2 e3 (by rw [szT_cells hsz, ← hBl, hcl]; exact Nat.le_refl _)
  have hi := szT_inv hsz h1
  refine ⟨.slice (some ⟨w.heap.size, 0, none⟩) n n, _, _, ?_, ?_, g1, g2⟩
  · by_cases h00 : n = 0
    · subst h00
      have e1' : Instr.fill (fun i => some (i * zs.length, zs.length)) #[] (ks.zip ys) = some B := by simpa [madeCells, Array.range_zero'] using e1
      simp [Instr.buildSlice, run_underlying ht, szT_run hsz, e1', newRow, Array.range_zero']
    · exact run_buildSlice w t e n _ B i z ht h1 h2 (by rw [hi]; omega) (by rw [hi]; exact Nat.mul_ne_zero h00 hc3) (by rw [hi]; exact e1)
  · exact ⟨_, Mu.set_same _ _ _, rfl, rfl, Nat.le_refl _, Nat.le_refl _, fun _ => rfl, fun _ => Nat.le_refl _⟩
theorem mks_ok {μ : Mu} {h : Heap} {w : World} {nx s b : Nat} {t e : TypeId} {zs : List V} {x c : Value} {vs : List V} {r : Res} (hs : SR P μ h w) (hn : r.nw ≠ [] → μ nx = none) (ht : P.underlying t = some (.slice e)) (hsz : szT P e = some s) (hby : byT P e = some b)
    (hz : zeT P e = some zs) (hc : zs.length = s ∧ s ≠ 0 ∧ b ≠ 0) (hv : VRL μ vs [x, c]) (h0 : sMks nx e b zs vs = some r) :
    ∃ y w' μ', (Instr.makeSlice t x c).run P w = .ok y w' ∧ Gave P μ w h nx r y w' μ' := by
  obtain ⟨i, z, h1, h2, h3, h4⟩ := zeT_inv hz
  obtain ⟨hc2, hc3, hc4⟩ := hc
  subst hc2
  obtain ⟨u, u2, rfl, k1, k2⟩ := hv.inv2
  cases u <;> cases u2 <;> simp only [sMks] at h0 <;> try (cases h0; done)
  obtain rfl := k1.i_inv
  obtain rfl := k2.i_inv
  rename_i k n k' n'
  split at h0
  · rename_i hcond
    obtain ⟨q1, rfl, q2, q3⟩ := hcond
    cases h0
    replace hn := hn (by simp)
    have hi := szT_inv hsz h1
    have hb := byT_inv hby h1
    have hr := run_make (P := P) w t e i z ht h1 h2 k k' n n q1 (Int.le_refl _) (by rw [hb, Int.mul_comm]; exact q2) q3
    rw [hi] at hr
    obtain ⟨g1, g2⟩ := row_alloc (P := P) (ty := e) (cap := n.toNat) hs hn (rep_vr (absL_ok (μ := μ) h3) hc3 n.toNat) (rep_ok1 (absL_ok1 h3) n.toNat) (by rw [szT_cells hsz, size_madeCells]; exact Nat.le_refl _)
    exact ⟨_, _, _, hr, ⟨_, Mu.set_same _ _ _, rfl, rfl, Nat.le_refl _, Nat.le_refl _, fun _ => rfl, fun _ => Nat.le_refl _⟩, g1, g2⟩
  · cases h0

/-! ### bytes and texts -/
theorem bytes_vr {μ : Mu} (l : List UInt8) : VRL μ (l.map fun c => V.i .u8 c.toNat) (l.map fun c => Value.int .u8 c.toNat) := by
  induction l with
  | nil => trivial
  | cons c l ih => exact ⟨⟨rfl, rfl⟩, ih⟩
theorem bytes_ok1 (l : List UInt8) : ∀ u ∈ (l.map fun c => V.i .u8 c.toNat), u.ok1 = true := by
  intro u hu
  obtain ⟨c, _, rfl⟩ := List.mem_map.1 hu
  rfl
theorem cvb_ok {μ : Mu} {h : Heap} {w : World} {nx : Nat} {src dst e : TypeId} {x : Value} {vs : List V} {r : Res} (hs : SR P μ h w) (hn : r.nw ≠ [] → μ nx = none) (hsr : P.underlying src = some .string) (hd : P.underlying dst = some (.slice e)) (he : P.underlying e = some (.int .u8)) (h1c : P.cellsOf e = 1)
    (hv : VRL μ vs [x]) (h0 : sCvb nx e vs = some r) : ∃ y w' μ', (convert src dst x).run P w = .ok y w' ∧ Gave P μ w h nx r y w' μ' := by
  obtain ⟨u, rfl, h1⟩ := hv.inv1
  cases u <;> simp only [sCvb] at h0 <;> try (cases h0; done)
  rename_i l
  split at h0
  · cases h0
    replace hn := hn (by simp)
    obtain rfl := h1.s_inv
    have hr := Lib.run_convert_string_bytes (P := P) w src dst e ⟨l.toArray⟩ hsr hd he
    have hge := grownCap_ge w l.length 0 e
    have hszA : (Lib.bytesCells w e ⟨l.toArray⟩).size = grownCap w l.length 0 e := by
      simp [Lib.bytesCells, size_mk]; omega
    obtain ⟨g1, g2⟩ := row_born (P := P) (w' := Lib.bytesWorld w e ⟨l.toArray⟩) (ty := e) (cap := grownCap w l.length 0 e) hs hn (bytes_vr l) (bytes_ok1 l) (A := Lib.bytesCells w e ⟨l.toArray⟩) (fr := ((Lib.bytesCells w e ⟨l.toArray⟩).size, (Lib.bytesCells w e ⟨l.toArray⟩).size + 1))
      (fun j v hj => by
        have hlt : j < l.length := by have := (List.getElem?_eq_some_iff.1 hj).1; simpa using this
        simp only [Lib.bytesCells]
        rw [Array.getElem?_append_left (by simpa using hlt)]
        simpa using hj)
      (by rw [h1c, hszA]; omega) (fun j hj => by omega) (Lib.bytesWorld_at_new w e _) (Lib.bytesWorld_size w e _) (fun k hk => Lib.bytesWorld_at_old w e _ k hk) rfl rfl rfl
    exact ⟨_, _, _, hr, ⟨_, Mu.set_same _ _ _, rfl, rfl, Nat.le_refl _, hge, fun hq => by simp at hq, fun _ => Nat.le_refl _⟩, g1, g2⟩
  · cases h0

theorem bytesOf_ok {μ : Mu} : ∀ {cs : List V} {vs : List Value} {l : List UInt8}, VRL μ cs vs → bytesOfCells cs = some l → ∃ ns : List Int, vs = ns.map (Value.int .u8) ∧ l = ns.map fun n => UInt8.ofNat n.toNat
  | [], [], l, _, h => by simp [bytesOfCells] at h; subst h; exact ⟨[], rfl, rfl⟩
  | [], _ :: _, _, h, _ => by simp [VRL] at h
  | _ :: _, [], _, h, _ => by simp [VRL] at h
  | c :: cs, v :: vs, l, hv, h => by
    unfold bytesOfCells at h
    split at h
    · rename_i e; cases e
    · rename_i n r e
      cases e
      simp only [Option.map_eq_some_iff] at h
      obtain ⟨l2, h2, rfl⟩ := h
      obtain ⟨ns, rfl, rfl⟩ := bytesOf_ok hv.2 h2
      obtain rfl := hv.1.i_inv
      exact ⟨n :: ns, rfl, rfl⟩
    · cases h
theorem foldl_push (ns : List Int) : ∀ (d : List UInt8), ns.foldl (fun r n => r.push (UInt8.ofNat n.toNat)) (⟨d.toArray⟩ : ByteArray) = ⟨(d ++ ns.map fun n => UInt8.ofNat n.toNat).toArray⟩ := by
  induction ns with
  | nil => intro d; simp
  | cons n ns ih =>
    intro d
    simp only [List.foldl_cons, List.map_cons]
    have : (⟨d.toArray⟩ : ByteArray).push (UInt8.ofNat n.toNat) = ⟨(d ++ [UInt8.ofNat n.toNat]).toArray⟩ := by
      apply ByteArray.ext
      simp [ByteArray.push]
    rw [this, ih]
    simp
theorem cvs_ok {μ : Mu} {h : Heap} {w : World} {src dst e : TypeId} {x : Value} {vs : List V} {bs : List Box} {v : V} (hs : SR P μ h w) (hsr : P.underlying src = some (.slice e)) (he : P.underlying e = some (.int .u8)) (hd : P.underlying dst = some .string)
    (hv : VRL μ vs [x]) (hf : fetch h (LOp.rd .cvs vs) = some bs) (h0 : sCvs vs bs = some v) : ∃ y, (convert src dst x).run P w = .ok y w ∧ VR μ v y := by
  obtain ⟨u, rfl, h1⟩ := hv.inv1
  cases u <;> simp only [sCvs] at h0 <;> try (cases h0; done)
  · rename_i id off len lb ex
    obtain ⟨l, c, hl, rfl, _⟩ := h1.sl_inv
    simp only [LOp.rd, fetch, Option.bind_eq_some_iff, Option.map_eq_some_iff] at hf
    obtain ⟨b, hb, bs', hbs, rfl⟩ := hf
    cases hbs
    cases b with
    | map => simp at h0
    | arr rw_ ty cs =>
      simp only [Option.bind_eq_some_iff, Option.map_eq_some_iff] at h0
      obtain ⟨d, hd2, bl, hbl, rfl⟩ := h0
      obtain ⟨m, e1, e2, e3⟩ := hs.box id _ hb
      rw [hl] at e1
      cases e1
      obtain ⟨vs, k1, k2, k3⟩ := run_loadCells_piece (P := P) e3 hd2
      obtain ⟨ns, rfl, rfl⟩ := bytesOf_ok k1 hbl
      refine ⟨_, ?_, VR.s_mk _⟩
      rw [run_convert_bytes_string w src dst e _ _ _ hsr he hd, run_bytesToString w _ _ _ ns k3]
      congr 2
      exact (foldl_push ns []).trans (by simp)
  · obtain rfl := h1.sn_inv
    cases h0
    refine ⟨.string ⟨#[]⟩, ?_, by simp [VR]⟩
    rw [run_convert_bytes_string w src dst e _ _ _ hsr he hd]
    simp [Conv.bytesToString, Sem.run_pure]
    rfl
end Go.Dm
