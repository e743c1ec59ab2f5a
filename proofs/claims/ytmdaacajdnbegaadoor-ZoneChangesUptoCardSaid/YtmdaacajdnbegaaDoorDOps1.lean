/- The heap under an operation: a new box, a store, a draw; loads and stores of several cells. -/
import Derived.Test.YtmdaacajdnbegaaDoorDRel
import Derived.Laws.Cells
import Derived.Laws.Rows
import Derived.Laws.NewBlocks
namespace Go.Dm
open Go
set_option linter.constructorNameAsVariable false
set_option linter.unnecessarySimpa false
variable {P : Program}

theorem BR.keep {μ μ' : Mu} {w w' : World} {l : Loc} {b : Box} (h : BR P μ w l b) (hx : Ext μ μ') (hk : w'.heap[l.g]? = w.heap[l.g]?) : BR P μ' w' l b := by
  cases b with
  | arr x ty cs =>
    refine ⟨fun j u e => ?_, fun hx2 => ?_⟩
    · obtain ⟨h1, v, h2, h3⟩ := h.1 j u e
      exact ⟨h1, v, by simpa [World.cell?, hk] using h2, VR.mono hx _ _ h3⟩
    · obtain ⟨h1, c, fr, h2, h3⟩ := h.2 hx2
      exact ⟨h1, c, fr, hk.trans h2, h3⟩
  | map es =>
    obtain ⟨ents, ck, h1, h2⟩ := h
    refine ⟨ents, ck, hk.trans h1, ?_⟩
    clear h1 hk
    generalize ents.toList = l at h2
    induction es generalizing l with
    | nil => cases l <;> simp_all [ER]
    | cons x xs ih =>
      cases l with
      | nil => simp [ER] at h2
      | cons y ys =>
        simp only [ER] at h2 ⊢
        exact ⟨VR.mono hx _ _ h2.1, h2.2.1, VR.mono hx _ _ h2.2.2.1, ih _ h2.2.2.2⟩

theorem Low.size' {μ : Mu} {h h' : Heap} {w w' W : World} (l : Low P μ h w W) (hz : w.heap.size ≤ w'.heap.size) (hk : ∀ k, k < W.heap.size → w'.heap[k]? = w.heap[k]?) (ho : ∀ id b m, h' id = some b → b.rw = true → μ id = some m → W.heap.size ≤ m.g) : Low P μ h' w' W :=
  ⟨l.start, Nat.le_trans l.size hz, fun k hk' => by rw [hk k hk', l.same k hk'], ho⟩
theorem SR.heap {μ : Mu} {h : Heap} {w w' : World} (hs : SR P μ h w) (e : w'.heap = w.heap) : SR P μ h w' :=
  ⟨by obtain ⟨W, l⟩ := hs.low; exact ⟨W, l.size' (by rw [e]; exact Nat.le_refl _) (fun _ _ => by rw [e]) l.own⟩, fun id b hb => by obtain ⟨l, h1, h2, h3⟩ := hs.box id b hb; exact ⟨l, h1, by rw [e]; exact h2, h3.keep (Ext.refl _) (by rw [e])⟩, hs.apart⟩
theorem Tr.heap {μ : Mu} {w w' : World} {nx : Nat} (e : w'.heap = w.heap) (e1 : w'.os = w.os) (e2 : w'.tape = w.tape) (e3 : w'.output = w.output) : Tr μ w [] nx nx μ w' :=
  ⟨Ext.refl μ, (fun _ _ h k => by rw [h] at k; cases k), (fun _ _ h k => by rw [h] at k; cases k), e1, e2, e3, by rw [e]; exact Nat.le_refl _, fun _ _ _ => by rw [e]⟩
/-- Less is known. -/
theorem SR.sub {μ : Mu} {h h' : Heap} {w : World} (hs : SR P μ h w) (hh : ∀ id b, h' id = some b → h id = some b) : SR P μ h' w :=
  ⟨by obtain ⟨W, l⟩ := hs.low; exact ⟨W, l.size' (Nat.le_refl _) (fun _ _ => rfl) fun id b m hb => l.own id b m (hh _ _ hb)⟩, fun id b hb => hs.box id b (hh _ _ hb), fun i j b c l m h1 h2 h3 => hs.apart i j b c l m (hh _ _ h1) h2 (hh _ _ h3)⟩

def Mu.set (μ : Mu) (k : Nat) (l : Loc) : Mu := fun j => if j = k then some l else μ j
theorem Mu.ext {μ : Mu} {k : Nat} (l : Loc) (h : μ k = none) : Ext μ (μ.set k l) := by
  intro id m e
  have : id ≠ k := by rintro rfl; rw [h] at e; cases e
  simp [Mu.set, this, e]
@[simp] theorem Mu.set_same (μ : Mu) (k : Nat) (l : Loc) : μ.set k l k = some l := by simp [Mu.set]
theorem Mu.set_ne (μ : Mu) {k j : Nat} (l : Loc) (hj : j ≠ k) : μ.set k l j = μ j := by simp [Mu.set, hj]

/-- A new block, its box. -/
theorem SR.new {μ : Mu} {h : Heap} {w : World} {nx : Nat} (hs : SR P μ h w) (hn : μ nx = none) (l : Loc) (o : Obj) (b : Box) (hg : l.g = w.heap.size)
    (hb : BR P (μ.set nx l) (w.alloc o) l b) : SR P (μ.set nx l) (h.set nx (some b)) (w.alloc o) := by
  have hlow : ∃ W, Low P (μ.set nx l) (h.set nx (some b)) (w.alloc o) W := by
    obtain ⟨W, low⟩ := hs.low
    have hsz : w.heap.size < (w.alloc o).heap.size := by simp
    refine ⟨W, low.start, Nat.le_trans low.size (Nat.le_of_lt hsz), fun k hk => ?_, fun id c m hc hr hm => ?_⟩
    · have := low.size
      rw [heap_alloc_old w o k (by omega)]
      exact low.same k hk
    · by_cases hid : id = nx
      · subst hid
        simp only [Mu.set_same, Option.some.injEq] at hm
        rw [← hm, hg]; exact low.size
      · rw [Heap.set_ne _ _ hid] at hc
        rw [Mu.set_ne _ _ hid] at hm
        exact low.own id c m hc hr hm
  refine ⟨hlow, fun id c hc => ?_, fun i j c d m k h1 h2 h3 h4 h5 h6 => ?_⟩
  · by_cases hid : id = nx
    · subst hid
      simp only [Heap.set_same, Option.some.injEq] at hc
      subst hc
      exact ⟨l, by simp, by simp [hg], hb⟩
    · rw [Heap.set_ne _ _ hid] at hc
      obtain ⟨m, h1, h2, h3⟩ := hs.box id c hc
      exact ⟨m, Mu.ext l hn _ _ h1, by simp; omega, h3.keep (Mu.ext l hn) (heap_alloc_old w o m.g h2)⟩
  · by_cases hi : i = nx
    · subst hi
      have hj : j ≠ i := fun e => h4 e.symm
      rw [Heap.set_ne _ _ hj] at h3
      rw [Mu.set_ne _ _ hj] at h6
      obtain ⟨k', e1, e2, _⟩ := hs.box j d h3
      rw [h6] at e1
      cases e1
      simp only [Mu.set_same, Option.some.injEq] at h5
      subst h5
      omega
    · rw [Heap.set_ne _ _ hi] at h1
      rw [Mu.set_ne _ _ hi] at h5
      by_cases hj : j = nx
      · subst hj
        obtain ⟨k', e1, e2, _⟩ := hs.box i c h1
        rw [h5] at e1
        cases e1
        simp only [Mu.set_same, Option.some.injEq] at h6
        subst h6
        omega
      · rw [Heap.set_ne _ _ hj] at h3
        rw [Mu.set_ne _ _ hj] at h6
        exact hs.apart i j c d m k h1 h2 h3 h4 h5 h6
theorem Tr.alloc {μ : Mu} {w : World} {nx : Nat} (hn : μ nx = none) (l : Loc) (o : Obj) (hg : l.g = w.heap.size) : Tr μ w [] nx (nx + 1) (μ.set nx l) (w.alloc o) := by
  refine ⟨Mu.ext l hn, fun id m h1 h2 => ?_, fun id m h1 h2 => ?_, rfl, rfl, rfl, by simp, fun k hk _ => heap_alloc_old w o k hk⟩
  · by_cases hid : id = nx
    · omega
    · rw [Mu.set_ne _ _ hid, h2] at h1; cases h1
  · by_cases hid : id = nx
    · subst hid
      simp only [Mu.set_same, Option.some.injEq] at h1
      subst h1
      exact .inl (by omega)
    · rw [Mu.set_ne _ _ hid, h2] at h1; cases h1

/-- A row of cells that are there. -/
theorem BR.cells {μ : Mu} {w : World} {l : Loc} {ty : Nat} {cs : List V} {vs : Array Value} {fr : Nat × Nat} (rw_ : Bool) (hg : w.heap[l.g]? = some (.cells vs ty fr)) (hfr : Free fr vs.size) (ho : l.o = 0)
    (hv : ∀ (j : Nat) u, cs[j]? = some u → u.ok1 = true ∧ ∃ v, vs[j]? = some v ∧ VR μ u v) (hc : l.cap * P.cellsOf ty ≤ vs.size) : BR P μ w l (.arr rw_ ty cs) :=
  ⟨fun j u e => by obtain ⟨h1, v, h2, h3⟩ := hv j u e; exact ⟨h1, v, by rw [ho, Nat.zero_add, cell_of_row w l.g j vs ty fr hg]; exact h2, h3⟩, fun _ => ⟨ho, vs, fr, hg, hfr, hc⟩⟩

theorem cut_some {cs c : List V} {off n : Nat} (h : cut cs off n = some c) : off + n ≤ cs.length ∧ c = (cs.drop off).take n := by
  unfold cut at h; split at h
  · rename_i h1; exact ⟨h1, (Option.some.inj h).symm⟩
  · cases h
theorem cut_len {cs c : List V} {off n : Nat} (h : cut cs off n = some c) : c.length = n := by
  obtain ⟨h1, rfl⟩ := cut_some h; simp; omega
theorem cut_get {cs c : List V} {off n : Nat} (h : cut cs off n = some c) (j : Nat) (hj : j < n) : c[j]? = cs[off + j]? := by
  obtain ⟨_, rfl⟩ := cut_some h
  rw [List.getElem?_take_of_lt hj, List.getElem?_drop]

/-- The values that stand for a piece of a box. -/
theorem BR.piece {μ : Mu} {w : World} {l : Loc} {x : Bool} {ty : Nat} {cs c : List V} {off n : Nat} (hb : BR P μ w l (.arr x ty cs)) (hc : cut cs off n = some c) :
    ∃ vs : List Value, VRL μ c vs ∧ vs.length = n ∧ (∀ u ∈ c, u.ok1 = true) ∧ ∀ j v, vs[j]? = some v → w.cell? ⟨l.g, l.o + off + j, none⟩ = some v := by
  have hl := cut_len hc
  have key : ∀ m, m ≤ n → ∃ vs : List Value, VRL μ (c.take m) vs ∧ vs.length = m ∧ ∀ j v, vs[j]? = some v → w.cell? ⟨l.g, l.o + off + j, none⟩ = some v := by
    intro m
    induction m with
    | zero => intro _; exact ⟨[], by simp [VRL], rfl, fun j v h => by simp at h⟩
    | succ m ih =>
      intro hm
      obtain ⟨vs, h1, h2, h3⟩ := ih (by omega)
      have hcm : c[m]? = some (c[m]'(by omega)) := List.getElem?_eq_getElem _
      have hcs := (cut_get hc m (by omega)).symm.trans hcm
      obtain ⟨_, v, e1, e2⟩ := hb.1 _ _ hcs
      refine ⟨vs ++ [v], ?_, by simp [h2], fun j u hj => ?_⟩
      · rw [List.take_add_one, hcm]
        exact VRL.append h1 ⟨e2, trivial⟩
      · rcases Nat.lt_or_ge j m with hlt | hge
        · rw [List.getElem?_append_left (by omega)] at hj
          exact h3 j u hj
        · rw [List.getElem?_append_right (by omega)] at hj
          have hjm : j = m := by
            have := (List.getElem?_eq_some_iff.1 hj).1
            simp at this
            omega
          subst hjm
          simp [h2] at hj
          subst hj
          rw [Nat.add_assoc]; exact e1
  obtain ⟨vs, h1, h2, h3⟩ := key n (Nat.le_refl _)
  refine ⟨vs, by rwa [List.take_of_length_le (by omega)] at h1, h2, fun u hu => ?_, h3⟩
  obtain ⟨j, hj⟩ := List.mem_iff_getElem?.1 hu
  have hjl := (List.getElem?_eq_some_iff.1 hj).1
  exact (hb.1 _ _ ((cut_get hc j (by omega)).symm.trans hj)).1

theorem addr_add (g o n : Nat) : (⟨g, o, none⟩ : Addr).add n = ⟨g, o + n, none⟩ := by unfold Addr.add; split <;> simp_all

theorem run_loadCells_piece {μ : Mu} {w : World} {l : Loc} {x : Bool} {ty : Nat} {cs c : List V} {off n : Nat} (hb : BR P μ w l (.arr x ty cs)) (hc : cut cs off n = some c) :
    ∃ vs : List Value, VRL μ c vs ∧ (∀ u ∈ c, u.ok1 = true) ∧ (loadCells ⟨l.g, l.o + off, none⟩ n).run P w = .ok vs.toArray w := by
  obtain ⟨vs, h1, h2, h3, h4⟩ := hb.piece hc
  refine ⟨vs, h1, h3, ?_⟩
  have := run_loadCells_list (P := P) (w := w) ⟨l.g, l.o + off, none⟩ vs (fun j v hj => by rw [addr_add]; exact h4 j v hj)
  rwa [h2] at this

theorem agT_run {t : TypeId} {g : Bool} (h : agT P t = some g) (w : World) : (isAgg t).run P w = .ok g w := by
  unfold agT at h
  unfold isAgg underlying
  cases hu : P.underlying t with
  | none => rw [hu] at h; cases h
  | some d => rw [hu] at h; cases d <;> simp_all [Sem.run_bind]
theorem szT_run {t : TypeId} {n : Nat} (h : szT P t = some n) (w : World) : (sizeOf t).run P w = .ok n w := by
  unfold szT at h
  unfold sizeOf typeInfo
  cases hu : P.info? t with
  | none => rw [hu] at h; cases h
  | some d => rw [hu] at h; simp_all [Sem.run_bind]

/-- A load. -/
theorem load_ok {μ : Mu} {w : World} {l : Loc} {rw_ : Bool} {ty : Nat} {cs c : List V} {off n : Nat} {t : TypeId} {g : Bool} {v : V} (hb : BR P μ w l (.arr rw_ ty cs)) (hc : cut cs off n = some c)
    (hg : agT P t = some g) (hn : szT P t = some n) (ho : one g n c = some v) : ∃ x, (loadVar t ⟨l.g, l.o + off, none⟩).run P w = .ok x w ∧ VR μ v x := by
  obtain ⟨vs, h1, h2, h3, h4⟩ := hb.piece hc
  unfold loadVar one at *
  cases g with
  | true =>
    simp only [if_true, Option.some.injEq] at ho
    subst ho
    have h5 := run_loadCells_list (P := P) (w := w) ⟨l.g, l.o + off, none⟩ vs (fun j v hj => by rw [addr_add]; exact h4 j v hj)
    rw [h2] at h5
    refine ⟨.agg vs.toArray, ?_, by simpa [VR] using h1⟩
    simp [Sem.run_bind, agT_run hg, szT_run hn, h5]
  | false =>
    simp only [Bool.false_eq_true, if_false] at ho
    split at ho
    · rename_i hn1
      subst hn1
      match c, vs, h1, h2, ho with
      | u :: _, y :: [], h1, _, ho =>
        simp at ho
        subst ho
        have h5 := h4 0 y rfl
        refine ⟨y, ?_, h1.1⟩
        simp [Sem.run_bind, agT_run hg, h5, load, Sem.run] at h5 ⊢
    · cases ho
theorem heap_setCell_at (w : World) (g i : Nat) (cs : Array Value) (t : TypeId) (fr : Nat × Nat) (v : Value) (hg : w.heap[g]? = some (.cells cs t fr)) :
    (w.setCell ⟨g, i, none⟩ v).heap[g]? = some (.cells (cs.setIfInBounds i v) t fr) := by
  have hlt : g < w.heap.size := (Array.getElem?_eq_some_iff.1 hg).1
  have hge := (Array.getElem?_eq_some_iff.1 hg).2
  simp [World.setCell, Array.getElem?_modify, hg]
theorem frozen_at (w : World) (g j : Nat) (cs : Array Value) (t : TypeId) (fr : Nat × Nat) (hg : w.heap[g]? = some (.cells cs t fr)) (hf : Free fr cs.size) (hj : j < cs.size) : w.frozen? ⟨g, j, none⟩ = false := by
  have := hf j hj
  obtain ⟨lo, hi⟩ := fr
  simp only [World.frozen?, hg]
  simp at this ⊢
  omega
theorem run_store1 (w : World) (g off : Nat) (c : Array Value) (ty : TypeId) (fr : Nat × Nat) (v : Value) (hg : w.heap[g]? = some (.cells c ty fr)) (hfr : Free fr c.size) (ho : off < c.size) (hv : v.oneCell' = true) :
    (store ⟨g, off, none⟩ v).run P w = .ok () (w.setCell ⟨g, off, none⟩ v) := by
  have hc : w.cell? ⟨g, off, none⟩ = some (c[off]'ho) := by rw [cell_of_row w g off c ty fr hg]; exact Array.getElem?_eq_getElem ho
  have hf : w.frozen? ⟨g, off, none⟩ = false := frozen_at w g off c ty fr hg hfr ho
  unfold store
  cases v <;> simp [Value.oneCell'] at hv <;> simp [Sem.run, hc, hf]

theorem run_storeCells (g : Nat) (ty : TypeId) (fr : Nat × Nat) : ∀ (vs : List Value) (w : World) (off i : Nat) (c : Array Value), w.heap[g]? = some (.cells c ty fr) → Free fr c.size → off + i + vs.length ≤ c.size → (∀ v ∈ vs, v.oneCell' = true) →
    ∃ w' c', (storeCells ⟨g, off, none⟩ vs i).run P w = .ok () w' ∧ w'.heap[g]? = some (.cells c' ty fr) ∧ c'.size = c.size ∧
      (∀ j : Nat, c'[j]? = if off + i ≤ j ∧ j < off + i + vs.length then vs[j - (off + i)]? else c[j]?) ∧ (∀ k, k ≠ g → w'.heap[k]? = w.heap[k]?) ∧ w'.heap.size = w.heap.size ∧
      w'.os = w.os ∧ w'.tape = w.tape ∧ w'.output = w.output
  | [], w, off, i, c, hg, _, _, _ => ⟨w, c, rfl, hg, rfl, fun j => by rw [if_neg (by simp)], fun _ _ => rfl, rfl, rfl, rfl, rfl⟩
  | v :: vs, w, off, i, c, hg, hfr, hl, hv => by
    simp only [List.length_cons] at hl
    have h1 := run_store1 (P := P) w g (off + i) c ty fr v hg hfr (by omega) (hv v (by simp))
    have hg1 : (w.setCell ⟨g, off + i, none⟩ v).heap[g]? = some (.cells (c.setIfInBounds (off + i) v) ty fr) := heap_setCell_at w g (off + i) c ty fr v hg
    obtain ⟨w', c', e1, e2, e3, e4, e5, e6, e7, e8, e9⟩ := run_storeCells g ty fr vs (w.setCell ⟨g, off + i, none⟩ v) off (i + 1) (c.setIfInBounds (off + i) v) hg1 (by simpa using hfr) (by simp; omega) (fun u hu => hv u (by simp [hu]))
    refine ⟨w', c', ?_, e2, by simpa using e3, fun j => ?_, fun k hk => ?_, by simpa [World.setCell] using e6, e7, e8, e9⟩
    · unfold storeCells
      simp only [addr_add, Sem.run_bind, h1, Result.andThen_ok]
      exact e1
    · rw [e4 j]
      by_cases hj : j = off + i
      · subst hj
        rw [if_neg (by omega), if_pos (by simp)]
        simp [show off + i < c.size by omega]
      · by_cases hj2 : off + i + 1 ≤ j ∧ j < off + (i + 1) + vs.length
        · rw [if_pos (by omega), if_pos (by simp; omega), show j - (off + i) = (j - (off + (i + 1))) + 1 by omega, List.getElem?_cons_succ]
        · rw [if_neg (by omega), if_neg (by simp; omega), Array.getElem?_setIfInBounds_ne (Ne.symm hj)]
    · rw [e5 k hk]
      exact heap_setCell_other w _ k v hk

theorem VRL.one {μ : Mu} : ∀ {v : List V} {x : List Value}, VRL μ v x → (∀ u ∈ v, u.ok1 = true) → ∀ y ∈ x, y.oneCell' = true
  | [], [], _, _, _, h => by simp at h
  | [], _ :: _, h, _, _, _ => by simp [VRL] at h
  | _ :: _, [], h, _, _, _ => by simp [VRL] at h
  | v :: vs, x :: xs, h, hk, y, hy => by
    simp only [VRL] at h
    rcases List.mem_cons.1 hy with rfl | hy
    · have := h.1.one (hk v (by simp))
      cases y <;> simp_all [Value.oneCell']
    · exact VRL.one h.2 (fun u hu => hk u (by simp [hu])) y hy

theorem splice_some {cs new c : List V} {off : Nat} (h : splice cs off new = some c) : off + new.length ≤ cs.length ∧ c = cs.take off ++ new ++ cs.drop (off + new.length) := by
  unfold splice at h; split at h
  · rename_i h1; exact ⟨h1, (Option.some.inj h).symm⟩
  · cases h
theorem splice_len {cs new c : List V} {off : Nat} (h : splice cs off new = some c) : c.length = cs.length := by
  obtain ⟨h1, rfl⟩ := splice_some h; simp; omega
theorem splice_get {cs new c : List V} {off : Nat} (h : splice cs off new = some c) (j : Nat) : c[j]? = if off ≤ j ∧ j < off + new.length then new[j - off]? else cs[j]? := by
  obtain ⟨h1, rfl⟩ := splice_some h
  by_cases hj : j < off
  · rw [if_neg (by omega), List.append_assoc, List.getElem?_append_left (by simp; omega), List.getElem?_take_of_lt hj]
  · rw [List.append_assoc, List.getElem?_append_right (by simp; omega)]
    have ht : (cs.take off).length = off := by simp; omega
    rw [ht]
    by_cases hj2 : j < off + new.length
    · rw [if_pos (by omega), List.getElem?_append_left (by omega)]
    · rw [if_neg (by omega), List.getElem?_append_right (by omega), List.getElem?_drop]
      congr 1; omega

/-- What a store leaves. -/
theorem SR.set {μ : Mu} {h : Heap} {w w' : World} {id : Nat} {l : Loc} {b b' : Box} (hs : SR P μ h w) (hid : h id = some b) (hr : b.rw = true) (hl : μ id = some l) (hb : BR P μ w' l b')
    (hk : ∀ k, k ≠ l.g → w'.heap[k]? = w.heap[k]?) (hz : w'.heap.size = w.heap.size) : SR P μ (h.set id (some b')) w' := by
  have hlow : ∃ W, Low P μ (h.set id (some b')) w' W := by
    obtain ⟨W, low⟩ := hs.low
    have hlg := low.own id b l hid hr hl
    refine ⟨W, low.start, by rw [hz]; exact low.size, fun k hk' => ?_, fun j c m hc hr' hm => ?_⟩
    · rw [hk k (by omega)]; exact low.same k hk'
    · by_cases hj : j = id
      · subst hj
        rw [hl] at hm; cases hm; exact hlg
      · rw [Heap.set_ne _ _ hj] at hc
        exact low.own j c m hc hr' hm
  refine ⟨hlow, fun j c hc => ?_, fun i j c d m k h1 h2 h3 h4 h5 h6 => ?_⟩
  · by_cases hj : j = id
    · subst hj
      simp only [Heap.set_same, Option.some.injEq] at hc
      subst hc
      obtain ⟨m, e1, e2, _⟩ := hs.box j b hid
      rw [hl] at e1
      cases e1
      exact ⟨l, hl, by omega, hb⟩
    · rw [Heap.set_ne _ _ hj] at hc
      obtain ⟨m, e1, e2, e3⟩ := hs.box j c hc
      exact ⟨m, e1, by omega, e3.keep (Ext.refl _) (hk _ fun e => hs.apart id j b c l m hid hr hc (Ne.symm hj) hl e1 e.symm)⟩
  · by_cases hi : i = id
    · subst hi
      rw [Heap.set_ne _ _ (Ne.symm h4)] at h3
      exact hs.apart i j b d m k hid hr h3 h4 h5 h6
    · rw [Heap.set_ne _ _ hi] at h1
      by_cases hj : j = id
      · subst hj
        exact hs.apart i j c b m k h1 h2 hid h4 h5 h6
      · rw [Heap.set_ne _ _ hj] at h3
        exact hs.apart i j c d m k h1 h2 h3 h4 h5 h6
theorem Tr.set {μ : Mu} {w w' : World} {id nx : Nat} {l : Loc} (hl : μ id = some l) (hk : ∀ k, k ≠ l.g → w'.heap[k]? = w.heap[k]?) (hz : w'.heap.size = w.heap.size) (e1 : w'.os = w.os) (e2 : w'.tape = w.tape) (e3 : w'.output = w.output) :
    Tr μ w [id] nx nx μ w' :=
  ⟨Ext.refl μ, (fun _ _ h k => by rw [h] at k; cases k), (fun _ _ h k => by rw [h] at k; cases k), e1, e2, e3, by omega, fun k _ hc => hk k fun e => hc ⟨id, by simp, l, hl, e.symm⟩⟩

/-- A store. -/
theorem store_ok {μ : Mu} {h : Heap} {w : World} {id : Nat} {l : Loc} {ty : Nat} {cs c : List V} {off n nx : Nat} {t : TypeId} {v : V} {x : Value} (hs : SR P μ h w) (hid : h id = some (.arr true ty cs)) (hl : μ id = some l)
    (hx : VR μ v x) (hv : v.cells.length = n) (ho : v.cells.all V.ok1 = true) (hn : szT P t = some n) (hc : splice cs off v.cells = some c) :
    ∃ w', (storeVar t ⟨l.g, l.o + off, none⟩ x).run P w = .ok () w' ∧ SR P μ (h.set id (some (.arr true ty c))) w' ∧ Tr μ w [id] nx nx μ w' := by
  have hu : v ≠ .u := by rintro rfl; simp [V.cells, V.ok1] at ho
  have hxc := hx.cells hu
  have ho' : ∀ u ∈ v.cells, u.ok1 = true := fun u hu => by simpa using List.all_eq_true.1 ho u hu
  obtain ⟨m, e1, e2, e3⟩ := hs.box id _ hid
  rw [hl] at e1
  cases e1
  obtain ⟨hlo, vs, fr, hg, hfr, hcap⟩ := e3.2 rfl
  have hle := (splice_some hc).1
  have hcs : cs.length ≤ vs.size := by
    rcases Nat.lt_or_ge vs.size cs.length with hlt | hge
    · have hlt2 : vs.size < cs.length := hlt
      obtain ⟨_, y, h1, _⟩ := e3.1 vs.size _ (List.getElem?_eq_getElem hlt2)
      rw [hlo, Nat.zero_add, cell_of_row w l.g _ vs ty fr hg] at h1
      simp at h1
    · exact hge
  have hxl : x.cells.toList.length = v.cells.length := hxc.length.symm
  obtain ⟨w', c', f1, f2, f3, f4, f5, f6, f7, f8, f9⟩ := run_storeCells (P := P) l.g ty fr x.cells.toList w (l.o + off) 0 vs hg hfr (by omega) (hxc.one ho')
  refine ⟨w', ?_, hs.set hid rfl hl (BR.cells true f2 (by rw [f3]; exact hfr) hlo (fun j u hj => ?_) (by omega)) f5 f6, Tr.set hl f5 f6 f7 f8 f9⟩
  · unfold storeVar
    have hz : x.cells.size = n := by rw [← hv, ← hxl]; simp
    simp [Sem.run_bind, szT_run hn, hz, f1]
  · rw [splice_get hc j] at hj
    have f4j := f4 j
    simp only [hlo, Nat.zero_add, Nat.add_zero, hxl] at f4j
    split at hj
    · rename_i hr
      rw [if_pos hr] at f4j
      obtain ⟨y, g1, g2⟩ := hxc.get _ hj
      exact ⟨ho' u (List.mem_of_getElem? hj), y, by rw [f4j]; exact g1, g2⟩
    · rename_i hr
      rw [if_neg hr] at f4j
      obtain ⟨g0, y, g1, g2⟩ := e3.1 j u hj
      rw [hlo, Nat.zero_add, cell_of_row w l.g _ vs ty fr hg] at g1
      exact ⟨g0, y, by rw [f4j]; exact g1, g2⟩
end Go.Dm
