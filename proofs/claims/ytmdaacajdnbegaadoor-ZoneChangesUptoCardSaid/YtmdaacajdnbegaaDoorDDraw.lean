/- A region of open order: whichever order is drawn, what the machine reckons in the listed order is what comes of it. -/
import Derived.Test.YtmdaacajdnbegaaDoorDReg
import Derived.Orders
namespace Go.Dm
open Go
set_option linter.constructorNameAsVariable false
set_option linter.unnecessarySimpa false
set_option linter.unusedSimpArgs false
variable {P : Program}

/-! ### the machine's run, step by step -/
def Did.hit (d : Did) (j : Nat) : Prop := (d.lo ≤ j ∧ j < d.hi) ∨ j ∈ d.wr
structure StepRan (cf : CallF) (o : IOper) (m : Nat) (ds : List Did) (fr : Fr) (st : St) (d : Did) (fr1 : Fr) (st2 : St) (v : V) (st1 : St) : Prop where
  run : opX cf o.op fr { h := fun j => if seenBy m ds 0 j then st.h j else none, nx := st.nx, wl := [] } = some (v, st1)
  free : freeOf m st1.wl ds 0 = true
  ok : okW (lightD o.op fr).1 (lightD o.op fr).2 (fun j => if seenBy m ds 0 j then st.h j else none) st1.wl = true
  did : d = { light := (lightD o.op fr).1, rd := (lightD o.op fr).2, wr := st1.wl, lo := st.nx, hi := st1.nx }
  fr1 : fr1 = putD fr o.dst v
  h : st2.h = fun j => if (st.nx ≤ j ∧ j < st1.nx) ∨ st1.wl.contains j = true then st1.h j else st.h j
  nx : st2.nx = st1.nx
  wl : st2.wl = st1.wl ++ st.wl
def StepD (cf : CallF) (o : IOper) (m : Nat) (ds : List Did) (fr : Fr) (st : St) (d : Did) (fr1 : Fr) (st2 : St) : Prop :=
  (wantedD o fr = some true ∧ ∃ v st1, StepRan cf o m ds fr st d fr1 st2 v st1) ∨
  (wantedD o fr = some false ∧ d = { light := true, rd := [], wr := [], lo := st.nx, hi := st.nx } ∧ fr1 = putD fr o.dst .u ∧ st2 = st)

theorem drawX_seq {cf : CallF} : ∀ (ios : List IOper) (bm : List Nat) (ds : List Did) (fr : Fr) (st : St) (fr' : Fr) (st' : St), drawX cf ios bm ds fr st = some (fr', st') →
    ∃ (F : Nat → Fr) (S : Nat → St) (D : Nat → Did), F 0 = fr ∧ S 0 = st ∧ F ios.length = fr' ∧ S ios.length = st' ∧
      ∀ i o, ios[i]? = some o → StepD cf o (bm.getD i 0) (ds ++ (List.range i).map D) (F i) (S i) (D i) (F (i + 1)) (S (i + 1))
  | [], bm, ds, fr, st, fr', st', h => by
    simp only [drawX, Option.some.injEq, Prod.mk.injEq] at h
    obtain ⟨rfl, rfl⟩ := h
    exact ⟨fun _ => fr, fun _ => st, fun _ => ⟨true, [], [], 0, 0⟩, rfl, rfl, rfl, rfl, fun i o hi => by simp at hi⟩
  | o :: ios, bm, ds, fr, st, fr', st', h => by
    simp only [drawX, Option.bind_eq_some_iff] at h
    obtain ⟨b, hb, h⟩ := h
    have cons : ∀ (d0 : Did) (fr1 : Fr) (st1 : St), StepD cf o (bm.headD 0) ds fr st d0 fr1 st1 → drawX cf ios bm.tail (ds ++ [d0]) fr1 st1 = some (fr', st') →
        ∃ (F : Nat → Fr) (S : Nat → St) (D : Nat → Did), F 0 = fr ∧ S 0 = st ∧ F (o :: ios).length = fr' ∧ S (o :: ios).length = st' ∧
          ∀ i o', (o :: ios)[i]? = some o' → StepD cf o' (bm.getD i 0) (ds ++ (List.range i).map D) (F i) (S i) (D i) (F (i + 1)) (S (i + 1)) := by
      intro d0 fr1 st1 hs hr
      obtain ⟨F, S, D, e1, e2, e3, e4, e5⟩ := drawX_seq ios bm.tail (ds ++ [d0]) fr1 st1 fr' st' hr
      refine ⟨fun i => match i with | 0 => fr | k + 1 => F k, fun i => match i with | 0 => st | k + 1 => S k, fun i => match i with | 0 => d0 | k + 1 => D k, rfl, rfl, e3, e4, fun i o' hi => ?_⟩
      cases i with
      | zero =>
        simp only [List.getElem?_cons_zero, Option.some.injEq] at hi
        subst hi
        have : bm.getD 0 0 = bm.headD 0 := by cases bm <;> rfl
        simp only [this, e1, e2, List.range_zero, List.map_nil, List.append_nil]
        exact hs
      | succ k =>
        simp only [List.getElem?_cons_succ] at hi
        have := e5 k o' hi
        have hbm : bm.getD (k + 1) 0 = bm.tail.getD k 0 := by cases bm <;> simp [List.getD]
        rw [hbm, List.range_succ_eq_map]
        simpa [List.append_assoc, Function.comp_def] using this
    split at h
    · rename_i hbt
      subst hbt
      simp only [Option.bind_eq_some_iff] at h
      obtain ⟨⟨v, st1⟩, h1, h2⟩ := h
      split at h2
      · rename_i hc
        simp only [Bool.and_eq_true] at hc
        refine cons _ _ _ (.inl ⟨hb, v, st1, ?_⟩) h2
        exact ⟨h1, hc.1, hc.2, rfl, rfl, rfl, rfl, rfl⟩
      · cases h2
    · rename_i hbt
      have hbf : b = false := by simpa using hbt
      subst hbf
      exact cons _ _ _ (.inr ⟨hb, rfl, rfl, rfl⟩) h

theorem seenBy_get {m : Nat} : ∀ (ds : List Did) (k j : Nat), seenBy m ds k j = true → ∀ q d, ds[q]? = some d → d.hit j → Nat.testBit m (k + q) = true
  | [], _, _, _, q, d, hq, _ => by simp at hq
  | d0 :: ds, k, j, h, q, d, hq, hd => by
    simp only [seenBy, Bool.and_eq_true, Bool.or_eq_true] at h
    cases q with
    | zero =>
      simp only [List.getElem?_cons_zero, Option.some.injEq] at hq
      subst hq
      rcases h.1 with h1 | h1
      · exact h1
      · exfalso
        simp only [Bool.not_eq_true', Bool.or_eq_false_iff, decide_eq_false_iff_not, List.contains_eq_mem, List.elem_eq_mem] at h1
        rcases hd with hd | hd
        · exact h1.1 hd
        · simp [hd] at h1
    | succ q =>
      simp only [List.getElem?_cons_succ] at hq
      have := seenBy_get ds (k + 1) j h.2 q d hq hd
      rwa [show k + 1 + q = k + (q + 1) by omega] at this
theorem freeOf_get {m : Nat} {wr : List Nat} : ∀ (ds : List Did) (k : Nat), freeOf m wr ds k = true → ∀ q d, ds[q]? = some d → Nat.testBit m (k + q) = false → ∀ j ∈ wr, d.light = true ∧ j ∉ d.rd ∧ ¬ d.hit j
  | [], _, _, q, d, hq, _, _, _ => by simp at hq
  | d0 :: ds, k, h, q, d, hq, hm, j, hj => by
    simp only [freeOf, Bool.and_eq_true, Bool.or_eq_true] at h
    cases q with
    | zero =>
      simp only [List.getElem?_cons_zero, Option.some.injEq] at hq
      subst hq
      rcases h.1 with (h1 | h1) | h1
      · rw [Nat.add_zero] at hm; rw [h1] at hm; cases hm
      · rw [List.isEmpty_iff] at h1; rw [h1] at hj; simp at hj
      · have := List.all_eq_true.1 h1.2 j hj
        simp only [Bool.and_eq_true, Bool.not_eq_true', decide_eq_false_iff_not, List.contains_eq_mem, decide_eq_false_iff_not] at this
        refine ⟨h1.1, ?_, ?_⟩
        · simpa using this.1.1
        · rintro (hq | hq)
          · exact this.1.2 hq
          · have h5 := this.2; simp [hq] at h5
    | succ q =>
      simp only [List.getElem?_cons_succ] at hq
      exact freeOf_get ds (k + 1) h.2 q d hq (by rwa [show k + 1 + q = k + (q + 1) by omega]) j hj
theorem okW_get {light : Bool} {rd : List Nat} {h : Heap} {wl : List Nat} (hw : okW light rd h wl = true) : ∀ j ∈ wl, (∃ b, h j = some b ∧ b.rw = true) ∧ (light = true → j ∈ rd) := by
  intro j hj
  have := List.all_eq_true.1 hw j hj
  simp only [Bool.and_eq_true, Bool.or_eq_true] at this
  constructor
  · cases hh : h j with
    | none => rw [hh] at this; simp at this
    | some b => rw [hh] at this; exact ⟨b, rfl, this.1⟩
  · intro hl
    rcases this.2 with h2 | h2
    · simp [hl] at h2
    · simpa using h2

/-! ### the static checks -/
theorem edgesOK_get : ∀ (ops : List Oper) (k : Nat), edgesOK ops k = true → ∀ i o, ops[i]? = some o → ∀ e ∈ o.after.toList, Region.binds .any e = true → e.on < k + i
  | [], _, _, i, o, hi, _, _, _ => by simp at hi
  | o0 :: ops, k, h, i, o, hi, e, he, hb => by
    simp only [edgesOK, Bool.and_eq_true] at h
    cases i with
    | zero =>
      simp only [List.getElem?_cons_zero, Option.some.injEq] at hi
      subst hi
      have := List.all_eq_true.1 h.1 e he
      simpa [hb] using this
    | succ i =>
      simp only [List.getElem?_cons_succ] at hi
      have := edgesOK_get ops (k + 1) h.2 i o hi e he hb
      omega
theorem setBy_get {m i t : Nat} : ∀ (l : List IOper) (k : Nat), setBy m i t l k = true → ∀ j p, l[j]? = some p → p.dst = some t → k + j < i ∧ Nat.testBit m (k + j) = true
  | [], _, _, j, p, hj, _ => by simp at hj
  | p0 :: l, k, h, j, p, hj, hp => by
    simp only [setBy, Bool.and_eq_true, Bool.or_eq_true] at h
    cases j with
    | zero =>
      simp only [List.getElem?_cons_zero, Option.some.injEq] at hj
      subst hj
      rcases h.1 with h1 | h1
      · simp [hp] at h1
      · simpa using h1
    | succ j =>
      simp only [List.getElem?_cons_succ] at hj
      have := setBy_get l (k + 1) h.2 j p hj hp
      rwa [show k + 1 + j = k + (j + 1) by omega] at this
theorem usesOK_get {all : List IOper} : ∀ (l : List IOper) (bm : List Nat) (k : Nat), usesOK all l bm k = true → ∀ i o, l[i]? = some o → ∀ t ∈ uses o, setBy (bm.getD i 0) (k + i) t all 0 = true
  | [], _, _, _, i, o, hi, _, _ => by simp at hi
  | o0 :: l, bm, k, h, i, o, hi, t, ht => by
    simp only [usesOK, Bool.and_eq_true] at h
    cases i with
    | zero =>
      simp only [List.getElem?_cons_zero, Option.some.injEq] at hi
      subst hi
      have := List.all_eq_true.1 h.1 t ht
      have e : bm.getD 0 0 = bm.headD 0 := by cases bm <;> rfl
      rw [e]
      exact this
    | succ i =>
      simp only [List.getElem?_cons_succ] at hi
      have := usesOK_get l bm.tail (k + 1) h.2 i o hi t ht
      have e : bm.getD (i + 1) 0 = bm.tail.getD i 0 := by cases bm <;> simp [List.getD]
      rw [e, show k + (i + 1) = k + 1 + i by omega]
      exact this
theorem dstsOK_get : ∀ (l : List IOper), dstsOK l = true → ∀ (i j : Nat) (o p : IOper) (d : Nat), l[i]? = some o → l[j]? = some p → o.dst = some d → p.dst = some d → i = j
  | [], _, i, j, o, p, d, hi, _, _, _ => by simp at hi
  | o0 :: l, h, i, j, o, p, d, hi, hj, ho, hp => by
    simp only [dstsOK, Bool.and_eq_true] at h
    cases i with
    | zero =>
      cases j with
      | zero => rfl
      | succ j =>
        simp only [List.getElem?_cons_zero, Option.some.injEq, List.getElem?_cons_succ] at hi hj
        subst hi
        have h1 := h.1
        rw [ho] at h1
        have := List.all_eq_true.1 h1 p (List.mem_of_getElem? hj)
        simp [hp] at this
    | succ i =>
      cases j with
      | zero =>
        simp only [List.getElem?_cons_zero, Option.some.injEq, List.getElem?_cons_succ] at hi hj
        subst hj
        have h1 := h.1
        rw [hp] at h1
        have := List.all_eq_true.1 h1 o (List.mem_of_getElem? hi)
        simp [ho] at this
      | succ j =>
        simp only [List.getElem?_cons_succ] at hi hj
        rw [dstsOK_get l h.2 i j o p d hi hj ho hp]

theorem bef1_bit {acc : List Nat} : ∀ {es : List Edge} {k : Nat}, Nat.testBit (bef1 acc es) k = true → ∃ e ∈ es, Region.binds .any e = true ∧ (e.on = k ∨ Nat.testBit (acc.getD e.on 0) k = true)
  | [], k, h => by simp [bef1] at h
  | e :: es, k, h => by
    simp only [bef1] at h
    split at h
    · rename_i hb
      simp only [Nat.testBit_or, Bool.or_eq_true] at h
      rcases h with (h | h) | h
      · obtain ⟨e', h1, h2⟩ := bef1_bit h
        exact ⟨e', by simp [h1], h2⟩
      · rw [Nat.testBit_two_pow] at h
        exact ⟨e, by simp, hb, .inl (by simpa using h)⟩
      · exact ⟨e, by simp, hb, .inr h⟩
    · obtain ⟨e', h1, h2⟩ := bef1_bit h
      exact ⟨e', by simp [h1], h2⟩
theorem befs_pre : ∀ (ops : List Oper) (acc : List Nat) (j : Nat), j < acc.length → (befs ops acc)[j]? = acc[j]?
  | [], _, _, _ => rfl
  | o :: ops, acc, j, h => by
    simp only [befs]
    rw [befs_pre ops _ j (by simp; omega), List.getElem?_append_left h]
theorem befs_bit : ∀ (ops : List Oper) (acc : List Nat) (i : Nat) (o : Oper) (k : Nat), ops[i]? = some o → Nat.testBit ((befs ops acc).getD (acc.length + i) 0) k = true →
    ∃ e ∈ o.after.toList, Region.binds .any e = true ∧ (e.on = k ∨ (e.on < acc.length + i ∧ Nat.testBit ((befs ops acc).getD e.on 0) k = true))
  | [], _, i, o, k, hi, _ => by simp at hi
  | o0 :: ops, acc, i, o, k, hi, h => by
    cases i with
    | zero =>
      simp only [List.getElem?_cons_zero, Option.some.injEq] at hi
      subst hi
      have e1 : (befs (o0 :: ops) acc)[acc.length]? = some (bef1 acc o0.after.toList) := by
        simp only [befs]
        rw [befs_pre ops _ _ (by simp), List.getElem?_append_right (Nat.le_refl _)]
        simp
      rw [List.getD_eq_getElem?_getD, Nat.add_zero, e1] at h
      obtain ⟨e, h1, h2, h3⟩ := bef1_bit h
      refine ⟨e, h1, h2, h3.imp_right fun h3 => ?_⟩
      have hlt : e.on < acc.length := by
        rcases Nat.lt_or_ge e.on acc.length with h | h
        · exact h
        · rw [List.getD_eq_getElem?_getD, List.getElem?_eq_none h] at h3
          simp at h3
      refine ⟨by omega, ?_⟩
      rw [List.getD_eq_getElem?_getD]
      simp only [befs]
      rw [befs_pre ops _ _ (by simp; omega), List.getElem?_append_left hlt, ← List.getD_eq_getElem?_getD]
      exact h3
    | succ i =>
      simp only [List.getElem?_cons_succ] at hi
      simp only [befs] at h ⊢
      have := befs_bit ops (acc ++ [bef1 acc o0.after.toList]) i o k hi (by
        rwa [show (acc ++ [bef1 acc o0.after.toList]).length + i = acc.length + (i + 1) by simp; omega])
      rwa [show (acc ++ [bef1 acc o0.after.toList]).length + i = acc.length + (i + 1) by simp; omega] at this
/-- Whoever comes before a done operation is done. -/
theorem before_done {ops : List Oper} (L : Nat → Bool) (hdc : ∀ i o, ops[i]? = some o → L i = true → ∀ e ∈ o.after.toList, Region.binds .any e = true → L e.on = true) (hlen : ∀ i, L i = true → i < ops.length) :
    ∀ (i : Nat) (o : Oper), ops[i]? = some o → (∀ e ∈ o.after.toList, Region.binds .any e = true → L e.on = true) → ∀ k, Nat.testBit ((befs ops []).getD i 0) k = true → L k = true := by
  intro i
  induction i using Nat.strongRecOn with
  | _ i ih =>
    intro o hi he k hk
    obtain ⟨e, h1, h2, h3⟩ := befs_bit ops [] i o k hi (by simpa using hk)
    have hL := he e h1 h2
    rcases h3 with rfl | ⟨h3, h4⟩
    · exact hL
    · have hlt := hlen _ hL
      simp only [List.length_nil, Nat.zero_add] at h3
      exact ih e.on h3 (ops[e.on]'hlt) (List.getElem?_eq_getElem hlt) (hdc e.on _ (List.getElem?_eq_getElem hlt) hL) k h4
end Go.Dm
