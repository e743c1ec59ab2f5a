/- What a run leaves alone: the frame's other places, the heap's other boxes; for any functions that are told. -/
import Derived.Test.YtmdaacajdnbegaaDoorDCore
namespace Go.Dm
open Go
set_option linter.unusedSimpArgs false

def IOper.dsts (o : IOper) : List Nat := match o.dst with | some d => [d] | none => []
def ICode.dsts : ICode → List Nat
  | .skip | .exit _ | .ret => []
  | .reg ops => ops.flatMap IOper.dsts
  | .draw ops _ => ops.flatMap IOper.dsts
  | .seq a b => a.dsts ++ b.dsts
  | .cond _ a b => a.dsts ++ b.dsts
  | .block _ c => c.dsts
  | .loop c => c.dsts

/-- From one state to another one: numbers grow, what is written is told, all else stays. -/
structure Stay (st st' : St) : Prop where
  nx : st.nx ≤ st'.nx
  wl : ∃ w, st'.wl = w ++ st.wl
  h : ∀ j, (j < st.nx ∨ st'.nx ≤ j) → j ∉ st'.wl → st'.h j = st.h j
theorem Stay.refl (st : St) : Stay st st := ⟨Nat.le_refl _, ⟨[], rfl⟩, fun _ _ _ => rfl⟩
theorem Stay.trans {a b c : St} (h : Stay a b) (k : Stay b c) : Stay a c := by
  obtain ⟨w1, e1⟩ := h.wl
  obtain ⟨w2, e2⟩ := k.wl
  refine ⟨Nat.le_trans h.nx k.nx, ⟨w2 ++ w1, by rw [e2, e1, List.append_assoc]⟩, fun j hj hn => ?_⟩
  have hn1 : j ∉ b.wl := fun x => hn (by rw [e2]; exact List.mem_append_right _ x)
  have := h.nx; have := k.nx
  rw [k.h j (by omega) hn, h.h j (by omega) hn1]

structure CStay (cf : CallF) : Prop where
  ok : ∀ f vs h nx r, cf f vs h nx = some r → nx ≤ r.2.2.1 ∧ (∀ j, (j < nx ∨ r.2.2.1 ≤ j) → j ∉ r.2.2.2 → r.2.1 j = h j)

theorem Heap.sets_other : ∀ (wr : List (Nat × Option Box)) (h : Heap) (j : Nat), j ∉ wr.map (·.1) → h.sets wr j = h j
  | [], _, _, _ => rfl
  | (k, x) :: r, h, j, hj => by
    simp only [List.map_cons, List.mem_cons, not_or] at hj
    simp only [Heap.sets]
    rw [Heap.sets_other r _ j hj.2, Heap.set_ne _ _ hj.1]
theorem Heap.adds_other : ∀ (nw : List Box) (nx : Nat) (h : Heap) (j : Nat), (j < nx ∨ nx + nw.length ≤ j) → h.adds nx nw j = h j
  | [], _, _, _, _ => rfl
  | x :: r, nx, h, j, hj => by
    simp only [List.length_cons] at hj
    simp only [Heap.adds]
    rw [Heap.adds_other r _ _ j (by omega), Heap.set_ne _ _ (by omega)]
theorem St.apply_stay (st : St) (r : Res) : Stay st (st.apply r) := by
  refine ⟨by simp [St.apply], ⟨_, rfl⟩, fun j hj hn => ?_⟩
  simp only [St.apply, List.mem_append, not_or] at hj hn ⊢
  rw [Heap.adds_other _ _ _ _ hj, Heap.sets_other _ _ _ hn.1]

variable {cf : CallF}
theorem opX_stay (hc : CStay cf) {o : IOp} {fr : Fr} {st : St} {r : V × St} (h : opX cf o fr st = some r) : Stay st r.2 := by
  have call : ∀ {f vs r}, callX cf f vs st = some r → Stay st r.2 := by
    intro f vs r h
    simp only [callX, Option.map_eq_some_iff] at h
    obtain ⟨x, h1, rfl⟩ := h
    obtain ⟨a, b⟩ := hc.ok _ _ _ _ _ h1
    exact ⟨a, ⟨_, rfl⟩, fun j hj hn => b j hj fun x => hn (List.mem_append_left _ x)⟩
  cases o with
  | lt o args =>
    simp only [opX, ltX, Option.bind_eq_some_iff, Option.map_eq_some_iff] at h
    obtain ⟨bs, _, x, _, rfl⟩ := h
    exact St.apply_stay st x
  | callf f args => exact call h
  | callv x args =>
    simp only [opX] at h
    split at h
    · exact call h
    · cases h
theorem putD_other (fr : Fr) (d : Option Nat) (v : V) (j : Nat) (h : j ∉ (match d with | some d => [d] | none => [])) : (putD fr d v).get j = fr.get j := by
  cases d with
  | none => rfl
  | some d => exact Fr.get_put_ne _ _ (by simpa using h)
theorem regX_stay (hc : CStay cf) : ∀ (ops : List IOper) {fr : Fr} {st : St} {r : Fr × St}, regX cf ops fr st = some r → Stay st r.2 ∧ ∀ j, j ∉ ops.flatMap IOper.dsts → r.1.get j = fr.get j
  | [], fr, st, r, h => by simp only [regX, Option.some.injEq] at h; subst h; exact ⟨Stay.refl _, fun _ _ => rfl⟩
  | o :: ops, fr, st, r, h => by
    simp only [regX, Option.bind_eq_some_iff] at h
    obtain ⟨w, _, h⟩ := h
    split at h
    · simp only [Option.bind_eq_some_iff] at h
      obtain ⟨x, h1, h2⟩ := h
      obtain ⟨a, b⟩ := regX_stay hc ops h2
      refine ⟨(opX_stay hc h1).trans a, fun j hj => ?_⟩
      simp only [List.flatMap_cons, List.mem_append, not_or] at hj
      rw [b j hj.2, putD_other _ _ _ _ hj.1]
    · obtain ⟨a, b⟩ := regX_stay hc ops h
      refine ⟨a, fun j hj => ?_⟩
      simp only [List.flatMap_cons, List.mem_append, not_or] at hj
      rw [b j hj.2, putD_other _ _ _ _ hj.1]
theorem drawX_stay (hc : CStay cf) : ∀ (ops : List IOper) (bm : List Nat) (ds : List Did) {fr : Fr} {st : St} {r : Fr × St}, drawX cf ops bm ds fr st = some r → Stay st r.2 ∧ ∀ j, j ∉ ops.flatMap IOper.dsts → r.1.get j = fr.get j
  | [], _, _, fr, st, r, h => by simp only [drawX, Option.some.injEq] at h; subst h; exact ⟨Stay.refl _, fun _ _ => rfl⟩
  | o :: ops, bm, ds, fr, st, r, h => by
    simp only [drawX, Option.bind_eq_some_iff] at h
    obtain ⟨w, _, h⟩ := h
    split at h
    · simp only [Option.bind_eq_some_iff] at h
      obtain ⟨x, h1, h2⟩ := h
      split at h2
      · obtain ⟨a, b⟩ := drawX_stay hc ops _ _ h2
        have k := opX_stay hc h1
        have step : Stay st { h := fun j => if (st.nx ≤ j ∧ j < x.2.nx) ∨ x.2.wl.contains j = true then x.2.h j else st.h j, nx := x.2.nx, wl := x.2.wl ++ st.wl } := by
          refine ⟨k.nx, ⟨_, rfl⟩, fun j hj hn => ?_⟩
          simp only [List.mem_append, not_or] at hj hn ⊢
          rw [if_neg]
          simp only [List.contains_iff_mem]
          rintro (h3 | h3)
          · omega
          · exact hn.1 h3
        refine ⟨step.trans a, fun j hj => ?_⟩
        simp only [List.flatMap_cons, List.mem_append, not_or] at hj
        rw [b j hj.2, putD_other _ _ _ _ hj.1]
      · cases h2
    · obtain ⟨a, b⟩ := drawX_stay hc ops _ _ h
      refine ⟨a, fun j hj => ?_⟩
      simp only [List.flatMap_cons, List.mem_append, not_or] at hj
      rw [b j hj.2, putD_other _ _ _ _ hj.1]
theorem iter_stay {f : Fr → St → Option (Ex × Fr × St)} {ds : List Nat} (hf : ∀ fr st r, f fr st = some r → Stay st r.2.2 ∧ ∀ j, j ∉ ds → r.2.1.get j = fr.get j) :
    ∀ (k : Nat) {fr : Fr} {st : St} {r : Ex × Fr × St}, iter f k fr st = some r → Stay st r.2.2 ∧ ∀ j, j ∉ ds → r.2.1.get j = fr.get j
  | 0, _, _, _, h => by cases h
  | k + 1, fr, st, r, h => by
    simp only [iter, Option.bind_eq_some_iff] at h
    obtain ⟨x, h1, h2⟩ := h
    obtain ⟨a, b⟩ := hf _ _ _ h1
    split at h2
    · obtain ⟨c, d⟩ := iter_stay hf k h2
      exact ⟨a.trans c, fun j hj => by rw [d j hj, b j hj]⟩
    · cases h2
      exact ⟨a, b⟩
theorem codeX_stay (hc : CStay cf) (L : Nat) : ∀ (c : ICode) {fr : Fr} {st : St} {r : Ex × Fr × St}, codeX cf L c fr st = some r → Stay st r.2.2 ∧ ∀ j, j ∉ c.dsts → r.2.1.get j = fr.get j
  | .skip, fr, st, r, h => by simp only [codeX, Option.some.injEq] at h; subst h; exact ⟨Stay.refl _, fun _ _ => rfl⟩
  | .exit _, fr, st, r, h => by simp only [codeX, Option.some.injEq] at h; subst h; exact ⟨Stay.refl _, fun _ _ => rfl⟩
  | .ret, fr, st, r, h => by simp only [codeX, Option.some.injEq] at h; subst h; exact ⟨Stay.refl _, fun _ _ => rfl⟩
  | .reg ops, fr, st, r, h => by
    simp only [codeX, Option.map_eq_some_iff] at h
    obtain ⟨x, h1, rfl⟩ := h
    exact regX_stay hc ops h1
  | .draw ops bm, fr, st, r, h => by
    simp only [codeX, Option.map_eq_some_iff] at h
    obtain ⟨x, h1, rfl⟩ := h
    exact drawX_stay hc ops bm [] h1
  | .seq a b, fr, st, r, h => by
    simp only [codeX, Option.bind_eq_some_iff] at h
    obtain ⟨x, h1, h2⟩ := h
    obtain ⟨p, q⟩ := codeX_stay hc L a h1
    split at h2
    · obtain ⟨p', q'⟩ := codeX_stay hc L b h2
      refine ⟨p.trans p', fun j hj => ?_⟩
      simp only [ICode.dsts, List.mem_append, not_or] at hj
      rw [q' j hj.2, q j hj.1]
    · cases h2
      refine ⟨p, fun j hj => ?_⟩
      simp only [ICode.dsts, List.mem_append, not_or] at hj
      exact q j hj.1
  | .cond c a b, fr, st, r, h => by
    simp only [codeX] at h
    split at h
    · obtain ⟨p, q⟩ := codeX_stay hc L a h
      refine ⟨p, fun j hj => ?_⟩
      simp only [ICode.dsts, List.mem_append, not_or] at hj
      exact q j hj.1
    · obtain ⟨p, q⟩ := codeX_stay hc L b h
      refine ⟨p, fun j hj => ?_⟩
      simp only [ICode.dsts, List.mem_append, not_or] at hj
      exact q j hj.2
    · cases h
  | .block id c, fr, st, r, h => by
    simp only [codeX, Option.map_eq_some_iff] at h
    obtain ⟨x, h1, rfl⟩ := h
    have := codeX_stay hc L c h1
    exact this
  | .loop c, fr, st, r, h => iter_stay (fun _ _ _ h => codeX_stay hc L c h) L h

theorem call_stay (G : Lib) : ∀ k, CStay (G.call k)
  | 0 => ⟨fun _ _ _ _ _ h => by simp [Lib.call] at h⟩
  | k + 1 => ⟨fun f vs h nx r hr => by
    simp only [Lib.call] at hr
    split at hr
    · simp only [Option.map_eq_some_iff] at hr
      obtain ⟨x, _, rfl⟩ := hr
      refine ⟨Nat.le_add_right _ _, fun j hj hn => ?_⟩
      simp only at hj hn ⊢
      rw [Heap.adds_other _ _ _ _ hj, Heap.sets_other _ _ _ hn]
    · split at hr
      · cases hr
      · split at hr
        · simp only [Option.bind_eq_some_iff] at hr
          obtain ⟨x, h1, h2⟩ := hr
          have q := (codeX_stay (call_stay G k) G.L _ h1).1
          have key : ∀ y, (ressD x.2.2.h x.2.1 y).map (fun vs' => (tupD vs', x.2.2.h, x.2.2.nx, x.2.2.wl.filter fun id => !decide (nx ≤ id ∧ id < x.2.2.nx))) = some r → nx ≤ r.2.2.1 ∧ ∀ j, (j < nx ∨ r.2.2.1 ≤ j) → j ∉ r.2.2.2 → r.2.1 j = h j := by
            intro y h2
            simp only [Option.map_eq_some_iff] at h2
            obtain ⟨vs', _, rfl⟩ := h2
            refine ⟨q.nx, fun j hj hn => q.h j hj fun hm => hn ?_⟩
            simp only [List.mem_filter, hm, true_and, Bool.not_eq_true', decide_eq_false_iff_not]
            simp only at hj
            omega
          cases hx : x.1 with
          | x _ => simp [hx] at h2
          | n => simp only [hx] at h2; exact key _ h2
          | r => simp only [hx] at h2; exact key _ h2
        · cases hr⟩
end Go.Dm
