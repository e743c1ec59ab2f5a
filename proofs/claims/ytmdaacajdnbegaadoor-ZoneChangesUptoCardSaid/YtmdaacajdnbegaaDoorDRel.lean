/- How the machine's values and heap stand for the model's: places of boxes, values, boxes, the heap, a frame; what is kept. -/
import Derived.Test.YtmdaacajdnbegaaDoorDComp
import Derived.Tactics
import Derived.Below
import Derived.Lib.LaidTab
import Derived.Lib.ItoaNum
namespace Go.Dm
open Go
set_option linter.constructorNameAsVariable false
set_option linter.unnecessarySimpa false

/-- Where a box lies: its block, from which cell on, how many elements there is room for. -/
structure Loc where
  g : Nat
  o : Nat
  cap : Nat
abbrev Mu := Nat → Option Loc

mutual
def VR (μ : Mu) : V → Value → Prop
  | .u, x => x = undef
  | .b x, .bool y => x = y
  | .i k n, .int k' n' => k = k' ∧ n = n'
  | .s l, .string s => s.data.toList = l
  | .p id off, .pointer (some a) => ∃ l, μ id = some l ∧ a = ⟨l.g, l.o + off, none⟩
  | .pn, .pointer none => True
  | .sl id off len lb ex, .slice (some a) n c => ∃ l, μ id = some l ∧ a = ⟨l.g, l.o + off, none⟩ ∧ n = len ∧ len ≤ lb ∧ lb ≤ c ∧ (ex = true → c = lb) ∧ (off = 0 → c ≤ l.cap)
  | .sn, .slice none n c => n = 0 ∧ c = 0
  | .se, .slice (some _) n _ => n = 0
  | .m id, .map (some r) => ∃ l, μ id = some l ∧ r = l.g
  | .mn, .map none => True
  | .fn f a c, .func (.func g) x y => f = g ∧ VRL μ a x.toList ∧ VRL μ c y.toList
  | .fz, .nilFunc => True
  | .e z, .nilIface => z = true
  | .e z, .iface _ _ => z = false
  | .agg cs, .agg vs => VRL μ cs vs.toList
  | .tup cs, .tuple vs => VRL μ cs vs.toList
  | _, _ => False
def VRL (μ : Mu) : List V → List Value → Prop
  | [], [] => True
  | x :: xs, y :: ys => VR μ x y ∧ VRL μ xs ys
  | _, _ => False
end

def Ext (μ μ' : Mu) : Prop := ∀ id l, μ id = some l → μ' id = some l
theorem Ext.refl (μ : Mu) : Ext μ μ := fun _ _ h => h
theorem Ext.trans {a b c : Mu} (h : Ext a b) (k : Ext b c) : Ext a c := fun id l e => k id l (h id l e)

mutual
theorem VR.mono {μ μ' : Mu} (hx : Ext μ μ') : ∀ (v : V) (x : Value), VR μ v x → VR μ' v x
  | .u, _, h => h
  | .b _, x, h => by cases x <;> simp_all [VR]
  | .i _ _, x, h => by cases x <;> simp_all [VR]
  | .s _, x, h => by cases x <;> simp_all [VR]
  | .p id off, x, h => by
    cases x <;> try (simp [VR] at h; done)
    rename_i a; cases a <;> simp only [VR] at h ⊢
    obtain ⟨l, e, r⟩ := h; exact ⟨l, hx _ _ e, r⟩
  | .pn, x, h => by
    cases x <;> try (simp [VR] at h; done)
    rename_i a; cases a <;> simp_all [VR]
  | .sl id off len lb ex, x, h => by
    cases x <;> try (simp [VR] at h; done)
    rename_i a n c; cases a <;> simp only [VR] at h ⊢
    obtain ⟨l, e, r⟩ := h; exact ⟨l, hx _ _ e, r⟩
  | .sn, x, h => by
    cases x <;> try (simp [VR] at h; done)
    rename_i a n c; cases a <;> simp_all [VR]
  | .se, x, h => by
    cases x <;> try (simp [VR] at h; done)
    rename_i a n c; cases a <;> simp_all [VR]
  | .m id, x, h => by
    cases x <;> try (simp [VR] at h; done)
    rename_i a; cases a <;> simp only [VR] at h ⊢
    obtain ⟨l, e, r⟩ := h; exact ⟨l, hx _ _ e, r⟩
  | .mn, x, h => by
    cases x <;> try (simp [VR] at h; done)
    rename_i a; cases a <;> simp_all [VR]
  | .fn f a c, x, h => by
    cases x <;> try (simp [VR] at h; done)
    rename_i g y z; cases g <;> simp only [VR] at h ⊢
    exact ⟨h.1, VRL.mono hx a _ h.2.1, VRL.mono hx c _ h.2.2⟩
  | .fz, x, h => by cases x <;> simp_all [VR]
  | .e z, x, h => by cases x <;> simp_all [VR]
  | .agg cs, x, h => by
    cases x <;> try (simp [VR] at h; done)
    simp only [VR] at h ⊢; exact VRL.mono hx cs _ h
  | .tup cs, x, h => by
    cases x <;> try (simp [VR] at h; done)
    simp only [VR] at h ⊢; exact VRL.mono hx cs _ h
theorem VRL.mono {μ μ' : Mu} (hx : Ext μ μ') : ∀ (v : List V) (x : List Value), VRL μ v x → VRL μ' v x
  | [], [], _ => trivial
  | [], _ :: _, h => by simp [VRL] at h
  | _ :: _, [], h => by simp [VRL] at h
  | v :: vs, x :: xs, h => by
    simp only [VRL] at h ⊢
    exact ⟨VR.mono hx v x h.1, VRL.mono hx vs xs h.2⟩
end

theorem VRL.length {μ : Mu} : ∀ {v : List V} {x : List Value}, VRL μ v x → v.length = x.length
  | [], [], _ => rfl
  | [], _ :: _, h => by simp [VRL] at h
  | _ :: _, [], h => by simp [VRL] at h
  | _ :: _, _ :: _, h => by simp only [VRL] at h; simp [VRL.length h.2]
theorem VRL.get {μ : Mu} : ∀ {v : List V} {x : List Value} (k : Nat) {u : V}, VRL μ v x → v[k]? = some u → ∃ y, x[k]? = some y ∧ VR μ u y
  | [], _, _, _, _, e => by simp at e
  | _ :: _, [], _, _, h, _ => by simp [VRL] at h
  | v :: vs, x :: xs, 0, u, h, e => by simp only [VRL] at h; simp at e; subst e; exact ⟨x, rfl, h.1⟩
  | v :: vs, x :: xs, k + 1, u, h, e => by simp only [VRL] at h; simp at e; simpa using VRL.get k h.2 e
theorem VRL.of_get {μ : Mu} : ∀ {v : List V} {x : List Value}, v.length = x.length → (∀ (k : Nat) (u : V), v[k]? = some u → ∃ y, x[k]? = some y ∧ VR μ u y) → VRL μ v x
  | [], [], _, _ => trivial
  | [], _ :: _, h, _ => by simp at h
  | _ :: _, [], h, _ => by simp at h
  | v :: vs, x :: xs, h, hk => by
    simp only [VRL]
    refine ⟨?_, VRL.of_get (by simpa using h) fun k u e => by simpa using hk (k + 1) u (by simpa using e)⟩
    obtain ⟨y, e, r⟩ := hk 0 v rfl
    simp at e; subst e; exact r
theorem VRL.append {μ : Mu} : ∀ {v v' : List V} {x x' : List Value}, VRL μ v x → VRL μ v' x' → VRL μ (v ++ v') (x ++ x')
  | [], _, [], _, _, h => h
  | [], _, _ :: _, _, h, _ => by simp [VRL] at h
  | _ :: _, _, [], _, h, _ => by simp [VRL] at h
  | _ :: _, _, _ :: _, _, h, k => by simp only [VRL, List.cons_append] at h ⊢; exact ⟨h.1, VRL.append h.2 k⟩
theorem VRL.take {μ : Mu} : ∀ {v : List V} {x : List Value} (n : Nat), VRL μ v x → VRL μ (v.take n) (x.take n)
  | _, _, 0, _ => by simp [VRL]
  | [], [], _ + 1, _ => by simp [VRL]
  | [], _ :: _, _ + 1, h => by simp [VRL] at h
  | _ :: _, [], _ + 1, h => by simp [VRL] at h
  | _ :: _, _ :: _, n + 1, h => by simp only [VRL, List.take_succ_cons] at h ⊢; exact ⟨h.1, VRL.take n h.2⟩
theorem VRL.drop {μ : Mu} : ∀ {v : List V} {x : List Value} (n : Nat), VRL μ v x → VRL μ (v.drop n) (x.drop n)
  | _, _, 0, h => by simpa using h
  | [], [], _ + 1, _ => by simp [VRL]
  | [], _ :: _, _ + 1, h => by simp [VRL] at h
  | _ :: _, [], _ + 1, h => by simp [VRL] at h
  | _ :: _, _ :: _, n + 1, h => by simp only [VRL, List.drop_succ_cons] at h ⊢; exact VRL.drop n h.2

/-- A value's cells. -/
theorem VR.cells {μ : Mu} {v : V} {x : Value} (h : VR μ v x) (hv : v ≠ .u) : VRL μ v.cells x.cells.toList := by
  have one : ∀ (v : V) (x : Value), VR μ v x → VRL μ [v] [x] := fun v x h => ⟨h, trivial⟩
  cases v with
  | u => exact absurd rfl hv
  | agg cs => cases x <;> first | exact False.elim h | exact h
  | _ => cases x <;> first | exact False.elim h | exact one _ _ h
theorem VR.one {μ : Mu} {v : V} {x : Value} (h : VR μ v x) (hv : v.ok1 = true) : ∀ cs, x ≠ .agg cs ∧ x ≠ .tuple cs := by
  intro cs
  cases v <;> simp [V.ok1] at hv <;> constructor <;> rintro rfl <;> simp [VR] at h

/-! ### boxes, the heap -/
def ER (μ : Mu) : List (V × V) → List MapEntry → Prop
  | [], [] => True
  | x :: xs, y :: ys => VR μ x.1 y.key ∧ x.1 ≠ .u ∧ VR μ x.2 y.val ∧ ER μ xs ys
  | _, _ => False
/-- No cell below n is frozen. -/
def Free (fr : Nat × Nat) (n : Nat) : Prop := ∀ j, j < n → ¬ (fr.1 ≤ j ∧ j < fr.2)
theorem Free.zero (n : Nat) : Free (0, 0) n := fun j _ => by simp
def BR (P : Program) (μ : Mu) (w : World) (l : Loc) : Box → Prop
  | .arr x ty cs => (∀ j u, cs[j]? = some u → u.ok1 = true ∧ ∃ v, w.cell? ⟨l.g, l.o + j, none⟩ = some v ∧ VR μ u v) ∧
      (x = true → l.o = 0 ∧ ∃ c fr, w.heap[l.g]? = some (.cells c ty fr) ∧ Free fr c.size ∧ l.cap * P.cellsOf ty ≤ c.size)
  | .map es => ∃ ents clock, w.heap[l.g]? = some (.map ents clock) ∧ ER μ es ents.toList

/-- How the run began: what its world's first blocks hold stays. -/
def Start (P : Program) (W : World) : Prop := W.ShapedOpen P ∧ Lib.TabIs P W "internal/strconv.uint64pow10" .u64 Lib.pow10Tab
structure Low (P : Program) (μ : Mu) (h : Heap) (w W : World) : Prop where
  start : Start P W
  size : W.heap.size ≤ w.heap.size
  same : ∀ k, k < W.heap.size → w.heap[k]? = W.heap[k]?
  own : ∀ id b l, h id = some b → b.rw = true → μ id = some l → W.heap.size ≤ l.g
structure SR (P : Program) (μ : Mu) (h : Heap) (w : World) : Prop where
  low : ∃ W, Low P μ h w W
  box : ∀ id b, h id = some b → ∃ l, μ id = some l ∧ l.g < w.heap.size ∧ BR P μ w l b
  apart : ∀ i j b c l m, h i = some b → b.rw = true → h j = some c → i ≠ j → μ i = some l → μ j = some m → l.g ≠ m.g

def Ch (μ : Mu) (wl : List Nat) (k : Nat) : Prop := ∃ id ∈ wl, ∃ l, μ id = some l ∧ l.g = k

/-- From w to w': what was there stays but what is told as written; new places are new, or those of what was written. -/
structure Tr (μ : Mu) (w : World) (wl : List Nat) (nx nx' : Nat) (μ' : Mu) (w' : World) : Prop where
  ext : Ext μ μ'
  rng : ∀ id l, μ' id = some l → μ id = none → nx ≤ id ∧ id < nx'
  new : ∀ id l, μ' id = some l → μ id = none → w.heap.size ≤ l.g ∨ Ch μ wl l.g
  os : w'.os = w.os
  tape : w'.tape = w.tape
  output : w'.output = w.output
  size : w.heap.size ≤ w'.heap.size
  keep : ∀ k, k < w.heap.size → ¬ Ch μ wl k → w'.heap[k]? = w.heap[k]?
theorem Tr.refl (μ : Mu) (w : World) (nx : Nat) : Tr μ w [] nx nx μ w :=
  ⟨Ext.refl μ, (fun _ _ h k => by rw [h] at k; cases k), (fun _ _ h k => by rw [h] at k; cases k), rfl, rfl, rfl, Nat.le_refl _, fun _ _ _ => rfl⟩
theorem Ch.append {μ : Mu} {a b : List Nat} {k : Nat} : Ch μ (a ++ b) k ↔ Ch μ a k ∨ Ch μ b k := by
  simp only [Ch, List.mem_append]
  constructor
  · rintro ⟨id, h | h, l, r⟩
    · exact .inl ⟨id, h, l, r⟩
    · exact .inr ⟨id, h, l, r⟩
  · rintro (⟨id, h, l, r⟩ | ⟨id, h, l, r⟩)
    · exact ⟨id, .inl h, l, r⟩
    · exact ⟨id, .inr h, l, r⟩
theorem Tr.trans {μ μ1 μ2 : Mu} {w w1 w2 : World} {a b : List Nat} {n n1 n2 : Nat} (h : Tr μ w a n n1 μ1 w1) (k : Tr μ1 w1 b n1 n2 μ2 w2) (hn : n ≤ n1) (hn2 : n1 ≤ n2) : Tr μ w (b ++ a) n n2 μ2 w2 := by
  have back : ∀ x, x < w.heap.size → Ch μ1 b x → Ch μ (b ++ a) x := by
    rintro x hx ⟨id, hid, l, e, rfl⟩
    rw [Ch.append]
    cases hm : μ id with
    | some l' =>
      have := h.ext _ _ hm
      rw [e] at this
      cases this
      exact .inl ⟨id, hid, l, hm, rfl⟩
    | none =>
      rcases h.new id l e hm with h1 | h1
      · omega
      · exact .inr h1
  refine ⟨h.ext.trans k.ext, fun id l e e0 => ?_, fun id l e e0 => ?_, k.os.trans h.os, k.tape.trans h.tape, k.output.trans h.output, Nat.le_trans h.size k.size, fun x hx hc => ?_⟩
  · cases h1 : μ1 id with
    | some l' =>
      have := h.rng id l' h1 e0
      omega
    | none =>
      have := k.rng id l e h1
      omega
  · cases h1 : μ1 id with
    | some l' =>
      have h2 := k.ext _ _ h1
      rw [e] at h2
      cases h2
      exact (h.new id l h1 e0).imp_right fun h3 => Ch.append.2 (.inr h3)
    | none =>
      rcases k.new id l e h1 with h2 | h2
      · exact .inl (Nat.le_trans h.size h2)
      · by_cases hx : l.g < w.heap.size
        · exact .inr (back _ hx h2)
        · exact .inl (by omega)
  · rw [k.keep x (Nat.lt_of_lt_of_le hx h.size) (fun hb => hc (back x hx hb))]
    exact h.keep x hx (fun ha => hc (Ch.append.2 (.inr ha)))
theorem Tr.more {μ μ1 : Mu} {w w1 : World} {a b : List Nat} {n n1 : Nat} (h : Tr μ w a n n1 μ1 w1) (hab : ∀ x ∈ a, x ∈ b) : Tr μ w b n n1 μ1 w1 := by
  have up : ∀ k, Ch μ a k → Ch μ b k := fun k ⟨id, hid, r⟩ => ⟨id, hab _ hid, r⟩
  exact ⟨h.ext, h.rng, fun id l e e0 => (h.new id l e e0).imp_right (up _), h.os, h.tape, h.output, h.size, fun k hk hc => h.keep k hk fun h2 => hc (up k h2)⟩

/-- A frame. -/
structure FrR (μ : Mu) (n : Nat) (fr : Fr) (a : Act) : Prop where
  size : a.tmps.size = n
  get : ∀ k, VR μ (fr.get k) (a.tmps.getD k undef)
  defers : a.defers = []
theorem FrR.mono {μ μ' : Mu} {n : Nat} {fr : Fr} {a : Act} (h : FrR μ n fr a) (hx : Ext μ μ') : FrR μ' n fr a := ⟨h.size, fun k => VR.mono hx _ _ (h.get k), h.defers⟩
theorem FrR.put {μ : Mu} {n : Nat} {fr : Fr} {a : Act} (h : FrR μ n fr a) {d : Option Nat} {v : V} {x : Value} (hd : ∀ k, d = some k → k < n) (hv : VR μ v x) : FrR μ n (putD fr d v) (a.put d x) := by
  cases d with
  | none => exact h
  | some d =>
    have hdn := hd d rfl
    refine ⟨by simp [Act.put, h.size], fun k => ?_, by simp [Act.put, h.defers]⟩
    simp only [putD, Act.put]
    by_cases hk : k = d
    · subst hk
      rw [Fr.get_put]
      simpa [Array.getD_eq_getD_getElem?, h.size, hdn] using hv
    · rw [Fr.get_put_ne _ _ hk]
      have := h.get k
      simpa [Array.getD_eq_getD_getElem?, Array.getElem?_setIfInBounds_ne (Ne.symm hk)] using this
end Go.Dm
