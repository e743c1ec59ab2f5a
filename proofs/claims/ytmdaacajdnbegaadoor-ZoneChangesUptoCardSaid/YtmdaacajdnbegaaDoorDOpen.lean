/- What comes in, opened: readings become the machine's values and plain data. -/
import Derived.Test.YtmdaacajdnbegaaDoorBulk
import Derived.Test.YtmdaacajdnbegaaDoorDPost
import Derived.Test.YtmdaacajdnbegaaDoorDCode
import Derived.Test.YtmdaacajdnbegaaDoorDData
import Derived.Deep.Slices
set_option linter.constructorNameAsVariable false
set_option linter.unusedSimpArgs false
set_option linter.unusedVariables false
set_option linter.unusedSectionVars false
namespace Go.Dm
open Go Go.Proofs.YtmdaacajdnbegaaDoor Go.ChangeShapes Go.WideShapes Go.RowKit
set_option linter.unusedVariables false
section
variable {H : Type} {enc : TypeId × Value → H} {P : Program} {w : World} {base : Nat} {sp : Nat → Bool} {held : Bool}
inductive CK where
  | b
  | s
  | i (k : IntKind)
def ckOf : Option TypeDesc → Option CK
  | some .bool => some .b
  | some .string => some .s
  | some (.int k) => some (.i k)
  | _ => none
def VK : CK → V → Prop
  | .b, v => ∃ x, v = .b x
  | .s, v => ∃ l, v = .s l
  | .i k, v => ∃ n, v = .i k n ∧ (Lit.int k n).wf = true
def KL : List CK → List V → Prop
  | [], [] => True
  | k :: ks, v :: vs => VK k v ∧ KL ks vs
  | _, _ => False
theorem KL.none {vs : List V} (h : KL [] vs) : vs = [] := by
  cases vs
  · rfl
  · exact h.elim
theorem KL.cons {k : CK} {ks : List CK} {vs : List V} (h : KL (k :: ks) vs) : ∃ v r, vs = v :: r ∧ VK k v ∧ KL ks r := by
  cases vs with
  | nil => exact h.elim
  | cons v r => exact ⟨v, r, rfl, h⟩
theorem KL.b {ks : List CK} {vs : List V} (h : KL (.b :: ks) vs) : ∃ x r, vs = .b x :: r ∧ KL ks r := by
  obtain ⟨v, r, rfl, ⟨x, rfl⟩, g⟩ := h.cons
  exact ⟨x, r, rfl, g⟩
theorem KL.s {ks : List CK} {vs : List V} (h : KL (.s :: ks) vs) : ∃ x r, vs = .s x :: r ∧ KL ks r := by
  obtain ⟨v, r, rfl, ⟨x, rfl⟩, g⟩ := h.cons
  exact ⟨x, r, rfl, g⟩
theorem KL.i {k : IntKind} {ks : List CK} {vs : List V} (h : KL (.i k :: ks) vs) : ∃ x r, vs = .i k x :: r ∧ (Lit.int k x).wf = true ∧ KL ks r := by
  obtain ⟨v, r, rfl, ⟨x, rfl, hw⟩, g⟩ := h.cons
  exact ⟨x, r, rfl, hw, g⟩
def SB (n : Nat) : V → Prop
  | .s l => l.length ≤ n
  | _ => True
theorem SB.le {n m : Nat} (h : n ≤ m) : ∀ {v : V}, SB n v → SB m v
  | .s l, a => Nat.le_trans a h
  | .u, _ | .b _, _ | .i _ _, _ | .p _ _, _ | .pn, _ | .sl _ _ _ _ _, _ | .sn, _ | .se, _ | .m _, _ | .mn, _ | .fn _ _ _, _ | .fz, _ | .e _, _ | .agg _, _ | .tup _, _ => trivial
theorem trod_one {n : Nat} {t : TypeId} {cs : List Value} {d : DataW H} {ps : List MemPlace} {k : CK} (hk : ckOf (P.underlying t) = some k) (h : DataW.trod enc P w base sp held n t cs = some (d, ps)) :
    ∃ v x, cs = [x] ∧ VK k v ∧ (∀ μ, VR μ v x) ∧ v.ok1 = true ∧ SB (Rows.uptoBulk d) v := by
  unfold ckOf at hk
  split at hk
  · rename_i ht
    cases hk
    obtain ⟨b, rfl, hx⟩ := DataW.trod_bool ht h
    exact ⟨.b b, _, rfl, ⟨b, rfl⟩, fun μ => rfl, rfl, trivial⟩
  · rename_i ht
    cases hk
    obtain ⟨s, rfl, hx, _⟩ := DataW.trod_string ht h
    cases hx
    refine ⟨.s s.data.toList, _, rfl, ⟨_, rfl⟩, fun μ => rfl, rfl, ?_⟩
    rw [bulks.string_eq]
    exact Nat.le_succ _
  · rename_i ik ht
    cases hk
    obtain ⟨z, rfl, hx, hw⟩ := DataW.trod_int ht h
    exact ⟨.i ik z, _, rfl, ⟨z, rfl, hw⟩, fun μ => ⟨rfl, rfl⟩, rfl, trivial⟩
  · cases hk
def ckS (P : Program) : List Field → Nat → Option (List CK)
  | [], _ => some []
  | f :: r, o => if f.offset = o ∧ P.cellsOf f.type = 1 then (ckOf (P.underlying f.type)).bind fun k => (ckS P r (o + 1)).map (k :: ·) else none
def ckT (P : Program) (t : TypeId) : Option (List CK) := match P.underlying t with
  | some (.struct fs) => (ckS P fs.toList 0).bind fun ks => if P.cellsOf t = ks.length then some ks else none
  | u => (ckOf u).map fun k => [k]
theorem trod_flatS {n : Nat} {cs : List Value} : ∀ (fs : List Field) (o : Nat) (ks : List CK) (xs : List (DataW H × List MemPlace)), ckS P fs o = some ks → xs.length = fs.length →
    (∀ (i : Nat) (f : Field), fs[i]? = some f → DataW.trod enc P w base sp held n f.type ((cs.drop f.offset).take (P.cellsOf f.type)) = xs[i]?) →
    ∃ vs, KL ks vs ∧ (∀ μ, VRL μ vs ((cs.drop o).take ks.length)) ∧ ∀ v ∈ vs, v.ok1 = true ∧ SB (Rows.uptoBulkAll (xs.map (·.1))) v
  | [], o, ks, xs, hk, _, _ => by
    cases hk
    exact ⟨[], trivial, fun μ => by simp [VRL], by simp⟩
  | f :: r, o, ks, xs, hk, hl, hf => by
    match xs, hl with
    | x0 :: xs, hl =>
      simp only [ckS] at hk
      split at hk
      case isFalse => cases hk
      case isTrue hc =>
      obtain ⟨rfl, hc⟩ := hc
      simp only [Option.bind_eq_some_iff, Option.map_eq_some_iff] at hk
      obtain ⟨k, hk1, ks', hk2, rfl⟩ := hk
      have h0 := hf 0 f rfl
      rw [hc] at h0
      obtain ⟨v, x, hx, h1, h2, h3, h4⟩ := trod_one hk1 (show _ = some (x0.1, x0.2) from h0)
      obtain ⟨vs, e1, e2, e3⟩ := trod_flatS r (f.offset + 1) ks' xs hk2 (by simpa using hl) (fun i g hg => hf (i + 1) g hg)
      refine ⟨v :: vs, ⟨h1, e1⟩, fun μ => ?_, fun u hu => ?_⟩
      · cases hd : cs.drop f.offset with
        | nil => rw [hd] at hx; simp at hx
        | cons z zs =>
          rw [hd] at hx
          simp at hx
          subst hx
          have : cs.drop (f.offset + 1) = zs := by rw [← List.drop_drop, hd]; rfl
          have e2 := e2 μ
          rw [this] at e2
          exact ⟨h2 μ, e2⟩
      · simp only [List.map_cons, Rows.uptoBulkAll]
        rcases List.mem_cons.1 hu with rfl | hu
        · exact ⟨h3, SB.le (by omega) h4⟩
        · exact ⟨(e3 u hu).1, SB.le (by omega) (e3 u hu).2⟩
theorem trod_flat {n : Nat} {t : TypeId} {cs : List Value} {d : DataW H} {ps : List MemPlace} {ks : List CK} (hk : ckT P t = some ks) (h : DataW.trod enc P w base sp held n t cs = some (d, ps)) :
    ∃ vs, KL ks vs ∧ (∀ μ, VRL μ vs cs) ∧ ∀ v ∈ vs, v.ok1 = true ∧ SB (Rows.uptoBulk d) v := by
  unfold ckT at hk
  split at hk
  · rename_i fs ht
    simp only [Option.bind_eq_some_iff] at hk
    obtain ⟨ks', hk, hk2⟩ := hk
    split at hk2
    case isFalse => cases hk2
    case isTrue hc =>
    cases hk2
    obtain ⟨xs, m, _, hx, hl, hlen, hf⟩ := DataW.trod_struct ht h
    cases hx
    obtain ⟨vs, e1, e2, e3⟩ := trod_flatS fs.toList 0 ks xs hk (by simpa using hlen) (fun i f hi => hf i f (by simpa using hi))
    refine ⟨vs, e1, fun μ => ?_, fun v hv => ⟨(e3 v hv).1, SB.le (by simp only [Rows.uptoBulk]; omega) (e3 v hv).2⟩⟩
    have := e2 μ
    rwa [List.drop_zero, ← hc, ← hl, List.take_length] at this
  · simp only [Option.map_eq_some_iff] at hk
    obtain ⟨k, hk, rfl⟩ := hk
    obtain ⟨v, x, rfl, h1, h2, h3, h4⟩ := trod_one hk h
    exact ⟨[v], ⟨h1, trivial⟩, fun μ => ⟨h2 μ, trivial⟩, by simpa using ⟨h3, h4⟩⟩
end

/-- What has been opened so far: boxes that nobody writes. -/
structure Opn (P : Program) (W : World) (μ : Mu) (h : Heap) (nx : Nat) : Prop where
  box : ∀ id b, h id = some b → id < nx ∧ b.rw = false ∧ ∃ l, μ id = some l ∧ l.g < W.heap.size ∧ BR P μ W l b
  free : ∀ id, nx ≤ id → μ id = none
theorem Opn.nil (P : Program) (W : World) : Opn P W (fun _ => none) (fun _ => none) 0 := ⟨fun _ _ h => (by cases h), fun _ _ => rfl⟩
theorem Opn.sr {P : Program} {W : World} {μ : Mu} {h : Heap} {nx : Nat} (o : Opn P W μ h nx) (hs : Start P W) : SR P μ h W :=
  ⟨⟨W, hs, Nat.le_refl _, fun _ _ => rfl, fun id b l h1 h2 _ => (by rw [(o.box id b h1).2.1] at h2; cases h2)⟩, fun id b hb => (o.box id b hb).2.2,
    fun i j b c l m h1 h2 _ _ _ _ => (by rw [(o.box i b h1).2.1] at h2; cases h2)⟩
theorem Opn.more {P : Program} {W : World} {μ : Mu} {h : Heap} {nx : Nat} (o : Opn P W μ h nx) : Opn P W μ h (nx + 1) :=
  ⟨fun id b hb => ⟨Nat.lt_succ_of_lt (o.box id b hb).1, (o.box id b hb).2⟩, fun id hi => o.free id (by omega)⟩
/-- What a slice opens into. -/
def Opened {H α : Type} (encα : α → List V) (sz : Nat) (good : α → DataW H → Prop) (P : Program) (W : World) (μ : Mu) (h : Heap) (nx : Nat) (d : DataW H) (x : Value) : Prop :=
  ∃ (xs : List α) (u : V) (μ' : Mu) (h' : Heap), VR μ' u x ∧ Sl encα sz h' (nx + 1) u xs ∧ Opn P W μ' h' (nx + 1) ∧ Ext μ μ' ∧ (∀ j, j < nx → h' j = h j) ∧ xs.length ≤ Rows.uptoBulk d ∧ ∀ a ∈ xs, ∃ dx, good a dx ∧ Rows.uptoBulk dx ≤ Rows.uptoBulk d
theorem addr_plain {a : Addr} (h : a.spot = none) (k : Nat) : a.add k = ⟨a.block, a.off + k, none⟩ := by
  unfold Addr.add
  split
  · rename_i e
    subst e
    cases a
    simp_all
  · rfl
theorem spot_none {W : World} {a : Addr} {v : Value} (h : W.cell? a = some v) : a.spot = none ∧ a.block < W.heap.size := by
  constructor
  · cases hs : a.spot with
    | none => rfl
    | some s =>
      simp only [World.cell?] at h
      split at h
      · simp [hs] at h
      · cases h
  · rcases Nat.lt_or_ge a.block W.heap.size with h1 | h1
    · exact h1
    · simp [World.cell?, Array.getElem?_eq_none h1] at h
theorem Opn.slice {H α : Type} [Inhabited α] {enc : TypeId × Value → H} {P : Program} {W : World} {base : Nat} {sp : Nat → Bool} {held : Bool} {encα : α → List V} {sz : Nat} {good : α → DataW H → Prop} (hsz : ∀ x, (encα x).length = sz) (hpos : 0 < sz) {t e : TypeId} {n : Nat} {cs : List Value} {d : DataW H} {ps : List MemPlace}
    (ht : P.underlying t = some (.slice e)) (hc : P.cellsOf e = sz)
    (hel : ∀ m c d p, DataW.trod enc P W base sp held m e c = some (d, p) → ∃ x, (∀ μ, VRL μ (encα x) c) ∧ (∀ u ∈ encα x, u.ok1 = true) ∧ good x d)
    (h : DataW.trod enc P W base sp held n t cs = some (d, ps)) {μ : Mu} {hp : Heap} {nx : Nat} (ho : Opn P W μ hp nx) : ∃ x, cs = [x] ∧ Opened encα sz good P W μ hp nx d x := by
  rcases Deep.open_slice ht h with ⟨rfl, hx⟩ | ⟨a, len, cap, m, q, D, Pl, rfl, hb, hl, hm, hmm, hx, hi⟩
  · cases hx
    exact ⟨_, rfl, [], .sn, μ, hp, ⟨rfl, rfl⟩, Sl.nil _ _ _ _, ho.more, Ext.refl _, fun _ _ => rfl, by simp, by simp⟩
  · cases hx
    refine ⟨_, rfl, ?_⟩
    by_cases h0 : len = 0
    · subst h0
      exact ⟨[], .se, μ, hp, rfl, .inl ⟨.inr rfl, rfl, rfl⟩, ho.more, Ext.refl _, fun _ _ => rfl, by simp, by simp⟩
    · have hle : len ≤ m := by rw [hmm]; split <;> omega
      obtain ⟨X, hX⟩ := Deep.choose_lt (α := α) (n := len) (p := fun i x => ∃ c, W.cells? base (a.add (i * sz)) sz = some c ∧ (∀ μ, VRL μ (encα x) c) ∧ (∀ u ∈ encα x, u.ok1 = true) ∧ good x (D i)) (fun i hlt => by
        obtain ⟨c, h1, h2⟩ := hi i (by omega)
        rw [hc] at h1
        obtain ⟨x, e1, e2, e3⟩ := hel q c (D i) (Pl i) h2
        exact ⟨x, c, h1, e1, e2, e3⟩)
      have hsp : a.spot = none ∧ a.block < W.heap.size := by
        obtain ⟨c, h1, _⟩ := hX 0 (by omega)
        obtain ⟨_, h2, h3⟩ := World.cells?_some h1
        have h4 := h3 0 hpos
        rw [Nat.zero_mul, Deep.add_add] at h4
        have h5 : a.add (0 + 0) = a := by simp [Addr.add]
        rw [h5, List.getElem?_eq_getElem (by omega)] at h4
        exact spot_none h4
      have hlen : ((List.range len).map X).length = len := by simp
      have hn : μ nx = none := ho.free nx (Nat.le_refl _)
      have hg : ∀ i, i < len → ∃ c, W.cells? base (a.add (i * sz)) sz = some c ∧ (∀ μ, VRL μ (encα (X i)) c) ∧ (∀ u ∈ encα (X i), u.ok1 = true) ∧ good (X i) (D i) := hX
      have hcl : (((List.range len).map X).flatMap encα).length = len * sz := by rw [flatMap_len hsz, hlen]
      have hbr : ∀ ν : Mu, BR P ν W ⟨a.block, a.off, cap⟩ (.arr false 9 (((List.range len).map X).flatMap encα)) := fun ν => ⟨fun j u hj => by
        have hj2 : j < len * sz := by rw [← hcl]; exact (List.getElem?_eq_some_iff.1 hj).1
        have hi2 : j / sz < len := Nat.div_lt_of_lt_mul (by rw [Nat.mul_comm]; exact hj2)
        have hk2 : j % sz < sz := Nat.mod_lt _ hpos
        have hd : j / sz * sz + j % sz = j := by rw [Nat.mul_comm]; exact Nat.div_add_mod j sz
        obtain ⟨c, h1, h2, h3, _⟩ := hg (j / sz) hi2
        have h4 := cut_at (flatMap_cut hsz ((List.range len).map X) (j / sz) (by rw [hlen]; exact hi2)) hk2
        rw [hd, hj] at h4
        simp only [List.getElem_map, List.getElem_range] at h4
        refine ⟨h3 u (List.mem_of_getElem? h4.symm), ?_⟩
        obtain ⟨y, h5, h6⟩ := VRL.get (j % sz) (h2 ν) h4.symm
        refine ⟨y, ?_, h6⟩
        have h7 := (World.cells?_some h1).2.2 (j % sz) hk2
        rw [Deep.add_add, hd, addr_plain hsp.1] at h7
        show W.cell? ⟨a.block, a.off + j, none⟩ = some y
        rw [h7, h5], fun h => by cases h⟩
      refine ⟨(List.range len).map X, .sl nx 0 len len false, μ.set nx ⟨a.block, a.off, cap⟩, hp.set nx (some (.arr false 9 (((List.range len).map X).flatMap encα))), ?_, ?_, ?_, Mu.ext _ hn, fun j hj => Heap.set_ne _ _ (by omega), ?_, ?_⟩
      · refine ⟨_, Mu.set_same _ _ _, ?_, rfl, Nat.le_refl _, hl, fun h => (by cases h), fun _ => Nat.le_refl _⟩
        cases a
        simp_all
      · refine .inr ⟨nx, 0, len, false, false, 9, _, ?_, Nat.lt_succ_self _, Heap.set_same _ _ _, ?_⟩
        · rw [hlen]
        · rw [hlen, ← hcl]; exact cut_all _
      · refine ⟨fun id b hb => ?_, fun id hid => ?_⟩
        · by_cases hid : id = nx
          · subst hid
            rw [Heap.set_same] at hb
            cases hb
            exact ⟨Nat.lt_succ_self _, rfl, _, Mu.set_same _ _ _, hsp.2, hbr _⟩
          · rw [Heap.set_ne _ _ hid] at hb
            obtain ⟨h1, h2, l, h3, h4, h5⟩ := ho.box id b hb
            exact ⟨by omega, h2, l, Mu.ext _ hn _ _ h3, h4, h5.keep (Mu.ext _ hn) rfl⟩
        · rw [Mu.set_ne _ _ (by omega)]
          exact ho.free id (by omega)
      · have h1 := bulks.slice_le ((List.range len).map D) ((List.range (m - len)).map fun j => D (len + j))
        simp only [List.length_map, List.length_range] at h1 ⊢
        omega
      · intro x hx
        obtain ⟨i, hlt, rfl⟩ := List.mem_map.1 hx
        have hlt := List.mem_range.1 hlt
        obtain ⟨c, _, _, _, h4⟩ := hg i hlt
        refine ⟨D i, h4, ?_⟩
        have h5 := bulks.part_le (d := D i) (l := (List.range len).map D) (List.mem_map.2 ⟨i, List.mem_range.2 hlt, rfl⟩)
        have h6 := bulks.slice_elems ((List.range len).map D) ((List.range (m - len)).map fun j => D (len + j))
        omega
end Go.Dm
