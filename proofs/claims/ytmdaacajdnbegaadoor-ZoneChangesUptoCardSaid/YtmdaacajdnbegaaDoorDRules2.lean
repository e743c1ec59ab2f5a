/- The rules of what makes, looks into and writes boxes; numbers and texts. -/
import Derived.Test.YtmdaacajdnbegaaDoorDRules
namespace Go.Dm
open Go
set_option linter.unusedSimpArgs false
set_option linter.unusedVariables false

theorem Heap.set_of_ne {h : Heap} {k j : Nat} {x : Option Box} (hj : j ≠ k) : h.set k x j = h j := Heap.set_ne h x hj
theorem heap_rules (h : Heap) : (∀ k x, h.set k x k = x) := fun k x => Heap.set_same h k x

theorem make_base (h : Heap) (nx : Nat) (wl : List Nat) (K : V → St → Prop) :
    (∀ ty zero, WO (.new ty zero) [] ⟨h, nx, wl⟩ K = K (.p nx 0) ⟨h.set nx (some (.arr true ty zero)), nx + 1, wl⟩) ∧
    (∀ ty n x, WO (.box ty n) [x] ⟨h, nx, wl⟩ K = if x.cells.length = n ∧ x.cells.all V.ok1 = true then K (.p nx 0) ⟨h.set nx (some (.arr true ty x.cells)), nx + 1, wl⟩ else False) ∧
    (∀ ty sz ln zero pl vs, WO (.bsl ty sz ln zero pl) vs ⟨h, nx, wl⟩ K = WBL (fillD (List.replicate ln zero).flatten (pl.map fun k => (k * sz, sz)) vs) fun cs => K (.sl nx 0 ln ln true) ⟨h.set nx (some (.arr true ty cs)), nx + 1, wl⟩) ∧
    (∀ n id off, WO (.ld true n) [.p id off] ⟨h, nx, wl⟩ K = WBX (h id) fun b => WBL (match b with | .arr _ _ cs => cut cs off n | _ => none) fun c => K (.agg c) ⟨h, nx, wl⟩) ∧
    (∀ id off, WO (.ld false 1) [.p id off] ⟨h, nx, wl⟩ K = WBX (h id) fun b => WB (match b with | .arr _ _ cs => cs[off]? | _ => none) fun v => K v ⟨h, nx, wl⟩) ∧
    (∀ ty l, WO (.cvb ty) [.s l] ⟨h, nx, wl⟩ K = if l.length ≤ 140737488355328 then K (.sl nx 0 l.length l.length false) ⟨h.set nx (some (.arr true ty (l.map fun c => .i .u8 c.toNat))), nx + 1, wl⟩ else False) ∧
    (WO .mkm [] ⟨h, nx, wl⟩ K = K (.m nx) ⟨h.set nx (some (.map [])), nx + 1, wl⟩) ∧
    (WO .cvs [.sn] ⟨h, nx, wl⟩ K = K (.s []) ⟨h, nx, wl⟩) ∧
    (∀ id off ln lb ex, WO .cvs [.sl id off ln lb ex] ⟨h, nx, wl⟩ K = WBX (h id) fun b => WB (match b with | .arr _ _ cs => (cut cs off ln).bind fun c => (bytesOfCells c).map .s | _ => none) fun v => K v ⟨h, nx, wl⟩) ∧
    (∀ kt zero ok id k, WO (.look kt zero ok) [.m id, k] ⟨h, nx, wl⟩ K = WBX (h id) fun b => WB (sLook kt zero ok [.m id, k] [b]) fun v => K v ⟨h, nx, wl⟩) ∧
    (∀ ty sz bytes zero k l k' c, WO (.mks ty sz bytes zero) [.i k l, .i k' c] ⟨h, nx, wl⟩ K = if 0 ≤ l ∧ l = c ∧ l * bytes ≤ 281474976710656 ∧ l ≤ 9223372036854775807 then K (.sl nx 0 l.toNat l.toNat true) ⟨h.set nx (some (.arr true ty (List.replicate l.toNat zero).flatten)), nx + 1, wl⟩ else False) := by
  refine ⟨?_, ?_, ?_, ?_, ?_, ?_, ?_, ?_, ?_, ?_, ?_⟩ <;> intros
  · rfl
  · rename_i ty n x
    simp only [WO, ltX, LOp.rd, fetch, LOp.sem, sBox, Option.bind_some]
    by_cases hc : x.cells.length = n ∧ x.cells.all V.ok1 = true
    · rw [if_pos hc, if_pos hc]; rfl
    · rw [if_neg hc, if_neg hc]; rfl
  · rename_i ty sz ln zero pl vs
    simp only [WO, ltX, LOp.rd, fetch, LOp.sem, sBsl, Option.bind_some]
    cases fillD _ _ _ <;> rfl
  · rename_i n id off
    simp only [WO, ltX, LOp.rd, fetch, LOp.sem]
    cases h id with
    | none => rfl
    | some b =>
      cases b with
      | arr rw ty cs =>
        simp only [Option.bind_some, Option.map_some, sLd, WBX, one]
        cases cut cs off n <;> rfl
      | map es => rfl
  · rename_i id off
    simp only [WO, ltX, LOp.rd, fetch, LOp.sem]
    cases h id with
    | none => rfl
    | some b =>
      cases b with
      | arr rw ty cs =>
        simp only [Option.bind_some, Option.map_some, sLd, WBX, one, cut]
        by_cases hc : off < cs.length
        · rw [if_pos (by omega), List.getElem?_eq_getElem hc]
          simp [List.head?_take, hc, vres, WB, St.apply, Heap.sets, Heap.adds]
        · rw [if_neg (by omega), List.getElem?_eq_none (by omega)]
          rfl
      | map es => rfl
  · rename_i ty l
    simp only [WO, ltX, LOp.rd, fetch, LOp.sem, sCvb, Option.bind_some]
    by_cases hc : l.length ≤ 140737488355328
    · rw [if_pos hc, if_pos hc]; rfl
    · rw [if_neg hc, if_neg hc]; rfl
  · rfl
  · rfl
  · rename_i id off ln lb ex
    simp only [WO, ltX, LOp.rd, fetch, LOp.sem]
    cases h id with
    | none => rfl
    | some b =>
      cases b with
      | arr rw ty cs =>
        simp only [Option.bind_some, Option.map_some, sCvs, WBX]
        generalize (cut cs off ln).bind (fun c => (bytesOfCells c).map V.s) = z
        cases z <;> rfl
      | map es => rfl
  · rename_i kt zero ok id k
    simp only [WO, ltX, LOp.rd, fetch, LOp.sem]
    cases h id with
    | none => rfl
    | some b =>
      simp only [Option.bind_some, Option.map_some, WBX]
      cases sLook kt zero ok [.m id, k] [b] <;> rfl
  · rename_i ty sz bytes zero k l k' c
    simp only [WO, ltX, LOp.rd, fetch, LOp.sem, sMks, Option.bind_some]
    by_cases hc : 0 ≤ l ∧ l = c ∧ l * bytes ≤ 281474976710656 ∧ l ≤ 9223372036854775807
    · rw [if_pos hc, if_pos hc]; rfl
    · rw [if_neg hc, if_neg hc]; rfl
/-- Writing. -/
theorem write_base (h : Heap) (nx : Nat) (wl : List Nat) (K : V → St → Prop) :
    (∀ n id off x, WO (.st n) [.p id off, x] ⟨h, nx, wl⟩ K = WBX (h id) fun b => WBL (match b with | .arr true _ cs => if x.cells.length = n ∧ x.cells.all V.ok1 = true then splice cs off x.cells else none | _ => none) fun c => K .u ⟨h.set id (some (.arr true (match b with | .arr _ ty _ => ty | _ => 0) c)), nx, id :: wl⟩) ∧
    (∀ kt id k v, WO (.mup kt) [.m id, k, v] ⟨h, nx, wl⟩ K = WBX (h id) fun b => match b with
      | .map es => if okK kt k = true then (match findD kt k es 0 with | some (some (n, _)) => K .u ⟨h.set id (some (.map (es.set n (k, v)))), nx, id :: wl⟩ | some none => K .u ⟨h.set id (some (.map (es ++ [(k, v)]))), nx, id :: wl⟩ | none => False) else False
      | _ => False) := by
  constructor <;> intros
  · rename_i n id off x
    simp only [WO, ltX, LOp.rd, fetch, LOp.sem]
    cases h id with
    | none => rfl
    | some b =>
      cases b with
      | arr rw ty cs =>
        cases rw with
        | false => rfl
        | true =>
          simp only [Option.bind_some, Option.map_some, sSt, WBX]
          by_cases hc : x.cells.length = n ∧ x.cells.all V.ok1 = true
          · rw [if_pos hc, if_pos hc]
            cases splice cs off x.cells <;> rfl
          · rw [if_neg hc, if_neg hc]; rfl
      | map es => rfl
  · rename_i kt id k v
    simp only [WO, ltX, LOp.rd, fetch, LOp.sem]
    cases h id with
    | none => rfl
    | some b =>
      cases b with
      | arr rw ty cs => rfl
      | map es =>
        simp only [Option.bind_some, Option.map_some, sMup, WBX]
        by_cases hc : okK kt k = true
        · rw [if_pos hc, if_pos hc]
          cases findD kt k es 0 with
          | none => rfl
          | some r => cases r <;> rfl
        · rw [if_neg hc, if_neg hc]; rfl
def Box.cutB (b : Box) (off n : Nat) : Option (List V) := match b with | .arr _ _ cs => cut cs off n | _ => none
def Box.getB (b : Box) (off : Nat) : Option V := match b with | .arr _ _ cs => cs[off]? | _ => none
def Box.textB (b : Box) (off ln : Nat) : Option V := match b with | .arr _ _ cs => (cut cs off ln).bind fun c => (bytesOfCells c).map .s | _ => none
def Box.splB (b : Box) (off n : Nat) (x : V) : Option (List V) := match b with | .arr true _ cs => if x.cells.length = n ∧ x.cells.all V.ok1 = true then splice cs off x.cells else none | _ => none
def Box.tyB : Box → Nat | .arr _ ty _ => ty | _ => 0
def Box.putB (b : Box) (kt : KT) (k v : V) : Option Box := match b with
  | .map es => if okK kt k = true then (match findD kt k es 0 with | some (some (n, _)) => some (.map (es.set n (k, v))) | some none => some (.map (es ++ [(k, v)])) | none => none) else none
  | _ => none
theorem box_rules : (∀ rw ty cs off n, Box.cutB (.arr rw ty cs) off n = cut cs off n) ∧ (∀ rw ty cs off, Box.getB (.arr rw ty cs) off = cs[off]?) ∧ (∀ rw ty cs off ln, Box.textB (.arr rw ty cs) off ln = (cut cs off ln).bind fun c => (bytesOfCells c).map .s) ∧
    (∀ ty cs off n x, Box.splB (.arr true ty cs) off n x = if x.cells.length = n ∧ x.cells.all V.ok1 = true then splice cs off x.cells else none) ∧ (∀ rw ty cs, Box.tyB (.arr rw ty cs) = ty) :=
  ⟨fun _ _ _ _ _ => rfl, fun _ _ _ _ => rfl, fun _ _ _ _ _ => rfl, fun _ _ _ _ _ => rfl, fun _ _ _ => rfl⟩
theorem make_rules :
    (∀ h nx wl K ty zero t, FO (.new ty zero) [] ⟨h, nx, wl⟩ K t = K (.p nx 0) ⟨h.set nx (some (.arr true ty zero)), nx + 1, wl⟩) ∧
    (∀ h nx wl K ty n x t, FO (.box ty n) [x] ⟨h, nx, wl⟩ K t = FA (x.cells.length = n ∧ x.cells.all V.ok1 = true) (K (.p nx 0) ⟨h.set nx (some (.arr true ty x.cells)), nx + 1, wl⟩) .mk) ∧
    (∀ h nx wl K ty sz ln zero pl vs t, FO (.bsl ty sz ln zero pl) vs ⟨h, nx, wl⟩ K t = FBL (fillD (List.replicate ln zero).flatten (pl.map fun k => (k * sz, sz)) vs) (fun cs => K (.sl nx 0 ln ln true) ⟨h.set nx (some (.arr true ty cs)), nx + 1, wl⟩) .mk) ∧
    (∀ h nx wl K n id off t, FO (.ld true n) [.p id off] ⟨h, nx, wl⟩ K t = FBX (h id) (fun b => FBL (b.cutB off n) (fun c => K (.agg c) ⟨h, nx, wl⟩) .mk) .mk) ∧
    (∀ h nx wl K id off t, FO (.ld false 1) [.p id off] ⟨h, nx, wl⟩ K t = FBX (h id) (fun b => FB (b.getB off) (fun v => K v ⟨h, nx, wl⟩) .mk) .mk) ∧
    (∀ h nx wl K ty l t, FO (.cvb ty) [.s l] ⟨h, nx, wl⟩ K t = FA (l.length ≤ 140737488355328) (K (.sl nx 0 l.length l.length false) ⟨h.set nx (some (.arr true ty (l.map fun c => .i .u8 c.toNat))), nx + 1, wl⟩) .mk) ∧
    (∀ h nx wl K t, FO .mkm [] ⟨h, nx, wl⟩ K t = K (.m nx) ⟨h.set nx (some (.map [])), nx + 1, wl⟩) ∧
    (∀ h nx wl K t, FO .cvs [.sn] ⟨h, nx, wl⟩ K t = K (.s []) ⟨h, nx, wl⟩) ∧
    (∀ h nx wl K id off ln lb ex t, FO .cvs [.sl id off ln lb ex] ⟨h, nx, wl⟩ K t = FBX (h id) (fun b => FB (b.textB off ln) (fun v => K v ⟨h, nx, wl⟩) .mk) .mk) ∧
    (∀ h nx wl K kt zero ok id k t, FO (.look kt zero ok) [.m id, k] ⟨h, nx, wl⟩ K t = FBX (h id) (fun b => FB (sLook kt zero ok [.m id, k] [b]) (fun v => K v ⟨h, nx, wl⟩) .mk) .mk) ∧
    (∀ h nx wl K ty sz bytes zero k l k' c t, FO (.mks ty sz bytes zero) [.i k l, .i k' c] ⟨h, nx, wl⟩ K t = FA (0 ≤ l ∧ l = c ∧ l * bytes ≤ 281474976710656 ∧ l ≤ 9223372036854775807) (K (.sl nx 0 l.toNat l.toNat true) ⟨h.set nx (some (.arr true ty (List.replicate l.toNat zero).flatten)), nx + 1, wl⟩) .mk) ∧
    (∀ h nx wl K n id off x t, FO (.st n) [.p id off, x] ⟨h, nx, wl⟩ K t = FBX (h id) (fun b => FBL (b.splB off n x) (fun c => K .u ⟨h.set id (some (.arr true b.tyB c)), nx, id :: wl⟩) .mk) .mk) ∧
    (∀ h nx wl K kt id k v t, FO (.mup kt) [.m id, k, v] ⟨h, nx, wl⟩ K t = FBX (h id) (fun b => FBX (b.putB kt k v) (fun b => K .u ⟨h.set id (some b), nx, id :: wl⟩) .mk) .mk) := by
  refine ⟨?_, ?_, ?_, ?_, ?_, ?_, ?_, ?_, ?_, ?_, ?_, ?_, ?_⟩ <;> intros h nx wl K
  · intros; exact (make_base h nx wl K).1 _ _
  · intros; exact ((make_base h nx wl K).2.1 _ _ _).trans (by simp [FA])
  · intros; exact (make_base h nx wl K).2.2.1 _ _ _ _ _ _
  · intros; exact (make_base h nx wl K).2.2.2.1 _ _ _
  · intros; exact (make_base h nx wl K).2.2.2.2.1 _ _
  · intros; exact ((make_base h nx wl K).2.2.2.2.2.1 _ _).trans (by simp [FA])
  · intros; exact (make_base h nx wl K).2.2.2.2.2.2.1
  · intros; exact (make_base h nx wl K).2.2.2.2.2.2.2.1
  · intros; exact (make_base h nx wl K).2.2.2.2.2.2.2.2.1 _ _ _ _ _
  · intros; exact (make_base h nx wl K).2.2.2.2.2.2.2.2.2.1 _ _ _ _ _
  · intros; exact ((make_base h nx wl K).2.2.2.2.2.2.2.2.2.2 _ _ _ _ _ _ _ _).trans (by simp [FA])
  · intros; exact (write_base h nx wl K).1 _ _ _ _
  · intro kt id k v t
    refine ((write_base h nx wl K).2 kt id k v).trans ?_
    simp only [FBX]
    cases h id with
    | none => rfl
    | some b =>
      cases b with
      | arr rw ty cs => rfl
      | map es =>
        simp only [WBX, Box.putB]
        by_cases hc : okK kt k = true
        · rw [if_pos hc, if_pos hc]
          cases findD kt k es 0 with
          | none => rfl
          | some r => cases r <;> rfl
        · rw [if_neg hc, if_neg hc]
/-- Appending: nothing, to none, in place, to one that is full. -/
theorem app_nil {h : Heap} {nx : Nat} {wl : List Nat} {K : V → St → Prop} {t : Tag K} {ty sz bytes : Nat} {s x : V} (hs : s = .sn ∨ s = .se ∨ ∃ id off len lb ex b, s = .sl id off len lb ex ∧ h id = some b)
    (hx : x = .sn ∨ x = .se) : FO (.app ty sz bytes) [s, x] ⟨h, nx, wl⟩ K t = K s ⟨h, nx, wl⟩ := by
  rcases hs with rfl | rfl | ⟨id, off, len, lb, ex, b, rfl, hb⟩ <;> rcases hx with rfl | rfl
  all_goals simp [FO, WO, ltX, LOp.rd, fetch, LOp.sem, sApp, appD, newsD, St.apply, Heap.sets, Heap.adds, *]
theorem app_new {h : Heap} {nx : Nat} {wl : List Nat} {K : V → St → Prop} {t : Tag K} {ty sz bytes : Nat} {id off len lb : Nat} {ex rw : Bool} {ty' : Nat} {cs c : List V} (hb : h id = some (.arr rw ty' cs)) (hc : cut cs off (len * sz) = some c)
    (hl : len ≠ 0) (hn : len * bytes ≤ 140737488355328) :
    FO (.app ty sz bytes) [.sn, .sl id off len lb ex] ⟨h, nx, wl⟩ K t = K (.sl nx 0 len len false) ⟨h.set nx (some (.arr true ty c)), nx + 1, wl⟩ := by
  simp [FO, WO, ltX, LOp.rd, fetch, LOp.sem, sApp, appD, newsD, St.apply, Heap.sets, Heap.adds, hb, hc, hl, hn]
/-- On to what is its own. -/
theorem app_own {h : Heap} {nx : Nat} {wl : List Nat} {K : V → St → Prop} {t : Tag K} {ty sz bytes : Nat} {jd jl : Nat} {jlb : Nat} {js : List V} {id off len lb : Nat} {ex rw : Bool} {ty' : Nat} {cs c : List V}
    (hj : h jd = some (.arr true ty js)) (hjl : js.length = jl * sz) (hb : h id = some (.arr rw ty' cs)) (hc : cut cs off (len * sz) = some c)
    (hl : len ≠ 0) (hn : (jl + len) * bytes ≤ 140737488355328) :
    FO (.app ty sz bytes) [.sl jd 0 jl jlb false, .sl id off len lb ex] ⟨h, nx, wl⟩ K t = K (.sl nx 0 (jl + len) (jl + len) false) ⟨(h.set jd none).set nx (some (.arr true ty (js ++ c))), nx + 1, jd :: wl⟩ := by
  simp [FO, WO, ltX, LOp.rd, fetch, LOp.sem, sApp, appD, newsD, St.apply, Heap.sets, Heap.adds, hb, hc, hl, hn, hj, hjl]
/-- On to one whose room is known and too small. -/
theorem app_full {h : Heap} {nx : Nat} {wl : List Nat} {K : V → St → Prop} {t : Tag K} {ty sz bytes : Nat} {jd jo jl : Nat} {jlb : Nat} {jr : Bool} {jt : Nat} {js jc : List V} {id off len lb : Nat} {ex rw : Bool} {ty' : Nat} {cs c : List V}
    (hj : h jd = some (.arr jr jt js)) (hjl : cut js jo (jl * sz) = some jc) (hb : h id = some (.arr rw ty' cs)) (hc : cut cs off (len * sz) = some c)
    (hl : len ≠ 0) (hn : (jl + len) * bytes ≤ 140737488355328) (hf : jlb < jl + len) :
    FO (.app ty sz bytes) [.sl jd jo jl jlb true, .sl id off len lb ex] ⟨h, nx, wl⟩ K t = K (.sl nx 0 (jl + len) (jl + len) false) ⟨h.set nx (some (.arr true ty (jc ++ c))), nx + 1, wl⟩ := by
  simp [FO, WO, ltX, LOp.rd, fetch, LOp.sem, sApp, appD, newsD, St.apply, Heap.sets, Heap.adds, hb, hc, hl, hn, hj, hjl, hf]

/-! ### numbers and texts -/
theorem num_rules (k : IntKind) (x y : Int) :
    binD .add (.i k x) (.i k y) = some (.i k (k.wrap (x + y))) ∧ binD .sub (.i k x) (.i k y) = some (.i k (k.wrap (x - y))) ∧ binD .mul (.i k x) (.i k y) = some (.i k (k.wrap (x * y))) ∧
    binD .eql (.i k x) (.i k y) = some (.b (x == y)) ∧ binD .neq (.i k x) (.i k y) = some (.b (x != y)) ∧ binD .lss (.i k x) (.i k y) = some (.b (decide (x < y))) ∧ binD .leq (.i k x) (.i k y) = some (.b (decide (x ≤ y))) ∧
    binD .gtr (.i k x) (.i k y) = some (.b (decide (y < x))) ∧ binD .geq (.i k x) (.i k y) = some (.b (decide (y ≤ x))) ∧
    binD .and (.i k x) (.i k y) = bitsD .and k x y ∧ binD .or (.i k x) (.i k y) = bitsD .or k x y ∧ binD .xor (.i k x) (.i k y) = bitsD .xor k x y ∧
    binD .quo (.i k x) (.i k y) = (if y = 0 then none else some (.i k (k.wrap (x.tdiv y)))) ∧ binD .rem (.i k x) (.i k y) = (if y = 0 then none else some (.i k (x.tmod y))) ∧
    (∀ k', binD .shl (.i k x) (.i k' y) = shiftD .shl k x y) ∧ (∀ k', binD .shr (.i k x) (.i k' y) = shiftD .shr k x y) := by
  refine ⟨?_, ?_, ?_, ?_, ?_, ?_, ?_, ?_, ?_, ?_, ?_, ?_, ?_, ?_, ?_, ?_⟩ <;> first | (intro; rfl) | simp [binD, intD, intCmpD]
theorem text_rules (x y : List UInt8) : binD .eql (.s x) (.s y) = some (.b (x == y)) ∧ binD .neq (.s x) (.s y) = some (.b (!(x == y))) := ⟨rfl, rfl⟩
theorem text_add {x y : List UInt8} (h : x.length + y.length ≤ 9223372036854775807) : binD .add (.s x) (.s y) = some (.s (x ++ y)) := by simp [binD, strD, h]
theorem wrap_i64 {x : Int} (a : -9223372036854775808 ≤ x) (b : x ≤ 9223372036854775807) : IntKind.wrap .i64 x = x := by
  simp only [IntKind.wrap, IntKind.signed, IntKind.bits]
  have : (2 : Int) ^ 64 = 18446744073709551616 := by decide
  simp only [Bool.true_and, decide_eq_true_eq]
  split <;> rename_i h <;> first | omega | (simp at h; omega)
theorem wrap_u8 {x : Int} (a : 0 ≤ x) (b : x ≤ 255) : IntKind.wrap .u8 x = x := by
  simp [IntKind.wrap, IntKind.signed, IntKind.bits]
  omega
theorem eqD_rules : (∀ x y, eqD .bool (.b x) (.b y) = some (x == y)) ∧ (eqD .ptr .pn .pn = some true) ∧ (∀ a b, eqD .ptr (.p a b) .pn = some false) ∧ (eqD .slc .sn .sn = some true) ∧ (∀ a b c d e, eqD .slc (.sl a b c d e) .sn = some false) ∧ (eqD .slc .se .sn = some false) ∧ (∀ x, eqD .ifc (.e x) (.e true) = some x) :=
  ⟨fun _ _ => rfl, rfl, fun _ _ => rfl, rfl, fun _ _ _ _ _ => rfl, rfl, fun x => by cases x <;> rfl⟩
def andO (a b : Option Bool) : Option Bool := match a with
  | some true => b
  | some false => some false
  | none => none
theorem eqs_rules : (eqs [] [] [] = some true) ∧ (∀ k ks x xs y ys, eqs (k :: ks) (x :: xs) (y :: ys) = andO (eq1 k x y) (eqs ks xs ys)) ∧ (∀ a b, andO (some a) (some b) = some (a && b)) ∧ (∀ x y, eq1 .b (.b x) (.b y) = some (x == y)) ∧ (∀ k x y, eq1 .i (.i k x) (.i k y) = some (x == y)) ∧ (∀ x y, eq1 .s (.s x) (.s y) = some (x == y)) := by
  refine ⟨rfl, ?_, ?_, fun _ _ => rfl, fun _ _ _ => by simp [eq1], fun _ _ => rfl⟩
  · intro k ks x xs y ys
    simp only [eqs, andO]
    cases eq1 k x y with
    | none => rfl
    | some z => cases z <;> rfl
  · intro a b
    cases a <;> rfl
/-! ### cells -/
theorem cut_rules : (∀ x cs k n, cut (x :: cs) (k + 1) n = cut cs k n) ∧ (∀ cs, cut cs 0 0 = some []) ∧ (∀ x cs n, cut (x :: cs) 0 (n + 1) = (cut cs 0 n).map fun c => x :: c) := by
  refine ⟨?_, ?_, ?_⟩ <;> intros
  · rename_i x cs k n
    simp only [cut, List.length_cons, List.drop_succ_cons]
    by_cases h : k + n ≤ cs.length
    · rw [if_pos h, if_pos (by omega)]
    · rw [if_neg h, if_neg (by omega)]
  · simp [cut]
  · rename_i x cs n
    simp only [cut, List.length_cons, List.drop_zero, Nat.zero_add]
    by_cases h : n ≤ cs.length
    · rw [if_pos h, if_pos (by omega)]; rfl
    · rw [if_neg h, if_neg (by omega)]; rfl
def spl (cs : List V) (new : List V) : Option (List V) := splice cs 0 new
theorem splice_rules : (∀ x cs k new, splice (x :: cs) (k + 1) new = (splice cs k new).map fun c => x :: c) ∧ (∀ cs, splice cs 0 [] = some cs) ∧ (∀ x cs y new, splice (x :: cs) 0 (y :: new) = (splice cs 0 new).map fun c => y :: c) := by
  refine ⟨?_, ?_, ?_⟩ <;> intros
  · rename_i x cs k new
    simp only [splice, List.length_cons, List.take_succ_cons]
    by_cases h : k + new.length ≤ cs.length
    · rw [if_pos h, if_pos (by omega)]
      simp [show k + 1 + new.length = (k + new.length) + 1 by omega]
    · rw [if_neg h, if_neg (by omega)]; rfl
  · simp [splice]
  · rename_i x cs y new
    simp only [splice, List.length_cons, Nat.zero_add]
    by_cases h : new.length ≤ cs.length
    · rw [if_pos h, if_pos (by omega)]; simp
    · rw [if_neg h, if_neg (by omega)]; rfl
theorem fill_rules : (∀ cells, fillD cells [] [] = some cells) ∧ (∀ cells off sz pl v vs, fillD cells ((off, sz) :: pl) (v :: vs) = if v.cells.length = sz ∧ v.cells.all V.ok1 = true then (splice cells off v.cells).bind fun c => fillD c pl vs else none) := ⟨fun _ => rfl, fun _ _ _ _ _ _ => by simp [fillD]⟩
theorem cells_rules : (∀ x, V.cells (.b x) = [.b x]) ∧ (∀ k x, V.cells (.i k x) = [.i k x]) ∧ (∀ x, V.cells (.s x) = [.s x]) ∧ (∀ a b, V.cells (.p a b) = [.p a b]) ∧ (V.cells .pn = [.pn]) ∧ (∀ a b c d e, V.cells (.sl a b c d e) = [.sl a b c d e]) ∧ (V.cells .sn = [.sn]) ∧ (V.cells .se = [.se]) ∧ (∀ a, V.cells (.m a) = [.m a]) ∧ (∀ f a c, V.cells (.fn f a c) = [.fn f a c]) ∧ (V.cells .fz = [.fz]) ∧ (∀ x, V.cells (.e x) = [.e x]) ∧ (∀ cs, V.cells (.agg cs) = cs) :=
  ⟨fun _ => rfl, fun _ _ => rfl, fun _ => rfl, fun _ _ => rfl, rfl, fun _ _ _ _ _ => rfl, rfl, rfl, fun _ => rfl, fun _ _ _ => rfl, rfl, fun _ => rfl, fun _ => rfl⟩
theorem ok_rules : (∀ x, V.ok1 (.b x) = true) ∧ (∀ k x, V.ok1 (.i k x) = true) ∧ (∀ x, V.ok1 (.s x) = true) ∧ (∀ a b, V.ok1 (.p a b) = true) ∧ (V.ok1 .pn = true) ∧ (∀ a b c d e, V.ok1 (.sl a b c d e) = true) ∧ (V.ok1 .sn = true) ∧ (V.ok1 .se = true) ∧ (∀ a, V.ok1 (.m a) = true) ∧ (∀ f a c, V.ok1 (.fn f a c) = true) ∧ (V.ok1 .fz = true) ∧ (∀ x, V.ok1 (.e x) = true) :=
  ⟨fun _ => rfl, fun _ _ => rfl, fun _ => rfl, fun _ _ => rfl, rfl, fun _ _ _ _ _ => rfl, rfl, rfl, fun _ => rfl, fun _ _ _ => rfl, rfl, fun _ => rfl⟩

/-! ### results -/
def FQ (h : Heap) (fr : Fr) (rs : List IRes) (K : V → Prop) (_ : Tag K) : Prop := WQ h fr rs K
def FCell (x : V) (h : Heap) (agg : Bool) (n : Nat) (K : V → Prop) (_ : Tag K) : Prop := match x with
  | .p id off => WBX (h id) fun b => match (b.cutB off n).bind (one agg n) with | some v => K v | none => False
  | _ => False
theorem WQ_rules : (∀ h fr a K t, FQ h fr [.t a] K t = K (fr.get a)) ∧ (∀ h fr a b K t, FQ h fr [.t a, .t b] K t = K (.tup [fr.get a, fr.get b])) ∧ (∀ h fr a b c K t, FQ h fr [.t a, .t b, .t c] K t = K (.tup [fr.get a, fr.get b, fr.get c])) ∧ (∀ h fr a b c d K t, FQ h fr [.t a, .t b, .t c, .t d] K t = K (.tup [fr.get a, fr.get b, fr.get c, fr.get d])) ∧ (∀ h fr K t, FQ h fr [] K t = K (.tup [])) ∧
    (∀ h fr a ag n K t, FQ h fr [.cell a ag n] K t = FCell (fr.get a) h ag n K .mk) ∧
    (∀ h fr a ag n b K t, FQ h fr [.cell a ag n, .t b] K t = FCell (fr.get a) h ag n (fun v => K (.tup [v, fr.get b])) .mk) ∧
    (∀ h fr a ag n b c K t, FQ h fr [.cell a ag n, .t b, .t c] K t = FCell (fr.get a) h ag n (fun v => K (.tup [v, fr.get b, fr.get c])) .mk) ∧
    (∀ id off h n K t, FCell (.p id off) h true n K t = FBX (h id) (fun b => FBL (b.cutB off n) (fun c => K (.agg c)) .mk) .mk) ∧
    (∀ id off h K t, FCell (.p id off) h false 1 K t = FBX (h id) (fun b => FB (b.getB off) K .mk) .mk) := by
  have cellT : ∀ (h : Heap) (fr : Fr) (a : Nat) (ag : Bool) (n : Nat) (K : V → Prop), (match resD h fr (.cell a ag n) with | some v => K v | none => False) = FCell (fr.get a) h ag n K .mk := by
    intro h fr a ag n K
    simp only [resD, FCell]
    cases fr.get a <;> try rfl
    rename_i id off
    simp only [WBX]
    cases h id with
    | none => rfl
    | some b => cases b <;> rfl
  refine ⟨fun _ _ _ _ _ => rfl, fun _ _ _ _ _ _ => rfl, fun _ _ _ _ _ _ _ => rfl, fun _ _ _ _ _ _ _ _ => rfl, fun _ _ _ _ => rfl, ?_, ?_, ?_, ?_, ?_⟩
  · intro h fr a ag n K t
    rw [← cellT]
    simp only [FQ, WQ, ressD]
    cases resD h fr (.cell a ag n) <;> rfl
  · intro h fr a ag n b K t
    rw [← cellT]
    simp only [FQ, WQ, ressD]
    cases resD h fr (.cell a ag n) <;> rfl
  · intro h fr a ag n b c K t
    rw [← cellT]
    simp only [FQ, WQ, ressD]
    cases resD h fr (.cell a ag n) <;> rfl
  · intro id off h n K t
    simp only [FCell, FBX, FBL]
    cases h id with
    | none => rfl
    | some b =>
      simp only [WBX, WBL]
      cases b.cutB off n <;> rfl
  · intro id off h K t
    simp only [FCell, FBX, FB]
    cases h id with
    | none => rfl
    | some b =>
      simp only [WBX, WB]
      cases b with
      | map es => rfl
      | arr rw ty cs =>
        simp only [Box.cutB, Box.getB, one, cut]
        by_cases hc : off < cs.length
        · rw [if_pos (by omega), List.getElem?_eq_getElem hc, List.drop_eq_getElem_cons hc]
          rfl
        · rw [if_neg (by omega), List.getElem?_eq_none (by omega)]
          rfl

/-! ### into the reckoning, and out of it -/
variable {G : Lib}
/-- What a function that only looks must show in the end: it wrote only what it made. -/
def Fin (nx n : Nat) (wl : List Nat) (P : Prop) : Prop := (∀ j, j ∈ wl → nx ≤ j ∧ j < n) ∧ P
theorem fin_rules : (∀ nx n P, Fin nx n [] P = P) ∧ (∀ nx n j wl P, Fin nx n (j :: wl) P = ((nx ≤ j ∧ j < n) ∧ Fin nx n wl P)) := by
  constructor
  · intros; simp [Fin]
  · intro nx n j wl P; simp [Fin, and_assoc]
theorem And.fin {nx n : Nat} {wl : List Nat} {a P : Prop} (h : a) (k : Fin nx n wl P) : a ∧ Fin nx n wl P := ⟨h, k⟩
theorem Fin.more {nx n n' : Nat} {wl : List Nat} {P : Prop} (h : ∀ j, j ∈ wl → nx ≤ j ∧ j < n) (hn : n ≤ n') (p : P) : Fin nx n' wl P := ⟨fun j hj => by have := h j hj; omega, p⟩
theorem SpecP.walk {f : Nat} {F : IFunc} {vs : List V} {h : Heap} {nx : Nat} {Q : V → Heap → Nat → Prop} (hg : G.prim f = none ∧ G.fn f = some F) (hn : Nat.ble vs.length F.n = true)
    (hw : FP G F.code (Fr.of vs 0) ⟨h, nx, []⟩ (fun fr st => FQ st.h fr F.res (fun v => Fin nx st.nx st.wl (Q v st.h st.nx)) .mk) (fun _ _ _ => False)
      (fun fr st => FQ st.h fr F.res (fun v => Fin nx st.nx st.wl (Q v st.h st.nx)) .mk) .mk) : SpecP G f vs h nx Q := by
  have key : ∀ (e : Ex) (fr : Fr) (st : St), CodeTo G F.code (Fr.of vs 0) { h, nx, wl := [] } (e, fr, st) → (e = .n ∨ e = .r) → FQ st.h fr F.res (fun v => Fin nx st.nx st.wl (Q v st.h st.nx)) .mk → SpecP G f vs h nx Q := by
    intro e fr st hc he b
    have : Spec G f vs h nx fun v h' nx' wl => wl = [] ∧ Q v h' nx' := by
      refine Spec.of_codeTo hg.1 hg.2 (Nat.le_of_ble_eq_true hn) hc he ?_
      unfold FQ WQ at b
      unfold WQ
      split at b
      · refine ⟨?_, b.2⟩
        rw [List.filter_eq_nil_iff]
        intro j hj
        simp [b.1 j hj]
      · exact b.elim
    exact Spec.mono this.stay fun v h' nx' wl ⟨⟨e, q⟩, n, s⟩ => ⟨e, n, fun j hj => s j (.inl hj) (by rw [e]; simp), q⟩
  obtain ⟨e, fr, st, hc, hq⟩ := WP_ok F.code hw
  cases e with
  | n => exact key _ _ _ hc (.inl rfl) hq
  | r => exact key _ _ _ hc (.inr rfl) hq
  | x _ => exact hq.elim
/-- A function that writes, too. -/
theorem Spec.walk {f : Nat} {F : IFunc} {vs : List V} {h : Heap} {nx : Nat} {Q : V → Heap → Nat → List Nat → Prop} (hg : G.prim f = none ∧ G.fn f = some F) (hn : Nat.ble vs.length F.n = true)
    (hw : FP G F.code (Fr.of vs 0) ⟨h, nx, []⟩ (fun fr st => FQ st.h fr F.res (fun v => Q v st.h st.nx (st.wl.filter fun id => !decide (nx ≤ id ∧ id < st.nx))) .mk) (fun _ _ _ => False)
      (fun fr st => FQ st.h fr F.res (fun v => Q v st.h st.nx (st.wl.filter fun id => !decide (nx ≤ id ∧ id < st.nx))) .mk) .mk) : Spec G f vs h nx Q :=
  Spec.code hg.1 hg.2 (Nat.le_of_ble_eq_true hn) hw
/-- A call that only looks, met on the way. -/
theorem SpecP.go {f : Nat} {vs : List V} {h : Heap} {nx : Nat} {Q : V → Heap → Nat → Prop} {K : V → Heap → Nat → List Nat → Prop} {t : Tag K} (a : SpecP G f vs h nx Q)
    (b : ∀ v h' nx', nx ≤ nx' → (∀ j, j < nx → h' j = h j) → Q v h' nx' → K v h' nx' []) : FS G f vs h nx K t := SpecP.use a b
theorem Spec.go {f : Nat} {vs : List V} {h : Heap} {nx : Nat} {Q K : V → Heap → Nat → List Nat → Prop} {t : Tag K} (a : Spec G f vs h nx Q) (b : ∀ v h' nx' wl, Q v h' nx' wl → K v h' nx' wl) : FS G f vs h nx K t := Spec.mono a b
/-- A call that answers and touches no box. -/
def Ret (G : Lib) (f : Nat) (vs : List V) (v : V) : Prop := ∀ h nx, CallTo G f vs h nx (v, h, nx, [])
theorem Ret.fs {f : Nat} {vs : List V} {v : V} (a : Ret G f vs v) : ∀ h nx K t, FS G f vs h nx K t = K v h nx [] := fun h nx K _ => (a h nx).spec K
theorem Ret.of {f : Nat} {vs : List V} {v : V} (a : ∀ h nx, Spec G f vs h nx fun v' h' nx' wl => v' = v ∧ h' = h ∧ nx' = nx ∧ wl = []) : Ret G f vs v := by
  intro h nx
  obtain ⟨_, _, _, _, c, rfl, rfl, rfl, rfl⟩ := a h nx
  exact c
theorem Ret.walk {f : Nat} {F : IFunc} {vs : List V} {v : V} (hg : G.prim f = none ∧ G.fn f = some F) (hn : Nat.ble vs.length F.n = true)
    (hw : ∀ h nx, FP G F.code (Fr.of vs 0) ⟨h, nx, []⟩ (fun fr st => FQ st.h fr F.res (fun v' => v' = v ∧ st = ⟨h, nx, []⟩) .mk) (fun _ _ _ => False) (fun fr st => FQ st.h fr F.res (fun v' => v' = v ∧ st = ⟨h, nx, []⟩) .mk) .mk) : Ret G f vs v := by
  refine Ret.of fun h nx => ?_
  have key : ∀ fr (st : St), FQ st.h fr F.res (fun v' => v' = v ∧ st = ⟨h, nx, []⟩) .mk → FQ st.h fr F.res (fun v' => v' = v ∧ st.h = h ∧ st.nx = nx ∧ (st.wl.filter fun id => !decide (nx ≤ id ∧ id < st.nx)) = []) .mk := by
    intro fr st b
    unfold FQ WQ at b ⊢
    split at b
    · obtain ⟨a, rfl⟩ := b
      exact ⟨a, rfl, rfl, rfl⟩
    · exact b.elim
  obtain ⟨e, fr, st, hc, hq⟩ := WP_ok F.code (hw h nx)
  cases e with
  | n => exact Spec.of_codeTo hg.1 hg.2 (Nat.le_of_ble_eq_true hn) hc (.inl rfl) (key _ _ hq)
  | r => exact Spec.of_codeTo hg.1 hg.2 (Nat.le_of_ble_eq_true hn) hc (.inr rfl) (key _ _ hq)
  | x _ => exact hq.elim
theorem Ret.specP {f : Nat} {vs : List V} {v : V} (a : Ret G f vs v) (h : Heap) (nx : Nat) : SpecP G f vs h nx fun v' _ _ => v' = v := ⟨_, _, _, _, a h nx, rfl, Nat.le_refl _, fun _ _ => rfl, rfl⟩
/-- A function that is told. -/
theorem prim_to {f : Nat} {p : List V → Heap → Nat → Option Res} (hp : G.prim f = some p) {vs : List V} {h : Heap} {nx : Nat} {r : Res} (e : p vs h nx = some r) : CallTo G f vs h nx (r.v, (h.sets r.wr).adds nx r.nw, nx + r.nw.length, r.wr.map (·.1)) := by
  refine ⟨1, fun k L hk _ => ?_⟩
  obtain ⟨k, rfl⟩ : ∃ k', k = k' + 1 := ⟨k - 1, by omega⟩
  simp only [Lib.call]
  rw [show (G.at L).prim f = some p from hp]
  simp only [e, Option.map_some]
theorem Ret.prim {f : Nat} {p : List V → Heap → Nat → Option Res} (hp : G.prim f = some p) {vs : List V} {v : V} (e : ∀ h nx, p vs h nx = some { v }) : Ret G f vs v := fun h nx => prim_to hp (e h nx)
theorem SpecP.prim {f : Nat} {p : List V → Heap → Nat → Option Res} (hp : G.prim f = some p) {vs : List V} {h : Heap} {nx : Nat} {r : Res} (e : p vs h nx = some r) (hw : r.wr = []) {Q : V → Heap → Nat → Prop} (q : Q r.v (h.adds nx r.nw) (nx + r.nw.length)) : SpecP G f vs h nx Q := by
  have c := prim_to hp e
  rw [hw] at c
  exact ⟨_, _, _, _, c, rfl, Nat.le_add_right _ _, fun j hj => Heap.adds_other _ _ _ _ (.inl hj), q⟩
/-- A loop, met on the way. -/
theorem FL.inv {c : ICode} {fr : Fr} {st : St} {X : Nat → Fr → St → Prop} {R : Fr → St → Prop} {t : Tag2 X R} (I : Nat → Fr → St → Prop) (m : Nat) (h0 : I m fr st)
    (step : ∀ m fr' st', Rnd c.dsts fr st fr' st' → I m fr' st' → FP G c fr' st' (fun fr2 st2 => Rnd c.dsts fr st fr2 st2 → ∃ m2, m2 < m ∧ I m2 fr2 st2) (fun j fr2 st2 => Rnd c.dsts fr st fr2 st2 → X j fr2 st2) (fun fr2 st2 => Rnd c.dsts fr st fr2 st2 → R fr2 st2) .mk) :
    FL G c fr st X R t := WL_inv I m h0 step
end Go.Dm
