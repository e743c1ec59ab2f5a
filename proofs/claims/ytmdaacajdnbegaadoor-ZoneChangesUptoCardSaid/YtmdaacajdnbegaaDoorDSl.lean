/- Slices and pointers as lists. -/
import Derived.Test.YtmdaacajdnbegaaDoorDRules2
namespace Go.Dm
open Go
set_option linter.unusedSimpArgs false
set_option linter.unusedVariables false
abbrev Str := List UInt8
def lowByte (x : Int) : UInt8 := UInt8.ofNat (IntKind.wrap .u8 x).toNat
def bytesP : Nat → Int → Str
  | 0, _ => []
  | k + 1, x => bytesP k (x.fdiv 256) ++ [lowByte x]
theorem bytesP_len : ∀ k x, (bytesP k x).length = k
  | 0, _ => rfl
  | k + 1, x => by simp [bytesP, bytesP_len k]

theorem cut_length {cs c : List V} {off n : Nat} (h : cut cs off n = some c) : c.length = n := by
  simp only [cut] at h
  split at h
  · cases h
    simp only [List.length_take, List.length_drop]
    omega
  · cases h
theorem cut_at {cs c : List V} {off n : Nat} (h : cut cs off n = some c) {k : Nat} (hk : k < n) : cs[off + k]? = c[k]? := by
  simp only [cut] at h
  split at h
  · cases h
    rw [List.getElem?_take, if_pos hk, List.getElem?_drop]
  · cases h
theorem cut_cut {cs c : List V} {off n o m : Nat} (h : cut cs off n = some c) (hk : o + m ≤ n) : cut cs (off + o) m = cut c o m := by
  have hl := cut_length h
  simp only [cut] at h
  split at h
  · cases h
    simp only [cut]
    rw [if_pos (by omega), if_pos (by omega), List.drop_take, List.take_take, List.drop_drop, Nat.min_eq_left (by omega)]
  · cases h
theorem cut_all (cs : List V) : cut cs 0 cs.length = some cs := by simp [cut]

/-- Here stand such cells. -/
def PtrTo (h : Heap) (nx : Nat) (p : V) (cells : List V) : Prop := ∃ id off rw ty cs, p = .p id off ∧ id < nx ∧ h id = some (.arr rw ty cs) ∧ cut cs off cells.length = some cells
/-- A slice of n elements with such cells. -/
def SlC (h : Heap) (nx sz : Nat) (v : V) (n : Nat) (cells : List V) : Prop :=
  ((v = .sn ∨ v = .se) ∧ n = 0 ∧ cells = []) ∨ ∃ id off lb ex rw ty cs, v = .sl id off n lb ex ∧ id < nx ∧ h id = some (.arr rw ty cs) ∧ cut cs off (n * sz) = some cells
def Sl {α : Type} (enc : α → List V) (sz : Nat) (h : Heap) (nx : Nat) (v : V) (xs : List α) : Prop := SlC h nx sz v xs.length (xs.flatMap enc)
theorem SlC.mono {h h' : Heap} {nx nx' sz : Nat} {v : V} {n : Nat} {cells : List V} (a : SlC h nx sz v n cells) (hk : ∀ j, j < nx → h' j = h j) (hn : nx ≤ nx') : SlC h' nx' sz v n cells := by
  rcases a with a | ⟨id, off, lb, ex, rw_, ty, cs, rfl, hid, hb, hc⟩
  · exact .inl a
  · exact .inr ⟨id, off, lb, ex, rw_, ty, cs, rfl, by omega, by rw [hk id hid]; exact hb, hc⟩
theorem PtrTo.mono {h h' : Heap} {nx nx' : Nat} {v : V} {cells : List V} (a : PtrTo h nx v cells) (hk : ∀ j, j < nx → h' j = h j) (hn : nx ≤ nx') : PtrTo h' nx' v cells := by
  obtain ⟨id, off, rw_, ty, cs, rfl, hid, hb, hc⟩ := a
  exact ⟨id, off, rw_, ty, cs, rfl, by omega, by rw [hk id hid]; exact hb, hc⟩
theorem Sl.mono {α : Type} {enc : α → List V} {h h' : Heap} {nx nx' sz : Nat} {v : V} {xs : List α} (a : Sl enc sz h nx v xs) (hk : ∀ j, j < nx → h' j = h j) (hn : nx ≤ nx') : Sl enc sz h' nx' v xs := SlC.mono a hk hn
theorem SlC.plain {h : Heap} {nx sz : Nat} {v : V} {n : Nat} {cells : List V} (a : SlC h nx sz v n cells) : v.cells = [v] ∧ v.ok1 = true := by
  rcases a with ⟨rfl | rfl, _⟩ | ⟨id, off, lb, ex, rw_, ty, cs, rfl, _⟩ <;> exact ⟨rfl, rfl⟩
theorem Sl.plain {α : Type} {enc : α → List V} {h : Heap} {nx sz : Nat} {v : V} {xs : List α} (a : Sl enc sz h nx v xs) : v.cells = [v] ∧ v.ok1 = true := SlC.plain a
theorem SlC.len {h : Heap} {nx sz : Nat} {v : V} {n : Nat} {cells : List V} (a : SlC h nx sz v n cells) : ∀ st K t, FO (.len false) [v] st K t = K (.i .i64 n) st := by
  intro st K t
  rcases a with ⟨rfl | rfl, rfl, _⟩ | ⟨id, off, lb, ex, rw_, ty, cs, rfl, _⟩ <;> simp only [pure_rules, Int.ofNat_zero] <;> rfl
theorem Sl.len {α : Type} {enc : α → List V} {h : Heap} {nx sz : Nat} {v : V} {xs : List α} (a : Sl enc sz h nx v xs) : ∀ st K t, FO (.len false) [v] st K t = K (.i .i64 xs.length) st := SlC.len a
theorem flatMap_cut {α : Type} {enc : α → List V} {sz : Nat} (he : ∀ x, (enc x).length = sz) : ∀ (xs : List α) (i : Nat) (hi : i < xs.length), cut (xs.flatMap enc) (i * sz) sz = some (enc xs[i])
  | x :: xs, 0, _ => by
    simp only [List.flatMap_cons, Nat.zero_mul, cut, List.length_append, he, List.drop_zero, List.getElem_cons_zero]
    rw [if_pos (by omega), ← he x, List.take_left']
    rfl
  | x :: xs, i + 1, hi => by
    have ih := flatMap_cut he xs i (by simpa using hi)
    simp only [List.flatMap_cons, cut, List.length_append, he, List.getElem_cons_succ] at ih ⊢
    have e : (i + 1) * sz = sz + i * sz := by rw [Nat.succ_mul]; omega
    split at ih
    · rw [if_pos (by omega), e, ← ih]
      congr 1
      congr 1
      rw [← List.drop_drop, ← he x, List.drop_left']
      rfl
    · cases ih
theorem flatMap_len {α : Type} {enc : α → List V} {sz : Nat} (he : ∀ x, (enc x).length = sz) (xs : List α) : (xs.flatMap enc).length = xs.length * sz := by
  induction xs with
  | nil => simp
  | cons x xs ih => simp only [List.flatMap_cons, List.length_append, he, ih, List.length_cons, Nat.succ_mul]; omega
/-- An element's place. -/
theorem Sl.at {α : Type} {enc : α → List V} {h : Heap} {nx sz : Nat} {v : V} {xs : List α} (a : Sl enc sz h nx v xs) (he : ∀ x, (enc x).length = sz) (i : Nat) (hi : i < xs.length) :
    ∃ id off rw ty cs, id < nx ∧ h id = some (.arr rw ty cs) ∧ cut cs off sz = some (enc xs[i]) ∧ (∀ k, k < sz → cs[off + k]? = (enc xs[i])[k]?) ∧ ∀ k st K t, FO (.ia sz) [v, .i k (i : Int)] st K t = K (.p id off) st := by
  rcases a with ⟨_, h0, _⟩ | ⟨id, off, lb, ex, rw_, ty, cs, rfl, hid, hb, hc⟩
  · omega
  · have h1 : cut cs (off + i * sz) sz = some (enc xs[i]) := by
      rw [cut_cut hc, flatMap_cut he xs i hi]
      have : (i + 1) * sz ≤ xs.length * sz := Nat.mul_le_mul_right _ hi
      rw [Nat.succ_mul] at this
      omega
    refine ⟨id, off + i * sz, rw_, ty, cs, hid, hb, h1, fun k hk => cut_at h1 hk, fun k st K t => ?_⟩
    simp only [pure_rules]
    rw [if_pos (by omega)]
    rfl
theorem Sl.nil {α : Type} (enc : α → List V) (sz : Nat) (h : Heap) (nx : Nat) : Sl enc sz h nx .sn [] := .inl ⟨.inl rfl, rfl, rfl⟩
/-- A slice that grows: its box is its own, made from number lo on. -/
def Own (ty : Nat) (h : Heap) (lo nx sz : Nat) (v : V) (n : Nat) (cells : List V) : Prop :=
  (v = .sn ∧ n = 0 ∧ cells = []) ∨ ∃ id ex, v = .sl id 0 n n ex ∧ lo ≤ id ∧ id < nx ∧ h id = some (.arr true ty cells) ∧ cells.length = n * sz
theorem Own.nil (ty : Nat) (h : Heap) (lo nx sz : Nat) : Own ty h lo nx sz .sn 0 [] := .inl ⟨rfl, rfl, rfl⟩
theorem Own.slc {ty : Nat} {h : Heap} {lo nx sz : Nat} {v : V} {n : Nat} {cells : List V} (a : Own ty h lo nx sz v n cells) : SlC h nx sz v n cells := by
  rcases a with ⟨rfl, a⟩ | ⟨id, ex, rfl, _, h1, h2, h3⟩
  · exact .inl ⟨.inl rfl, a⟩
  · exact .inr ⟨id, 0, n, ex, true, ty, cells, rfl, h1, h2, by rw [← h3]; exact cut_all cells⟩
theorem Own.mono {ty : Nat} {h h' : Heap} {lo nx nx' sz : Nat} {v : V} {n : Nat} {cells : List V} (a : Own ty h lo nx sz v n cells) (hk : ∀ j, lo ≤ j → j < nx → h' j = h j) (hn : nx ≤ nx') : Own ty h' lo nx' sz v n cells := by
  rcases a with a | ⟨id, ex, rfl, h0, h1, h2, h3⟩
  · exact .inl a
  · exact .inr ⟨id, ex, rfl, h0, by omega, by rw [hk id h0 h1]; exact h2, h3⟩
/-- What an append to one's own leads to. -/
theorem Own.app {ty : Nat} {h : Heap} {lo nx sz bytes : Nat} {s x : V} {n m : Nat} {cells c : List V} {wl : List Nat} (a : Own ty h lo nx sz s n cells) (hx : SlC h nx sz x m c) (hlo : lo ≤ nx) (hb : (n + m) * bytes ≤ 140737488355328) (hz : sz ≠ 0) :
    ∃ s' h' nx' wl', nx ≤ nx' ∧ (∀ j, j < lo → h' j = h j) ∧ Own ty h' lo nx' sz s' (n + m) (cells ++ c) ∧ (∀ j, j ∈ wl' → j ∈ wl ∨ (lo ≤ j ∧ j < nx')) ∧ ∀ K t, FO (.app ty sz bytes) [s, x] ⟨h, nx, wl⟩ K t = K s' ⟨h', nx', wl'⟩ := by
  have hxl : c.length = m * sz := by
    rcases hx with ⟨_, rfl, rfl⟩ | ⟨id, off, lb, ex, rw_, ty', cs, rfl, hid, hb', hc⟩
    · simp
    · exact cut_length hc
  by_cases hm : m = 0
  · subst hm
    have hc0 : c = [] := List.eq_nil_of_length_eq_zero (by rw [hxl]; simp)
    subst hc0
    refine ⟨s, h, nx, wl, Nat.le_refl _, fun _ _ => rfl, by simpa using a, fun j hj => .inl hj, fun K t => ?_⟩
    rcases hx with ⟨hx, _, _⟩ | ⟨id, off, lb, ex, rw_, ty', cs, rfl, hid, hb', hc⟩
    · refine app_nil ?_ hx
      rcases a with ⟨rfl, _⟩ | ⟨id, ex, rfl, _, h1, h2, h3⟩
      · exact .inl rfl
      · exact .inr (.inr ⟨_, _, _, _, _, _, rfl, h2⟩)
    · simp only [Nat.zero_mul] at hc
      rcases a with ⟨rfl, rfl, rfl⟩ | ⟨jd, jx, rfl, _, h1, h2, h3⟩
      · simp [FO, WO, ltX, LOp.rd, fetch, LOp.sem, sApp, appD, newsD, St.apply, Heap.sets, Heap.adds, hb', hc]
      · simp [FO, WO, ltX, LOp.rd, fetch, LOp.sem, sApp, appD, newsD, St.apply, Heap.sets, Heap.adds, hb', hc, h2]
  · rcases hx with ⟨_, h0, _⟩ | ⟨id, off, lb, ex, rw_, ty', cs, rfl, hid, hb', hc⟩
    · exact absurd h0 hm
    · rcases a with ⟨rfl, rfl, rfl⟩ | ⟨jd, jx, rfl, h0, h1, h2, h3⟩
      · refine ⟨.sl nx 0 m m false, h.set nx (some (.arr true ty c)), nx + 1, wl, by omega, fun j hj => Heap.set_of_ne (by omega), .inr ⟨nx, false, by simp, hlo, by omega, by simp [Heap.set_same], by simpa using hxl⟩, fun j hj => .inl hj, fun K t => ?_⟩
        exact app_new hb' hc hm (by simpa using hb)
      · cases jx with
        | false =>
          refine ⟨.sl nx 0 (n + m) (n + m) false, (h.set jd none).set nx (some (.arr true ty (cells ++ c))), nx + 1, jd :: wl, by omega, fun j hj => ?_, .inr ⟨nx, false, rfl, hlo, by omega, by simp [Heap.set_same], by simp [h3, hxl, Nat.add_mul]⟩, fun j hj => ?_, fun K t => ?_⟩
          · rw [Heap.set_of_ne (by omega), Heap.set_of_ne (by omega)]
          · rcases List.mem_cons.1 hj with rfl | hj
            · exact .inr ⟨h0, by omega⟩
            · exact .inl hj
          · exact app_own h2 h3 hb' hc hm hb
        | true =>
          refine ⟨.sl nx 0 (n + m) (n + m) false, h.set nx (some (.arr true ty (cells ++ c))), nx + 1, wl, by omega, fun j hj => Heap.set_of_ne (by omega), .inr ⟨nx, false, rfl, hlo, by omega, by simp [Heap.set_same], by simp [h3, hxl, Nat.add_mul]⟩, fun j hj => .inl hj, fun K t => ?_⟩
          exact app_full h2 (by rw [← h3]; exact cut_all cells) hb' hc hm hb (by omega)
theorem Own.go {ty : Nat} {h h0 : Heap} {lo n0 nx sz bytes : Nat} {s x : V} {n m : Nat} {cells c : List V} {wl : List Nat} {K : V → St → Prop} {t : Tag K} (a : Own ty h0 lo n0 sz s n cells)
    (hk : ∀ j, lo ≤ j → j < n0 → h j = h0 j) (hn : n0 ≤ nx) (hx : SlC h nx sz x m c) (hlo : lo ≤ nx) (hb : (n + m) * bytes ≤ 140737488355328) (hz : sz ≠ 0)
    (k : ∀ s' h' nx' wl', nx ≤ nx' → (∀ j, j < lo → h' j = h j) → Own ty h' lo nx' sz s' (n + m) (cells ++ c) → (∀ j, j ∈ wl' → j ∈ wl ∨ (lo ≤ j ∧ j < nx')) → K s' ⟨h', nx', wl'⟩) :
    FO (.app ty sz bytes) [s, x] ⟨h, nx, wl⟩ K t := by
  obtain ⟨s', h', nx', wl', h1, h2, h3, h4, h5⟩ := (a.mono hk hn).app (wl := wl) (bytes := bytes) hx hlo hb hz
  rw [h5]
  exact k s' h' nx' wl' h1 h2 h3 h4
theorem SlC.lit {h : Heap} {nx id sz n : Nat} {ty : Nat} {cells : List V} {ex rw : Bool} {lb : Nat} (hid : id < nx) (hb : h id = some (.arr rw ty cells)) (hl : cells.length = n * sz) : SlC h nx sz (.sl id 0 n lb ex) n cells :=
  .inr ⟨id, 0, lb, ex, rw, ty, cells, rfl, hid, hb, by rw [← hl]; exact cut_all cells⟩
def byteCells (s : Str) : List V := s.map fun c => .i .u8 c.toNat
theorem bytesOfCells_ok : ∀ s : Str, bytesOfCells (byteCells s) = some s
  | [] => rfl
  | c :: r => by
    simp only [byteCells, List.map_cons, bytesOfCells]
    rw [show bytesOfCells (List.map (fun c => V.i .u8 (c.toNat : Int)) r) = some r from bytesOfCells_ok r]
    simp
theorem Own.text {ty : Nat} {h : Heap} {lo nx : Nat} {v : V} {s : Str} (a : Own ty h lo nx 1 v s.length (byteCells s)) (wl : List Nat) (K : V → St → Prop) (t : Tag K) : FO .cvs [v] ⟨h, nx, wl⟩ K t = K (.s s) ⟨h, nx, wl⟩ := by
  rcases a with ⟨rfl, hn, _⟩ | ⟨id, ex, rfl, _, h1, h2, h3⟩
  · have : s = [] := List.eq_nil_of_length_eq_zero hn
    subst this
    simp only [make_rules]
  · have e : cut (byteCells s) 0 s.length = some (byteCells s) := by
      have := cut_all (byteCells s)
      rwa [show (byteCells s).length = s.length by simp [byteCells]] at this
    simp only [make_rules, h2, WB_rules, box_rules, e, Option.bind_some, bytesOfCells_ok, Option.map_some]
end Go.Dm
