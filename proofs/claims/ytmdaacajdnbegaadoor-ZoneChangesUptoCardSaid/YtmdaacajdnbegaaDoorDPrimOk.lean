/- What the library's functions answer on the machine is what the contracts say. -/
import Derived.Test.YtmdaacajdnbegaaDoorDPrim
import Derived.Test.YtmdaacajdnbegaaDoorDCode
import Derived.ChangeAgain
import Derived.WalkSmall
import Derived.Sort.Grow
import Derived.Lib.IndexMore
import Derived.Lib.SplitLaws
import Derived.Lib.Strings
set_option linter.constructorNameAsVariable false
set_option linter.unusedSimpArgs false
set_option linter.unusedVariables false
set_option linter.unusedSectionVars false
namespace Go.Dm
open Go
/-! ### plain laws -/
theorem cutAt_eq (sep : List UInt8) : ∀ l : List UInt8, cutAt sep l = if 0 ≤ Lib.index l sep then some (l.take (Lib.index l sep).toNat, l.drop ((Lib.index l sep).toNat + sep.length)) else none
  | [] => by
    unfold cutAt Lib.index
    cases sep <;> simp
  | b :: l => by
    unfold cutAt Lib.index
    split
    · rename_i h; simp
    · rw [cutAt_eq sep l]
      have hge := Lib.index_ge l sep
      by_cases h : Lib.index l sep = -1
      · simp [h]
      · have h1 : (Lib.index l sep == -1) = false := by simpa using h
        have h2 : 0 ≤ Lib.index l sep := by omega
        have h3 : 0 ≤ Lib.index l sep + 1 := by omega
        have h4 : (Lib.index l sep + 1).toNat = (Lib.index l sep).toNat + 1 := by omega
        simp only [h1, if_pos h2, if_pos h3, h4, Option.map_some, Bool.false_eq_true, if_false, List.take_succ_cons, Nat.add_right_comm _ 1, List.drop_succ_cons]
theorem cut_cutAt (l sep : List UInt8) : Lib.cut l sep = match cutAt sep l with | some (a, b) => (a, b, true) | none => (l, [], false) := by
  unfold Lib.cut
  rw [cutAt_eq]
  split <;> rfl

theorem splitOn1_length (c : UInt8) : ∀ l, (splitOn1 c l).length = l.count c + 1
  | [] => rfl
  | x :: r => by
    have ih := splitOn1_length c r
    unfold splitOn1
    split
    · rename_i h; subst h; simp [ih]
    · rename_i h
      rw [List.count_cons_of_ne (by simpa using h)]
      split <;> rename_i e <;> rw [e] at ih <;> simp_all
theorem splitOn1_ne (c : UInt8) (l) : splitOn1 c l ≠ [] := by
  intro h
  have := splitOn1_length c l
  rw [h] at this; simp at this
theorem index_one (c b : UInt8) (l : List UInt8) : Lib.index (b :: l) [c] = if b = c then 0 else if Lib.index l [c] = -1 then -1 else Lib.index l [c] + 1 := by
  rw [Lib.index]
  by_cases h : b = c
  · simp [h, List.isPrefixOf]
  · have : ¬ c = b := fun e => h e.symm
    simp [h, List.isPrefixOf, this]
theorem splitK_one (c : UInt8) : ∀ (l : List UInt8) (k : Nat), l.count c ≤ k → Lib.splitK [c] 0 k l = splitOn1 c l
  | [], 0, _ => rfl
  | [], k + 1, _ => by simp [Lib.splitK, Lib.index, splitOn1]
  | x :: r, k, h => by
    unfold splitOn1
    split
    · rename_i e
      subst e
      cases k with
      | zero => simp at h
      | succ k =>
        have ih := splitK_one x r k (by simpa using h)
        have e : Lib.index (x :: r) [x] = 0 := by rw [index_one]; simp
        simp only [Lib.splitK, e]
        simp [ih]
    · rename_i e
      rw [List.count_cons_of_ne (by simpa using e)] at h
      have ih := splitK_one c r k h
      have e1 := index_one c x r
      rw [if_neg e] at e1
      cases k with
      | zero =>
        simp only [Lib.splitK] at ih ⊢
        rw [← ih]
      | succ k =>
        simp only [Lib.splitK] at ih ⊢
        by_cases hi : Lib.index r [c] = -1
        · rw [if_pos hi] at e1
          simp only [e1, hi, beq_self_eq_true, if_true] at ih ⊢
          rw [← ih]
        · rw [if_neg hi] at e1
          have hge := Lib.index_ge r [c]
          have n1 : ¬ (Lib.index r [c] == -1) = true := by simpa using hi
          have n2 : ¬ (Lib.index r [c] + 1 == -1) = true := by simp; omega
          rw [e1]
          rw [if_neg n1] at ih
          rw [if_neg n2, ← ih]
          have h4 : (Lib.index r [c] + 1).toNat = (Lib.index r [c]).toNat + 1 := by omega
          simp [h4, Nat.add_right_comm _ 1]
theorem splitOn1_eq (c : UInt8) (s : ByteArray) : (Lib.splitB ⟨#[c]⟩ 0 (Lib.countB s ⟨#[c]⟩) s).map (·.data.toList) = splitOn1 c s.data.toList := by
  rw [Lib.splitB_data]
  show Lib.splitK [c] 0 (Lib.count s.data.toList [c]) s.data.toList = _
  rw [Lib.count_one]
  exact splitK_one c _ _ (Nat.le_refl _)

theorem digs_eq : ∀ (k n : Nat) (acc : List UInt8), n < 10 ^ (k + 1) → digs (k + 1) n acc = Lib.decDigits n ++ acc
  | 0, n, acc, h => by
    have h : n < 10 := by simpa using h
    rw [digs, if_pos h, Lib.decDigits, dif_pos h]; rfl
  | k + 1, n, acc, h => by
    rw [digs, Lib.decDigits]
    by_cases hn : n < 10
    · rw [if_pos hn, dif_pos hn]; rfl
    · rw [if_neg hn, dif_neg hn, digs_eq k (n / 10) _ (by rw [Nat.pow_succ] at h; omega), List.append_assoc]; rfl
theorem decimal_eq (n : Int) (h0 : -9223372036854775808 ≤ n) (h1 : n ≤ 9223372036854775807) : decimal n = Lib.itoa n := by
  have h : n.natAbs < 10 ^ (29 + 1) := by have : (10 : Nat) ^ (29 + 1) = 1000000000000000000000000000000 := by decide
                                          omega
  unfold decimal Lib.itoa
  rw [digs_eq 29 _ _ h, List.append_nil]
  split
  · rfl
  · rw [show n.natAbs = n.toNat by omega]

/-! ### the first world -/
theorem Low.shaped {P : Program} {μ : Mu} {h : Heap} {w W : World} (l : Low P μ h w W) : w.ShapedOpen P := by
  have a := l.start.1
  have a : World.ShapedOpen P { w with heap := W.heap } := World.ShapedOpen.of_heap rfl a
  refine World.ShapedOpen.keptBut (may := fun _ => False) a ⟨rfl, rfl, fun i hi => ?_⟩ fun _ h => h.elim
  have e : w.heap[i]? = W.heap[i]? := l.same i hi
  have hi : i < W.heap.size := hi
  show (match W.heap[i]?, w.heap[i]? with | _, _ => _)
  rw [e, Array.getElem?_eq_getElem hi]
  cases W.heap[i] with
  | cells c t fr => exact ⟨rfl, rfl, rfl, fun _ _ => rfl⟩
  | map es cl => exact .inr ⟨rfl, rfl⟩
  | _ => rfl
theorem Low.tab {P : Program} {μ : Mu} {h : Heap} {w W : World} (l : Low P μ h w W) : Lib.TabIs P w "internal/strconv.uint64pow10" .u64 Lib.pow10Tab := by
  have a := l.start.2
  unfold Lib.TabIs World.var? at a ⊢
  simp only [Option.bind_eq_some_iff] at a ⊢
  obtain ⟨g, hg, a⟩ := a
  refine ⟨g, hg, ?_⟩
  have : g < W.heap.size := by
    rcases Nat.lt_or_ge g W.heap.size with h | h
    · exact h
    · rw [Array.getElem?_eq_none h] at a; simp at a
  rw [l.same g this]
  exact a
theorem drewN_heap (w : World) (n : Nat) : (w.drewN n).heap = w.heap := rfl
theorem str_eq {s : ByteArray} {l : List UInt8} (h : s.data.toList = l) : s.size = l.length := by rw [← h]; exact Lib.size_eq s
end Go.Dm
namespace Go.Dm
open Go
variable {P : Program}
/-- What the machine is told of a library function is so. -/
def PrimOK (P : Program) (f : Nat) (p : List V → Heap → Nat → Option Res) : Prop := Enters P f ∧ ∀ vs h nx r, p vs h nx = some r → ∀ (μ : Mu) (w : World) (args : Array Value), VRL μ vs args.toList → SR P μ h w → (∀ id, nx ≤ id → id < nx + r.nw.length → μ id = none) →
    Calls P f args w (Back P μ w (r.v, (h.sets r.wr).adds nx r.nw, nx + r.nw.length, r.wr.map (·.1)) nx)
theorem one_str {μ : Mu} {l : List UInt8} {x : Value} (h : VR μ (.s l) x) : ∃ s : ByteArray, x = .string s ∧ s.data.toList = l := by
  cases x <;> simp only [VR] at h
  exact ⟨_, rfl, h⟩
theorem two_strs {μ : Mu} {a b : List UInt8} {args : Array Value} (h : VRL μ [.s a, .s b] args.toList) : ∃ s t : ByteArray, args = #[.string s, .string t] ∧ s.data.toList = a ∧ t.data.toList = b := by
  obtain ⟨l⟩ := args
  match l, h with
  | [x, y], h =>
    simp only [VRL] at h
    obtain ⟨s, rfl, h1⟩ := one_str h.1
    obtain ⟨t, rfl, h2⟩ := one_str h.2.1
    exact ⟨s, t, rfl, h1, h2⟩
theorem back_drew {μ : Mu} {h : Heap} {w : World} {nx : Nat} {v : V} {y : Value} (hs : SR P μ h w) (hv : VR μ v y) (n : Nat) : Back P μ w (v, h, nx, []) nx (.returned y) (w.drewN n) :=
  ⟨μ, hv, hs.heap rfl, Tr.heap rfl rfl rfl rfl⟩
theorem prim_cut {f : Nat} (he : Enters P f) (hc : ∀ (s sep : ByteArray) (w : World), w.ShapedOpen P → s.size < 4294967281 → Calls P f #[.string s, .string sep] w fun e w' => e = .returned (.tuple #[.string ⟨(Lib.cut s.data.toList sep.data.toList).1.toArray⟩, .string ⟨(Lib.cut s.data.toList sep.data.toList).2.1.toArray⟩, .bool (Lib.cut s.data.toList sep.data.toList).2.2]) ∧ ∃ n, w' = w.drewN n) :
    PrimOK P f pCut := by
  refine ⟨he, fun vs h nx r hr μ w args hv hs hfr => ?_⟩
  unfold pCut at hr
  split at hr
  · rename_i l sep
    obtain ⟨s, t, rfl, rfl, rfl⟩ := two_strs hv
    split at hr
    · rename_i hl
      obtain ⟨W, low⟩ := hs.low
      refine (hc s t w low.shaped (by rw [str_eq rfl]; exact hl)).mono ?_
      rintro e w' ⟨rfl, n, rfl⟩
      rw [cut_cutAt]
      split at hr <;> rename_i e <;> rw [e] <;> cases hr <;> exact back_drew hs (by simp [VR, VRL]) n
    · cases hr
  · cases hr
theorem prim_suffix {f : Nat} (he : Enters P f) (hc : ∀ (s p : ByteArray) (w : World), s.size ≤ 9223372036854775807 → Calls P f #[.string s, .string p] w fun e w' => e = .returned (.bool (Lib.hasSuffix s.data.toList p.data.toList)) ∧ w' = w) :
    PrimOK P f pHasSuffix := by
  refine ⟨he, fun vs h nx r hr μ w args hv hs hfr => ?_⟩
  unfold pHasSuffix at hr
  split at hr
  · obtain ⟨s, t, rfl, rfl, rfl⟩ := two_strs hv
    split at hr
    · rename_i hl
      refine (hc s t w (by rw [str_eq rfl]; omega)).mono ?_
      rintro e w' ⟨rfl, rfl⟩
      cases hr
      exact ⟨μ, rfl, hs, Tr.refl _ _ _⟩
    · cases hr
  · cases hr
theorem prim_split {f : Nat} (he : Enters P f) (hz : P.cellsOf 9 = 1) (hc : ∀ (s sep : ByteArray) (w : World), w.ShapedOpen P → s.size < 4294967281 → 1 ≤ sep.size → Calls P f #[.string s, .string sep] w fun e w' =>
      e = .returned (.slice (some ⟨w.heap.size, 0, none⟩) (Lib.countB s sep + 1) (Lib.countB s sep + 1)) ∧ w' = w.alloc (.cells ((Lib.splitB sep 0 (Lib.countB s sep) s).map Value.string).toArray 9)) :
    PrimOK P f pSplit := by
  refine ⟨he, fun vs h nx r hr μ w args hv hs hfr => ?_⟩
  unfold pSplit at hr
  split at hr
  · rename_i l c
    obtain ⟨s, t, rfl, rfl, ht⟩ := two_strs hv
    obtain rfl : t = ⟨#[c]⟩ := by
      obtain ⟨⟨t⟩⟩ := t
      simp only at ht
      rw [ht]
    split at hr
    · rename_i hl
      obtain ⟨W, low⟩ := hs.low
      refine (hc s ⟨#[c]⟩ w low.shaped (by rw [str_eq rfl]; omega) (Nat.le_refl _)).mono ?_
      rintro e w' ⟨rfl, rfl⟩
      cases hr
      have hn : μ nx = none := hfr nx (Nat.le_refl _) (by simp)
      have hsp := splitOn1_eq c s
      generalize hlb : Lib.splitB ⟨#[c]⟩ 0 (Lib.countB s ⟨#[c]⟩) s = bs at hsp
      have hlen : (splitOn1 c s.data.toList).length = Lib.countB s ⟨#[c]⟩ + 1 := by
        rw [splitOn1_length]
        show _ = Lib.count s.data.toList [c] + 1
        rw [Lib.count_one]
      have hlb2 : bs.length = Lib.countB s ⟨#[c]⟩ + 1 := by rw [← hlen, ← hsp]; simp
      refine ⟨μ.set nx ⟨w.heap.size, 0, Lib.countB s ⟨#[c]⟩ + 1⟩, ?_, ?_, ?_⟩
      · simp only [VR, Mu.set_same, Option.some.injEq, exists_eq_left', hlen]
        simp
      · refine SR.new hs hn _ _ _ rfl ⟨fun j u hj => ?_, fun _ => ⟨rfl, _, _, heap_alloc_new _ _, Free.zero _, ?_⟩⟩
        · rw [← hsp] at hj
          simp only [List.map_map, List.getElem?_map, Option.map_eq_some_iff, Function.comp_apply] at hj
          obtain ⟨b, hb, rfl⟩ := hj
          refine ⟨rfl, .string b, ?_, rfl⟩
          rw [Nat.zero_add, cell_of_row _ _ j _ _ _ (heap_alloc_new _ _)]
          simp [hb]
        · simp [hz, hlb2]
      · exact Tr.alloc hn _ _ rfl
    · cases hr
  · cases hr
theorem prim_itoa {f : Nat} (he : Enters P f) (hc : ∀ (n : Int), -9223372036854775808 ≤ n → n ≤ 9223372036854775807 → ∀ (w : World), Lib.TabIs P w "internal/strconv.uint64pow10" .u64 Lib.pow10Tab →
    Calls P f #[.int .i64 n] w fun e w' => e = .returned (.string ⟨(Lib.itoa n).toArray⟩) ∧ ∃ k os, w' = Sort.grow (w.drewN k) os) :
    PrimOK P f pItoa := by
  refine ⟨he, fun vs h nx r hr μ w args hv hs hfr => ?_⟩
  unfold pItoa at hr
  split at hr
  · rename_i n
    obtain ⟨l⟩ := args
    match l, hv with
    | [x], hv =>
      simp only [VRL] at hv
      obtain ⟨hv, -⟩ := hv
      cases x <;> simp only [VR] at hv
      obtain ⟨rfl, rfl⟩ := hv
      split at hr
      · rename_i hl
        obtain ⟨W, low⟩ := hs.low
        refine (hc _ hl.1 hl.2 w low.tab).mono ?_
        rintro e w' ⟨rfl, k, os, rfl⟩
        cases hr
        have hsz : w.heap.size ≤ (Sort.grow (w.drewN k) os).heap.size := by simp [Sort.grow, drewN_heap]
        have hk : ∀ j, j < w.heap.size → (Sort.grow (w.drewN k) os).heap[j]? = w.heap[j]? := fun j hj => by
          simp only [Sort.grow, drewN_heap]
          exact Array.getElem?_append_left hj
        refine ⟨μ, ?_, ⟨⟨W, low.size' hsz (fun j hj => hk j (Nat.lt_of_lt_of_le hj low.size)) low.own⟩, fun id b hb => ?_, hs.apart⟩, Ext.refl μ, (fun _ _ h k => by rw [h] at k; cases k), (fun _ _ h k => by rw [h] at k; cases k), rfl, rfl, rfl, hsz, fun j hj _ => hk j hj⟩
        · show (Lib.itoa _).toArray.toList = decimal _
          rw [decimal_eq _ hl.1 hl.2]
        · obtain ⟨l, h1, h2, h3⟩ := hs.box id b hb
          exact ⟨l, h1, Nat.lt_of_lt_of_le h2 hsz, h3.keep (Ext.refl μ) (hk _ h2)⟩
      · cases hr
  · cases hr
end Go.Dm
