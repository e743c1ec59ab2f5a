/- Names under a zone; labels. -/
import Derived.Test.YtmdaacajdnbegaaDoorZName
namespace Go.Proofs.YtmdaacajdnbegaaDoor
open Go Go.Dm
set_option linter.unusedSimpArgs false
set_option linter.unusedVariables false
theorem labelP_len {s : Str} (h : labelP s = true) : s.length ≤ 8 := by
  simp only [labelP, Bool.and_eq_true, decide_eq_true_eq] at h; exact h.2
theorem mayGo_len : ∀ (k : Nat) (s : Str), mayGo k s = true → s.length ≤ 9 * k
  | 0, s, h => by simp [mayGo] at h
  | k + 1, s, h => by
    simp only [mayGo] at h
    cases hc : cutAt [46] s with
    | none => rw [hc] at h; have := labelP_len h; omega
    | some x =>
      obtain ⟨a, b⟩ := x
      rw [hc] at h
      simp only [Bool.and_eq_true] at h
      have h1 := labelP_len h.1
      have h2 := mayGo_len k b h.2
      have h3 := cutAt_len hc
      simp only [List.length_cons, List.length_nil] at h3
      omega
theorem nameP_len {s : Str} (h : nameP s = true) : s.length ≤ 72 := by
  simp only [nameP, Bool.or_eq_true] at h
  rcases h with h | h
  · have : s = [] := by simpa using h
    simp [this]
  · exact mayGo_len 8 s h
def underP (s z : Str) : Bool := nameP s && nameP z && (z.isEmpty || s == z || (46 :: z).isSuffixOf s)
theorem suffix_ok (l e : Str) (hl : l.length < 4294967281) : Ret G0 46 [.s l, .s e] (.b (e.isSuffixOf l)) := Ret.prim g46 fun h nx => by
  simp only [pHasSuffix, if_pos hl]
theorem under_ok (s z : Str) (hs : s.length < 4294967281) (hz : z.length < 4294967281) : Ret G0 32 [.s s, .s z] (.b (underP s z)) := by
  refine Ret.walk g32 rfl fun h nx => ?_
  simp (disch := first | assumption | omega | (simp only [List.length_append, List.length_cons, List.length_nil, bytesP_len]; omega)) only [code_rules, frame_rules, guard_rules, WB_rules, pure_rules, make_rules, num_rules, text_rules, eqD_rules, eqs_rules, cut_rules, splice_rules, box_rules, cells_rules, ok_rules, WQ_rules, fin_rules, heap_rules, slots_rules, ixs_at, wrap_i64, Heap.set_of_ne, List.reduceReplicate, List.flatten_cons, List.flatten_nil, List.map_cons, List.map_nil, Nat.zero_mul, Nat.one_mul, List.append_nil, FA_true, wr_rules, true_or, or_true, or_self, or_false, false_or, not_false_eq_true, implies_true, forall_const, vis_rules, cls_rules, Nat.testBit_eq_decide_div_mod_eq, Nat.reducePow, Nat.reduceDiv, Nat.reduceMod, Nat.reduceLeDiff, Nat.le_refl, Bool.true_or, Bool.or_true, Bool.or_false, Bool.false_or, wrOK_nil, ↓reduceIte, Int.reduceLE, Int.reduceLT, Int.reduceEq, Int.reduceAdd, Int.reduceSub, Int.reduceMul, Int.reduceNeg, Int.reduceBEq, Nat.reduceEqDiff, Nat.reduceAdd, Nat.reduceSub, Nat.reduceMul, if_true, if_false, reduceCtorEq, List.nil_append, List.cons_append, List.length_cons, List.length_nil, List.all_cons, List.all_nil, Bool.and_self, Bool.and_true, Bool.true_and, Bool.and_false, Bool.false_and, Bool.bne_false, Bool.bne_true, fill_rules, Nat.zero_add, Nat.add_zero, Nat.mul_one, Int.toNat_natCast, if_pos, Option.map_some, Option.bind_some, Bool.false_eq_true, eq_self, false_and, true_and, and_true, and_false, Bool.not_true, Bool.not_false, Nat.succ_ne_self, decide_true, decide_false, bne, beq_self_eq_true, List.getElem?_cons_zero, List.getElem?_cons_succ, List.getElem?_nil, d32, e32, (may_ok _ _).fs, (suffix_ok s _ hs).fs, text_add]
  repeat' ((first | (refine FG.beq ?_ ?_ <;> intro _) | (refine FC.beq ?_ ?_ <;> intro _) | (refine FG.nbeq ?_ ?_ <;> intro _) | (refine FC.nbeq ?_ ?_ <;> intro _) | (refine FG.dec ?_ ?_ <;> intro _) | (refine FC.dec ?_ ?_ <;> intro _) | (refine FG.not ?_ ?_ <;> intro _) | (refine FC.not ?_ ?_ <;> intro _) | (refine FG.split ?_ ?_ <;> intro _) | (refine FC.split ?_ ?_ <;> intro _)) <;> (try simp (disch := first | assumption | omega | (simp only [List.length_append, List.length_cons, List.length_nil, bytesP_len]; omega)) only [code_rules, frame_rules, guard_rules, WB_rules, pure_rules, make_rules, num_rules, text_rules, eqD_rules, eqs_rules, cut_rules, splice_rules, box_rules, cells_rules, ok_rules, WQ_rules, fin_rules, heap_rules, slots_rules, ixs_at, wrap_i64, Heap.set_of_ne, List.reduceReplicate, List.flatten_cons, List.flatten_nil, List.map_cons, List.map_nil, Nat.zero_mul, Nat.one_mul, List.append_nil, FA_true, wr_rules, true_or, or_true, or_self, or_false, false_or, not_false_eq_true, implies_true, forall_const, vis_rules, cls_rules, Nat.testBit_eq_decide_div_mod_eq, Nat.reducePow, Nat.reduceDiv, Nat.reduceMod, Nat.reduceLeDiff, Nat.le_refl, Bool.true_or, Bool.or_true, Bool.or_false, Bool.false_or, wrOK_nil, ↓reduceIte, Int.reduceLE, Int.reduceLT, Int.reduceEq, Int.reduceAdd, Int.reduceSub, Int.reduceMul, Int.reduceNeg, Int.reduceBEq, Nat.reduceEqDiff, Nat.reduceAdd, Nat.reduceSub, Nat.reduceMul, if_true, if_false, reduceCtorEq, List.nil_append, List.cons_append, List.length_cons, List.length_nil, List.all_cons, List.all_nil, Bool.and_self, Bool.and_true, Bool.true_and, Bool.and_false, Bool.false_and, Bool.bne_false, Bool.bne_true, fill_rules, Nat.zero_add, Nat.add_zero, Nat.mul_one, Int.toNat_natCast, if_pos, Option.map_some, Option.bind_some, Bool.false_eq_true, eq_self, false_and, true_and, and_true, and_false, Bool.not_true, Bool.not_false, Nat.succ_ne_self, decide_true, decide_false, bne, beq_self_eq_true, List.getElem?_cons_zero, List.getElem?_cons_succ, List.getElem?_nil, *, (may_ok _ _).fs, (suffix_ok s _ hs).fs, text_add]))
  all_goals first | (simp [underP, *]; done) | (simp_all [underP]; done) | (simp_all [underP] <;> omega) | (congr 1; rw [Bool.eq_iff_iff]; simp [underP]; omega)
def strCells (s : Str) : List V := [.s s]
theorem strCells_len (s : Str) : (strCells s).length = 1 := rfl
def labelsP (s : Str) : List Str := if s.isEmpty || !nameP s then [] else splitOn1 46 s
theorem split_ok (l : Str) (hl : l.length < 1048576) (h : Heap) (nx : Nat) : SpecP G0 42 [.s l, .s [46]] h nx fun v h' nx' => Sl strCells 1 h' nx' v (splitOn1 46 l) := by
  refine SpecP.prim g42 (r := { v := .sl nx 0 (splitOn1 46 l).length (splitOn1 46 l).length true, nw := [.arr true 9 ((splitOn1 46 l).map .s)] }) ?_ rfl ?_
  · simp only [pSplit, hl, if_true]
  · refine .inr ⟨nx, 0, _, true, true, 9, _, rfl, by simp, by simp [Heap.adds, Heap.set_same]; rfl, ?_⟩
    have e : ∀ xs : List Str, xs.map V.s = xs.flatMap strCells := by
      intro xs; induction xs with
      | nil => rfl
      | cons x r ih => simp [ih, strCells]
    rw [e, Nat.mul_one, ← Nat.mul_one (splitOn1 46 l).length, ← flatMap_len strCells_len]
    exact cut_all _
theorem labels_ok (s : Str) (hs : s.length < 4294967281) (h : Heap) (nx : Nat) : SpecP G0 27 [.s s] h nx fun v h' nx' => Sl strCells 1 h' nx' v (labelsP s) := by
  refine SpecP.walk g27 rfl ?_
  simp (disch := first | assumption | omega | (simp only [List.length_append, List.length_cons, List.length_nil, bytesP_len]; omega)) only [code_rules, frame_rules, guard_rules, WB_rules, pure_rules, make_rules, num_rules, text_rules, eqD_rules, eqs_rules, cut_rules, splice_rules, box_rules, cells_rules, ok_rules, WQ_rules, fin_rules, heap_rules, slots_rules, ixs_at, wrap_i64, Heap.set_of_ne, List.reduceReplicate, List.flatten_cons, List.flatten_nil, List.map_cons, List.map_nil, Nat.zero_mul, Nat.one_mul, List.append_nil, FA_true, wr_rules, true_or, or_true, or_self, or_false, false_or, not_false_eq_true, implies_true, forall_const, vis_rules, cls_rules, Nat.testBit_eq_decide_div_mod_eq, Nat.reducePow, Nat.reduceDiv, Nat.reduceMod, Nat.reduceLeDiff, Nat.le_refl, Bool.true_or, Bool.or_true, Bool.or_false, Bool.false_or, wrOK_nil, ↓reduceIte, Int.reduceLE, Int.reduceLT, Int.reduceEq, Int.reduceAdd, Int.reduceSub, Int.reduceMul, Int.reduceNeg, Int.reduceBEq, Nat.reduceEqDiff, Nat.reduceAdd, Nat.reduceSub, Nat.reduceMul, if_true, if_false, reduceCtorEq, List.nil_append, List.cons_append, List.length_cons, List.length_nil, List.all_cons, List.all_nil, Bool.and_self, Bool.and_true, Bool.true_and, Bool.and_false, Bool.false_and, Bool.bne_false, Bool.bne_true, fill_rules, Nat.zero_add, Nat.add_zero, Nat.mul_one, Int.toNat_natCast, if_pos, Option.map_some, Option.bind_some, Bool.false_eq_true, eq_self, false_and, true_and, and_true, and_false, Bool.not_true, Bool.not_false, Nat.succ_ne_self, decide_true, decide_false, bne, beq_self_eq_true, List.getElem?_cons_zero, List.getElem?_cons_succ, List.getElem?_nil, d27, e27, (may_ok _ _).fs]
  repeat' ((first | (refine FG.beq ?_ ?_ <;> intro _) | (refine FC.beq ?_ ?_ <;> intro _) | (refine FG.nbeq ?_ ?_ <;> intro _) | (refine FC.nbeq ?_ ?_ <;> intro _) | (refine FG.dec ?_ ?_ <;> intro _) | (refine FC.dec ?_ ?_ <;> intro _) | (refine FG.not ?_ ?_ <;> intro _) | (refine FC.not ?_ ?_ <;> intro _) | (refine FG.split ?_ ?_ <;> intro _) | (refine FC.split ?_ ?_ <;> intro _)) <;> (try simp (disch := first | assumption | omega | (simp only [List.length_append, List.length_cons, List.length_nil, bytesP_len]; omega)) only [code_rules, frame_rules, guard_rules, WB_rules, pure_rules, make_rules, num_rules, text_rules, eqD_rules, eqs_rules, cut_rules, splice_rules, box_rules, cells_rules, ok_rules, WQ_rules, fin_rules, heap_rules, slots_rules, ixs_at, wrap_i64, Heap.set_of_ne, List.reduceReplicate, List.flatten_cons, List.flatten_nil, List.map_cons, List.map_nil, Nat.zero_mul, Nat.one_mul, List.append_nil, FA_true, wr_rules, true_or, or_true, or_self, or_false, false_or, not_false_eq_true, implies_true, forall_const, vis_rules, cls_rules, Nat.testBit_eq_decide_div_mod_eq, Nat.reducePow, Nat.reduceDiv, Nat.reduceMod, Nat.reduceLeDiff, Nat.le_refl, Bool.true_or, Bool.or_true, Bool.or_false, Bool.false_or, wrOK_nil, ↓reduceIte, Int.reduceLE, Int.reduceLT, Int.reduceEq, Int.reduceAdd, Int.reduceSub, Int.reduceMul, Int.reduceNeg, Int.reduceBEq, Nat.reduceEqDiff, Nat.reduceAdd, Nat.reduceSub, Nat.reduceMul, if_true, if_false, reduceCtorEq, List.nil_append, List.cons_append, List.length_cons, List.length_nil, List.all_cons, List.all_nil, Bool.and_self, Bool.and_true, Bool.true_and, Bool.and_false, Bool.false_and, Bool.bne_false, Bool.bne_true, fill_rules, Nat.zero_add, Nat.add_zero, Nat.mul_one, Int.toNat_natCast, if_pos, Option.map_some, Option.bind_some, Bool.false_eq_true, eq_self, false_and, true_and, and_true, and_false, Bool.not_true, Bool.not_false, Nat.succ_ne_self, decide_true, decide_false, bne, beq_self_eq_true, List.getElem?_cons_zero, List.getElem?_cons_succ, List.getElem?_nil, *, (may_ok _ _).fs]))
  · rename_i e
    subst e
    exact Sl.nil _ _ _ _
  · rename_i e1 e2
    have : labelsP s = [] := by simp [labelsP, e2]
    rw [this]
    exact Sl.nil _ _ _ _
  · rename_i e1 e2
    have hl := nameP_len e2
    refine SpecP.go (split_ok s (by omega) _ _) ?_
    intro v h1 n1 hn hk hv
    simp (disch := first | assumption | omega | (simp only [List.length_append, List.length_cons, List.length_nil, bytesP_len]; omega)) only [code_rules, frame_rules, guard_rules, WB_rules, pure_rules, make_rules, num_rules, text_rules, eqD_rules, eqs_rules, cut_rules, splice_rules, box_rules, cells_rules, ok_rules, WQ_rules, fin_rules, heap_rules, slots_rules, ixs_at, wrap_i64, Heap.set_of_ne, List.reduceReplicate, List.flatten_cons, List.flatten_nil, List.map_cons, List.map_nil, Nat.zero_mul, Nat.one_mul, List.append_nil, FA_true, wr_rules, true_or, or_true, or_self, or_false, false_or, not_false_eq_true, implies_true, forall_const, vis_rules, cls_rules, Nat.testBit_eq_decide_div_mod_eq, Nat.reducePow, Nat.reduceDiv, Nat.reduceMod, Nat.reduceLeDiff, Nat.le_refl, Bool.true_or, Bool.or_true, Bool.or_false, Bool.false_or, wrOK_nil, ↓reduceIte, Int.reduceLE, Int.reduceLT, Int.reduceEq, Int.reduceAdd, Int.reduceSub, Int.reduceMul, Int.reduceNeg, Int.reduceBEq, Nat.reduceEqDiff, Nat.reduceAdd, Nat.reduceSub, Nat.reduceMul, if_true, if_false, reduceCtorEq, List.nil_append, List.cons_append, List.length_cons, List.length_nil, List.all_cons, List.all_nil, Bool.and_self, Bool.and_true, Bool.true_and, Bool.and_false, Bool.false_and, Bool.bne_false, Bool.bne_true, fill_rules, Nat.zero_add, Nat.add_zero, Nat.mul_one, Int.toNat_natCast, if_pos, Option.map_some, Option.bind_some, Bool.false_eq_true, eq_self, false_and, true_and, and_true, and_false, Bool.not_true, Bool.not_false, Nat.succ_ne_self, decide_true, decide_false, bne, beq_self_eq_true, List.getElem?_cons_zero, List.getElem?_cons_succ, List.getElem?_nil, *]
    have : labelsP s = splitOn1 46 s := by
      have : s ≠ [] := by simpa using e1
      simp [labelsP, e2, this]
    rw [this]
    exact hv
end Go.Proofs.YtmdaacajdnbegaaDoor
