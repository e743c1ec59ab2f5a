/- Rows that are held against each other, element by element. -/
import Derived.Test.YtmdaacajdnbegaaDoorDLoop2
import Derived.Test.YtmdaacajdnbegaaDoorDData
namespace Go.Dm
open Go
set_option linter.unusedSimpArgs false
set_option linter.unusedVariables false
variable {G : Lib}
abbrev equalCode (sz : Nat) (fks : List FK) : ICode :=
  .seq (.reg [⟨some 4, .lt .mv [.c (.b false)], none⟩])
    (.seq (.seq (.reg [⟨some 6, .lt .mv [.t 0], none⟩,
        ⟨some 7, .lt (.len false) [.t 6], none⟩,
        ⟨some 8, .lt .mv [.t 1], none⟩,
        ⟨some 9, .lt (.len false) [.t 8], none⟩,
        ⟨some 10, .lt (.bin .neq) [.t 7, .t 9], none⟩])
    (.cond (.t 10) (.seq (.reg [⟨some 4, .lt .mv [.c (.b false)], none⟩])
      (.ret))
    (.skip)))
    (.seq (.seq (.reg [⟨some 11, .lt .mv [.t 0], none⟩,
        ⟨some 12, .lt (.len false) [.t 11], none⟩,
        ⟨some 13, .lt .mv [.c (.i .i64 0)], none⟩])
    (.block 0 (.loop (.seq (.reg [⟨some 14, .lt (.bin .lss) [.t 13, .t 12], none⟩])
        (.seq (.cond (.t 14) (.skip)
        (.exit 0))
        (.seq (.block 1 (.seq (.reg [⟨some 15, .lt .mv [.t 13], none⟩,
              ⟨some 5, .lt .mv [.t 15], none⟩])
          (.seq (.draw [⟨some 16, .lt .mv [.t 0], none⟩,
              ⟨some 17, .lt .mv [.t 5], none⟩,
              ⟨some 18, .lt (.ia sz) [.t 16, .t 17], none⟩,
              ⟨some 19, .lt (.ld true sz) [.t 18], none⟩,
              ⟨some 20, .lt .mv [.t 1], none⟩,
              ⟨some 21, .lt .mv [.t 5], none⟩,
              ⟨some 22, .lt (.ia sz) [.t 20, .t 21], none⟩,
              ⟨some 23, .lt (.ld true sz) [.t 22], none⟩,
              ⟨some 24, .lt (.eqa fks true) [.t 19, .t 23], none⟩] [0, 0, 3, 7, 0, 0, 48, 112, 255])
          (.cond (.t 24) (.seq (.reg [⟨some 4, .lt .mv [.c (.b false)], none⟩])
            (.ret))
          (.skip)))))
        (.reg [⟨some 25, .lt (.bin .add) [.t 13, .c (.i .i64 1)], none⟩,
            ⟨some 13, .lt .mv [.t 25], none⟩])))))))
    (.seq (.reg [⟨some 4, .lt .mv [.c (.b true)], none⟩])
    (.ret))))
abbrev sameCode (sz : Nat) (fks : List FK) : ICode :=
  .seq (.reg [⟨some 4, .lt .mv [.c (.b false)], none⟩])
    (.seq (.seq (.reg [⟨some 6, .lt .mv [.t 0], none⟩,
        ⟨some 7, .lt (.len false) [.t 6], none⟩,
        ⟨some 8, .lt .mv [.t 1], none⟩,
        ⟨some 9, .lt (.len false) [.t 8], none⟩,
        ⟨some 10, .lt (.bin .neq) [.t 7, .t 9], none⟩])
    (.cond (.t 10) (.seq (.reg [⟨some 4, .lt .mv [.c (.b false)], none⟩])
      (.ret))
    (.skip)))
    (.seq (.seq (.reg [⟨some 5, .lt .mv [.c (.i .i64 0)], none⟩])
    (.block 0 (.loop (.seq (.seq (.reg [⟨some 11, .lt .mv [.t 5], none⟩,
            ⟨some 12, .lt .mv [.t 0], none⟩,
            ⟨some 13, .lt (.len false) [.t 12], none⟩,
            ⟨some 14, .lt (.bin .lss) [.t 11, .t 13], none⟩])
        (.cond (.t 14) (.skip)
        (.exit 0)))
        (.seq (.block 1 (.seq (.draw [⟨some 17, .lt .mv [.t 0], none⟩,
              ⟨some 18, .lt .mv [.t 5], none⟩,
              ⟨some 19, .lt (.ia sz) [.t 17, .t 18], none⟩,
              ⟨some 20, .lt (.ld true sz) [.t 19], none⟩,
              ⟨some 21, .lt .mv [.t 1], none⟩,
              ⟨some 22, .lt .mv [.t 5], none⟩,
              ⟨some 23, .lt (.ia sz) [.t 21, .t 22], none⟩,
              ⟨some 24, .lt (.ld true sz) [.t 23], none⟩,
              ⟨some 25, .lt (.eqa fks true) [.t 20, .t 24], none⟩] [0, 0, 3, 7, 0, 0, 48, 112, 255])
          (.cond (.t 25) (.seq (.reg [⟨some 4, .lt .mv [.c (.b false)], none⟩])
            (.ret))
          (.skip))))
        (.reg [⟨some 15, .lt .mv [.t 5], none⟩,
            ⟨some 16, .lt (.bin .add) [.t 15, .c (.i .i64 1)], none⟩,
            ⟨some 5, .lt .mv [.t 16], none⟩]))))))
    (.seq (.reg [⟨some 4, .lt .mv [.c (.b true)], none⟩])
    (.ret))))
theorem take_eq_succ {α : Type} [DecidableEq α] {xs ys : List α} {i : Nat} (hx : i < xs.length) (hy : i < ys.length) (h : xs.take i = ys.take i) (e : xs[i] = ys[i]) : xs.take (i + 1) = ys.take (i + 1) := by
  rw [List.take_succ_eq_append_getElem hx, List.take_succ_eq_append_getElem hy, h, e]
theorem ne_of_at {α : Type} {xs ys : List α} {i : Nat} (hx : i < xs.length) (hy : i < ys.length) (e : ¬ xs[i] = ys[i]) : ¬ xs = ys := by
  intro h; subst h; exact e rfl
theorem equal_ok {α : Type} [DecidableEq α] {enc : α → List V} {sz : Nat} {fks : List FK} (he : ∀ x, (enc x).length = sz) (hq : ∀ a b, eqs fks (enc a) (enc b) = some (decide (a = b)))
    {f : Nat} (hg : G.prim f = none ∧ G.fn f = some ⟨26, [.t 4], equalCode sz fks⟩) {xs ys : List α} (hn : xs.length < 4294967281) {h : Heap} {nx : Nat} {v w : V} (hv : Sl enc sz h nx v xs) (hw : Sl enc sz h nx w ys) :
    SpecP G f [v, w] h nx fun r _ _ => r = .b (decide (xs = ys)) := by
  have l1 := hv.len
  have l2 := hw.len
  refine SpecP.walk hg rfl ?_
  simp (disch := first | assumption | omega | (simp only [List.length_append, List.length_cons, List.length_nil, bytesP_len]; omega)) only [code_rules, frame_rules, guard_rules, WB_rules, pure_rules, make_rules, num_rules, text_rules, eqD_rules, eqs_rules, cut_rules, splice_rules, box_rules, cells_rules, ok_rules, WQ_rules, fin_rules, heap_rules, slots_rules, ixs_at, wrap_i64, Heap.set_of_ne, List.reduceReplicate, List.flatten_cons, List.flatten_nil, List.map_cons, List.map_nil, Nat.zero_mul, Nat.one_mul, List.append_nil, FA_true, wr_rules, true_or, or_true, or_self, or_false, false_or, not_false_eq_true, implies_true, forall_const, vis_rules, cls_rules, Nat.testBit_eq_decide_div_mod_eq, Nat.reducePow, Nat.reduceDiv, Nat.reduceMod, Nat.reduceLeDiff, Nat.le_refl, Bool.true_or, Bool.or_true, Bool.or_false, Bool.false_or, wrOK_nil, ↓reduceIte, Int.reduceLE, Int.reduceLT, Int.reduceEq, Int.reduceAdd, Int.reduceSub, Int.reduceMul, Int.reduceNeg, Int.reduceBEq, Nat.reduceEqDiff, Nat.reduceAdd, Nat.reduceSub, Nat.reduceMul, if_true, if_false, reduceCtorEq, List.nil_append, List.cons_append, List.length_cons, List.length_nil, List.all_cons, List.all_nil, Bool.and_self, Bool.and_true, Bool.true_and, Bool.and_false, Bool.false_and, Bool.bne_false, Bool.bne_true, fill_rules, Nat.zero_add, Nat.add_zero, Nat.mul_one, Int.toNat_natCast, if_pos, Option.map_some, Option.bind_some, Bool.false_eq_true, eq_self, false_and, true_and, and_true, and_false, Bool.not_true, Bool.not_false, Nat.succ_ne_self, decide_true, decide_false, bne, beq_self_eq_true, List.getElem?_cons_zero, List.getElem?_cons_succ, List.getElem?_nil, l1, l2]
  refine FC.nbeq ?_ ?_ <;> intro hl
  · simp (disch := first | assumption | omega | (simp only [List.length_append, List.length_cons, List.length_nil, bytesP_len]; omega)) only [code_rules, frame_rules, guard_rules, WB_rules, pure_rules, make_rules, num_rules, text_rules, eqD_rules, eqs_rules, cut_rules, splice_rules, box_rules, cells_rules, ok_rules, WQ_rules, fin_rules, heap_rules, slots_rules, ixs_at, wrap_i64, Heap.set_of_ne, List.reduceReplicate, List.flatten_cons, List.flatten_nil, List.map_cons, List.map_nil, Nat.zero_mul, Nat.one_mul, List.append_nil, FA_true, wr_rules, true_or, or_true, or_self, or_false, false_or, not_false_eq_true, implies_true, forall_const, vis_rules, cls_rules, Nat.testBit_eq_decide_div_mod_eq, Nat.reducePow, Nat.reduceDiv, Nat.reduceMod, Nat.reduceLeDiff, Nat.le_refl, Bool.true_or, Bool.or_true, Bool.or_false, Bool.false_or, wrOK_nil, ↓reduceIte, Int.reduceLE, Int.reduceLT, Int.reduceEq, Int.reduceAdd, Int.reduceSub, Int.reduceMul, Int.reduceNeg, Int.reduceBEq, Nat.reduceEqDiff, Nat.reduceAdd, Nat.reduceSub, Nat.reduceMul, if_true, if_false, reduceCtorEq, List.nil_append, List.cons_append, List.length_cons, List.length_nil, List.all_cons, List.all_nil, Bool.and_self, Bool.and_true, Bool.true_and, Bool.and_false, Bool.false_and, Bool.bne_false, Bool.bne_true, fill_rules, Nat.zero_add, Nat.add_zero, Nat.mul_one, Int.toNat_natCast, if_pos, Option.map_some, Option.bind_some, Bool.false_eq_true, eq_self, false_and, true_and, and_true, and_false, Bool.not_true, Bool.not_false, Nat.succ_ne_self, decide_true, decide_false, bne, beq_self_eq_true, List.getElem?_cons_zero, List.getElem?_cons_succ, List.getElem?_nil]
    have : ¬ xs = ys := by rintro rfl; simp at hl
    simp [this]
  · have hl' : xs.length = ys.length := by omega
    simp (disch := first | assumption | omega | (simp only [List.length_append, List.length_cons, List.length_nil, bytesP_len]; omega)) only [code_rules, frame_rules, guard_rules, WB_rules, pure_rules, make_rules, num_rules, text_rules, eqD_rules, eqs_rules, cut_rules, splice_rules, box_rules, cells_rules, ok_rules, WQ_rules, fin_rules, heap_rules, slots_rules, ixs_at, wrap_i64, Heap.set_of_ne, List.reduceReplicate, List.flatten_cons, List.flatten_nil, List.map_cons, List.map_nil, Nat.zero_mul, Nat.one_mul, List.append_nil, FA_true, wr_rules, true_or, or_true, or_self, or_false, false_or, not_false_eq_true, implies_true, forall_const, vis_rules, cls_rules, Nat.testBit_eq_decide_div_mod_eq, Nat.reducePow, Nat.reduceDiv, Nat.reduceMod, Nat.reduceLeDiff, Nat.le_refl, Bool.true_or, Bool.or_true, Bool.or_false, Bool.false_or, wrOK_nil, ↓reduceIte, Int.reduceLE, Int.reduceLT, Int.reduceEq, Int.reduceAdd, Int.reduceSub, Int.reduceMul, Int.reduceNeg, Int.reduceBEq, Nat.reduceEqDiff, Nat.reduceAdd, Nat.reduceSub, Nat.reduceMul, if_true, if_false, reduceCtorEq, List.nil_append, List.cons_append, List.length_cons, List.length_nil, List.all_cons, List.all_nil, Bool.and_self, Bool.and_true, Bool.true_and, Bool.and_false, Bool.false_and, Bool.bne_false, Bool.bne_true, fill_rules, Nat.zero_add, Nat.add_zero, Nat.mul_one, Int.toNat_natCast, if_pos, Option.map_some, Option.bind_some, Bool.false_eq_true, eq_self, false_and, true_and, and_true, and_false, Bool.not_true, Bool.not_false, Nat.succ_ne_self, decide_true, decide_false, bne, beq_self_eq_true, List.getElem?_cons_zero, List.getElem?_cons_succ, List.getElem?_nil, l1]
    refine FL.range xs.length [0, 1] [] (fun i _ st => st = ⟨h, nx, []⟩ ∧ xs.take i = ys.take i) (by omega) rfl rfl (by simp [rangeCode, ICode.dsts, IOper.dsts]) ⟨rfl, rfl⟩ ?_ ?_
    · rintro i fr st hi hci hu ⟨rfl, ht⟩ -
      simp only [slots_rules, frame_rules, ↓reduceIte, Nat.reduceEqDiff, reduceCtorEq, List.cons.injEq, and_true, if_true, if_false, Nat.reduceAdd] at hu
      obtain ⟨f0, f1⟩ := hu
      obtain ⟨jd, jo, jr, jt, js, hjd, hjb, hjc, hjg, hja⟩ := hv.at he i hi
      obtain ⟨kd, ko, kr, kt, ks, hkd, hkb, hkc, hkg, hka⟩ := hw.at he i (by omega)
      simp (disch := first | assumption | omega | (simp only [List.length_append, List.length_cons, List.length_nil, bytesP_len]; omega)) only [code_rules, frame_rules, guard_rules, WB_rules, pure_rules, make_rules, num_rules, text_rules, eqD_rules, eqs_rules, cut_rules, splice_rules, box_rules, cells_rules, ok_rules, WQ_rules, fin_rules, heap_rules, slots_rules, ixs_at, wrap_i64, Heap.set_of_ne, List.reduceReplicate, List.flatten_cons, List.flatten_nil, List.map_cons, List.map_nil, Nat.zero_mul, Nat.one_mul, List.append_nil, FA_true, wr_rules, true_or, or_true, or_self, or_false, false_or, not_false_eq_true, implies_true, forall_const, vis_rules, cls_rules, Nat.testBit_eq_decide_div_mod_eq, Nat.reducePow, Nat.reduceDiv, Nat.reduceMod, Nat.reduceLeDiff, Nat.le_refl, Bool.true_or, Bool.or_true, Bool.or_false, Bool.false_or, wrOK_nil, ↓reduceIte, Int.reduceLE, Int.reduceLT, Int.reduceEq, Int.reduceAdd, Int.reduceSub, Int.reduceMul, Int.reduceNeg, Int.reduceBEq, Nat.reduceEqDiff, Nat.reduceAdd, Nat.reduceSub, Nat.reduceMul, if_true, if_false, reduceCtorEq, List.nil_append, List.cons_append, List.length_cons, List.length_nil, List.all_cons, List.all_nil, Bool.and_self, Bool.and_true, Bool.true_and, Bool.and_false, Bool.false_and, Bool.bne_false, Bool.bne_true, fill_rules, Nat.zero_add, Nat.add_zero, Nat.mul_one, Int.toNat_natCast, if_pos, Option.map_some, Option.bind_some, Bool.false_eq_true, eq_self, false_and, true_and, and_true, and_false, Bool.not_true, Bool.not_false, Nat.succ_ne_self, decide_true, decide_false, bne, beq_self_eq_true, List.getElem?_cons_zero, List.getElem?_cons_succ, List.getElem?_nil, f0, f1, hci, hja, hka, hjb, hkb, hjc, hkc, hq]
      refine FC.not ?_ ?_ <;> intro hc <;> simp (disch := first | assumption | omega | (simp only [List.length_append, List.length_cons, List.length_nil, bytesP_len]; omega)) only [code_rules, frame_rules, guard_rules, WB_rules, pure_rules, make_rules, num_rules, text_rules, eqD_rules, eqs_rules, cut_rules, splice_rules, box_rules, cells_rules, ok_rules, WQ_rules, fin_rules, heap_rules, slots_rules, ixs_at, wrap_i64, Heap.set_of_ne, List.reduceReplicate, List.flatten_cons, List.flatten_nil, List.map_cons, List.map_nil, Nat.zero_mul, Nat.one_mul, List.append_nil, FA_true, wr_rules, true_or, or_true, or_self, or_false, false_or, not_false_eq_true, implies_true, forall_const, vis_rules, cls_rules, Nat.testBit_eq_decide_div_mod_eq, Nat.reducePow, Nat.reduceDiv, Nat.reduceMod, Nat.reduceLeDiff, Nat.le_refl, Bool.true_or, Bool.or_true, Bool.or_false, Bool.false_or, wrOK_nil, ↓reduceIte, Int.reduceLE, Int.reduceLT, Int.reduceEq, Int.reduceAdd, Int.reduceSub, Int.reduceMul, Int.reduceNeg, Int.reduceBEq, Nat.reduceEqDiff, Nat.reduceAdd, Nat.reduceSub, Nat.reduceMul, if_true, if_false, reduceCtorEq, List.nil_append, List.cons_append, List.length_cons, List.length_nil, List.all_cons, List.all_nil, Bool.and_self, Bool.and_true, Bool.true_and, Bool.and_false, Bool.false_and, Bool.bne_false, Bool.bne_true, fill_rules, Nat.zero_add, Nat.add_zero, Nat.mul_one, Int.toNat_natCast, if_pos, Option.map_some, Option.bind_some, Bool.false_eq_true, eq_self, false_and, true_and, and_true, and_false, Bool.not_true, Bool.not_false, Nat.succ_ne_self, decide_true, decide_false, bne, beq_self_eq_true, List.getElem?_cons_zero, List.getElem?_cons_succ, List.getElem?_nil]
      · have : ¬ xs = ys := ne_of_at hi (by omega) (by simpa using hc)
        simp [this]
      · rintro -
        exact take_eq_succ hi (by omega) ht (by simpa using hc)
    · rintro fr st hu ⟨rfl, ht⟩ -
      simp (disch := first | assumption | omega | (simp only [List.length_append, List.length_cons, List.length_nil, bytesP_len]; omega)) only [code_rules, frame_rules, guard_rules, WB_rules, pure_rules, make_rules, num_rules, text_rules, eqD_rules, eqs_rules, cut_rules, splice_rules, box_rules, cells_rules, ok_rules, WQ_rules, fin_rules, heap_rules, slots_rules, ixs_at, wrap_i64, Heap.set_of_ne, List.reduceReplicate, List.flatten_cons, List.flatten_nil, List.map_cons, List.map_nil, Nat.zero_mul, Nat.one_mul, List.append_nil, FA_true, wr_rules, true_or, or_true, or_self, or_false, false_or, not_false_eq_true, implies_true, forall_const, vis_rules, cls_rules, Nat.testBit_eq_decide_div_mod_eq, Nat.reducePow, Nat.reduceDiv, Nat.reduceMod, Nat.reduceLeDiff, Nat.le_refl, Bool.true_or, Bool.or_true, Bool.or_false, Bool.false_or, wrOK_nil, ↓reduceIte, Int.reduceLE, Int.reduceLT, Int.reduceEq, Int.reduceAdd, Int.reduceSub, Int.reduceMul, Int.reduceNeg, Int.reduceBEq, Nat.reduceEqDiff, Nat.reduceAdd, Nat.reduceSub, Nat.reduceMul, if_true, if_false, reduceCtorEq, List.nil_append, List.cons_append, List.length_cons, List.length_nil, List.all_cons, List.all_nil, Bool.and_self, Bool.and_true, Bool.true_and, Bool.and_false, Bool.false_and, Bool.bne_false, Bool.bne_true, fill_rules, Nat.zero_add, Nat.add_zero, Nat.mul_one, Int.toNat_natCast, if_pos, Option.map_some, Option.bind_some, Bool.false_eq_true, eq_self, false_and, true_and, and_true, and_false, Bool.not_true, Bool.not_false, Nat.succ_ne_self, decide_true, decide_false, bne, beq_self_eq_true, List.getElem?_cons_zero, List.getElem?_cons_succ, List.getElem?_nil]
      have : xs = ys := by rw [List.take_length, hl', List.take_length] at ht; exact ht
      simp [this]
theorem same_ok {α : Type} [DecidableEq α] {enc : α → List V} {sz : Nat} {fks : List FK} (he : ∀ x, (enc x).length = sz) (hq : ∀ a b, eqs fks (enc a) (enc b) = some (decide (a = b)))
    {f : Nat} (hg : G.prim f = none ∧ G.fn f = some ⟨26, [.t 4], sameCode sz fks⟩) {xs ys : List α} (hn : xs.length < 4294967281) {h : Heap} {nx : Nat} {v w : V} (hv : Sl enc sz h nx v xs) (hw : Sl enc sz h nx w ys) :
    SpecP G f [v, w] h nx fun r _ _ => r = .b (decide (xs = ys)) := by
  have l1 := hv.len
  have l2 := hw.len
  refine SpecP.walk hg rfl ?_
  simp (disch := first | assumption | omega | (simp only [List.length_append, List.length_cons, List.length_nil, bytesP_len]; omega)) only [code_rules, frame_rules, guard_rules, WB_rules, pure_rules, make_rules, num_rules, text_rules, eqD_rules, eqs_rules, cut_rules, splice_rules, box_rules, cells_rules, ok_rules, WQ_rules, fin_rules, heap_rules, slots_rules, ixs_at, wrap_i64, Heap.set_of_ne, List.reduceReplicate, List.flatten_cons, List.flatten_nil, List.map_cons, List.map_nil, Nat.zero_mul, Nat.one_mul, List.append_nil, FA_true, wr_rules, true_or, or_true, or_self, or_false, false_or, not_false_eq_true, implies_true, forall_const, vis_rules, cls_rules, Nat.testBit_eq_decide_div_mod_eq, Nat.reducePow, Nat.reduceDiv, Nat.reduceMod, Nat.reduceLeDiff, Nat.le_refl, Bool.true_or, Bool.or_true, Bool.or_false, Bool.false_or, wrOK_nil, ↓reduceIte, Int.reduceLE, Int.reduceLT, Int.reduceEq, Int.reduceAdd, Int.reduceSub, Int.reduceMul, Int.reduceNeg, Int.reduceBEq, Nat.reduceEqDiff, Nat.reduceAdd, Nat.reduceSub, Nat.reduceMul, if_true, if_false, reduceCtorEq, List.nil_append, List.cons_append, List.length_cons, List.length_nil, List.all_cons, List.all_nil, Bool.and_self, Bool.and_true, Bool.true_and, Bool.and_false, Bool.false_and, Bool.bne_false, Bool.bne_true, fill_rules, Nat.zero_add, Nat.add_zero, Nat.mul_one, Int.toNat_natCast, if_pos, Option.map_some, Option.bind_some, Bool.false_eq_true, eq_self, false_and, true_and, and_true, and_false, Bool.not_true, Bool.not_false, Nat.succ_ne_self, decide_true, decide_false, bne, beq_self_eq_true, List.getElem?_cons_zero, List.getElem?_cons_succ, List.getElem?_nil, l1, l2]
  refine FC.nbeq ?_ ?_ <;> intro hl
  · simp (disch := first | assumption | omega | (simp only [List.length_append, List.length_cons, List.length_nil, bytesP_len]; omega)) only [code_rules, frame_rules, guard_rules, WB_rules, pure_rules, make_rules, num_rules, text_rules, eqD_rules, eqs_rules, cut_rules, splice_rules, box_rules, cells_rules, ok_rules, WQ_rules, fin_rules, heap_rules, slots_rules, ixs_at, wrap_i64, Heap.set_of_ne, List.reduceReplicate, List.flatten_cons, List.flatten_nil, List.map_cons, List.map_nil, Nat.zero_mul, Nat.one_mul, List.append_nil, FA_true, wr_rules, true_or, or_true, or_self, or_false, false_or, not_false_eq_true, implies_true, forall_const, vis_rules, cls_rules, Nat.testBit_eq_decide_div_mod_eq, Nat.reducePow, Nat.reduceDiv, Nat.reduceMod, Nat.reduceLeDiff, Nat.le_refl, Bool.true_or, Bool.or_true, Bool.or_false, Bool.false_or, wrOK_nil, ↓reduceIte, Int.reduceLE, Int.reduceLT, Int.reduceEq, Int.reduceAdd, Int.reduceSub, Int.reduceMul, Int.reduceNeg, Int.reduceBEq, Nat.reduceEqDiff, Nat.reduceAdd, Nat.reduceSub, Nat.reduceMul, if_true, if_false, reduceCtorEq, List.nil_append, List.cons_append, List.length_cons, List.length_nil, List.all_cons, List.all_nil, Bool.and_self, Bool.and_true, Bool.true_and, Bool.and_false, Bool.false_and, Bool.bne_false, Bool.bne_true, fill_rules, Nat.zero_add, Nat.add_zero, Nat.mul_one, Int.toNat_natCast, if_pos, Option.map_some, Option.bind_some, Bool.false_eq_true, eq_self, false_and, true_and, and_true, and_false, Bool.not_true, Bool.not_false, Nat.succ_ne_self, decide_true, decide_false, bne, beq_self_eq_true, List.getElem?_cons_zero, List.getElem?_cons_succ, List.getElem?_nil]
    have : ¬ xs = ys := by rintro rfl; simp at hl
    simp [this]
  · have hl' : xs.length = ys.length := by omega
    simp (disch := first | assumption | omega | (simp only [List.length_append, List.length_cons, List.length_nil, bytesP_len]; omega)) only [code_rules, frame_rules, guard_rules, WB_rules, pure_rules, make_rules, num_rules, text_rules, eqD_rules, eqs_rules, cut_rules, splice_rules, box_rules, cells_rules, ok_rules, WQ_rules, fin_rules, heap_rules, slots_rules, ixs_at, wrap_i64, Heap.set_of_ne, List.reduceReplicate, List.flatten_cons, List.flatten_nil, List.map_cons, List.map_nil, Nat.zero_mul, Nat.one_mul, List.append_nil, FA_true, wr_rules, true_or, or_true, or_self, or_false, false_or, not_false_eq_true, implies_true, forall_const, vis_rules, cls_rules, Nat.testBit_eq_decide_div_mod_eq, Nat.reducePow, Nat.reduceDiv, Nat.reduceMod, Nat.reduceLeDiff, Nat.le_refl, Bool.true_or, Bool.or_true, Bool.or_false, Bool.false_or, wrOK_nil, ↓reduceIte, Int.reduceLE, Int.reduceLT, Int.reduceEq, Int.reduceAdd, Int.reduceSub, Int.reduceMul, Int.reduceNeg, Int.reduceBEq, Nat.reduceEqDiff, Nat.reduceAdd, Nat.reduceSub, Nat.reduceMul, if_true, if_false, reduceCtorEq, List.nil_append, List.cons_append, List.length_cons, List.length_nil, List.all_cons, List.all_nil, Bool.and_self, Bool.and_true, Bool.true_and, Bool.and_false, Bool.false_and, Bool.bne_false, Bool.bne_true, fill_rules, Nat.zero_add, Nat.add_zero, Nat.mul_one, Int.toNat_natCast, if_pos, Option.map_some, Option.bind_some, Bool.false_eq_true, eq_self, false_and, true_and, and_true, and_false, Bool.not_true, Bool.not_false, Nat.succ_ne_self, decide_true, decide_false, bne, beq_self_eq_true, List.getElem?_cons_zero, List.getElem?_cons_succ, List.getElem?_nil, l1]
    refine FL.upto (cs := 0) 5 xs.length [1] [] (fun i _ st => st = ⟨h, nx, []⟩ ∧ xs.take i = ys.take i) (by omega) rfl l1 (by simp [ICode.dsts, IOper.dsts]) (by decide) ⟨rfl, rfl⟩ ?_ ?_
    · rintro i fr st hi hci hu ⟨rfl, ht⟩ -
      simp only [slots_rules, frame_rules, ↓reduceIte, Nat.reduceEqDiff, reduceCtorEq, List.cons.injEq, and_true, if_true, if_false, Nat.reduceAdd] at hu
      obtain ⟨f0, f1⟩ := hu
      obtain ⟨jd, jo, jr, jt, js, hjd, hjb, hjc, hjg, hja⟩ := hv.at he i hi
      obtain ⟨kd, ko, kr, kt, ks, hkd, hkb, hkc, hkg, hka⟩ := hw.at he i (by omega)
      simp (disch := first | assumption | omega | (simp only [List.length_append, List.length_cons, List.length_nil, bytesP_len]; omega)) only [code_rules, frame_rules, guard_rules, WB_rules, pure_rules, make_rules, num_rules, text_rules, eqD_rules, eqs_rules, cut_rules, splice_rules, box_rules, cells_rules, ok_rules, WQ_rules, fin_rules, heap_rules, slots_rules, ixs_at, wrap_i64, Heap.set_of_ne, List.reduceReplicate, List.flatten_cons, List.flatten_nil, List.map_cons, List.map_nil, Nat.zero_mul, Nat.one_mul, List.append_nil, FA_true, wr_rules, true_or, or_true, or_self, or_false, false_or, not_false_eq_true, implies_true, forall_const, vis_rules, cls_rules, Nat.testBit_eq_decide_div_mod_eq, Nat.reducePow, Nat.reduceDiv, Nat.reduceMod, Nat.reduceLeDiff, Nat.le_refl, Bool.true_or, Bool.or_true, Bool.or_false, Bool.false_or, wrOK_nil, ↓reduceIte, Int.reduceLE, Int.reduceLT, Int.reduceEq, Int.reduceAdd, Int.reduceSub, Int.reduceMul, Int.reduceNeg, Int.reduceBEq, Nat.reduceEqDiff, Nat.reduceAdd, Nat.reduceSub, Nat.reduceMul, if_true, if_false, reduceCtorEq, List.nil_append, List.cons_append, List.length_cons, List.length_nil, List.all_cons, List.all_nil, Bool.and_self, Bool.and_true, Bool.true_and, Bool.and_false, Bool.false_and, Bool.bne_false, Bool.bne_true, fill_rules, Nat.zero_add, Nat.add_zero, Nat.mul_one, Int.toNat_natCast, if_pos, Option.map_some, Option.bind_some, Bool.false_eq_true, eq_self, false_and, true_and, and_true, and_false, Bool.not_true, Bool.not_false, Nat.succ_ne_self, decide_true, decide_false, bne, beq_self_eq_true, List.getElem?_cons_zero, List.getElem?_cons_succ, List.getElem?_nil, f0, f1, hci, hja, hka, hjb, hkb, hjc, hkc, hq]
      refine FC.not ?_ ?_ <;> intro hc <;> simp (disch := first | assumption | omega | (simp only [List.length_append, List.length_cons, List.length_nil, bytesP_len]; omega)) only [code_rules, frame_rules, guard_rules, WB_rules, pure_rules, make_rules, num_rules, text_rules, eqD_rules, eqs_rules, cut_rules, splice_rules, box_rules, cells_rules, ok_rules, WQ_rules, fin_rules, heap_rules, slots_rules, ixs_at, wrap_i64, Heap.set_of_ne, List.reduceReplicate, List.flatten_cons, List.flatten_nil, List.map_cons, List.map_nil, Nat.zero_mul, Nat.one_mul, List.append_nil, FA_true, wr_rules, true_or, or_true, or_self, or_false, false_or, not_false_eq_true, implies_true, forall_const, vis_rules, cls_rules, Nat.testBit_eq_decide_div_mod_eq, Nat.reducePow, Nat.reduceDiv, Nat.reduceMod, Nat.reduceLeDiff, Nat.le_refl, Bool.true_or, Bool.or_true, Bool.or_false, Bool.false_or, wrOK_nil, ↓reduceIte, Int.reduceLE, Int.reduceLT, Int.reduceEq, Int.reduceAdd, Int.reduceSub, Int.reduceMul, Int.reduceNeg, Int.reduceBEq, Nat.reduceEqDiff, Nat.reduceAdd, Nat.reduceSub, Nat.reduceMul, if_true, if_false, reduceCtorEq, List.nil_append, List.cons_append, List.length_cons, List.length_nil, List.all_cons, List.all_nil, Bool.and_self, Bool.and_true, Bool.true_and, Bool.and_false, Bool.false_and, Bool.bne_false, Bool.bne_true, fill_rules, Nat.zero_add, Nat.add_zero, Nat.mul_one, Int.toNat_natCast, if_pos, Option.map_some, Option.bind_some, Bool.false_eq_true, eq_self, false_and, true_and, and_true, and_false, Bool.not_true, Bool.not_false, Nat.succ_ne_self, decide_true, decide_false, bne, beq_self_eq_true, List.getElem?_cons_zero, List.getElem?_cons_succ, List.getElem?_nil]
      · have : ¬ xs = ys := ne_of_at hi (by omega) (by simpa using hc)
        simp [this]
      · rintro -
        exact take_eq_succ hi (by omega) ht (by simpa using hc)
    · rintro fr st hu ⟨rfl, ht⟩ -
      simp (disch := first | assumption | omega | (simp only [List.length_append, List.length_cons, List.length_nil, bytesP_len]; omega)) only [code_rules, frame_rules, guard_rules, WB_rules, pure_rules, make_rules, num_rules, text_rules, eqD_rules, eqs_rules, cut_rules, splice_rules, box_rules, cells_rules, ok_rules, WQ_rules, fin_rules, heap_rules, slots_rules, ixs_at, wrap_i64, Heap.set_of_ne, List.reduceReplicate, List.flatten_cons, List.flatten_nil, List.map_cons, List.map_nil, Nat.zero_mul, Nat.one_mul, List.append_nil, FA_true, wr_rules, true_or, or_true, or_self, or_false, false_or, not_false_eq_true, implies_true, forall_const, vis_rules, cls_rules, Nat.testBit_eq_decide_div_mod_eq, Nat.reducePow, Nat.reduceDiv, Nat.reduceMod, Nat.reduceLeDiff, Nat.le_refl, Bool.true_or, Bool.or_true, Bool.or_false, Bool.false_or, wrOK_nil, ↓reduceIte, Int.reduceLE, Int.reduceLT, Int.reduceEq, Int.reduceAdd, Int.reduceSub, Int.reduceMul, Int.reduceNeg, Int.reduceBEq, Nat.reduceEqDiff, Nat.reduceAdd, Nat.reduceSub, Nat.reduceMul, if_true, if_false, reduceCtorEq, List.nil_append, List.cons_append, List.length_cons, List.length_nil, List.all_cons, List.all_nil, Bool.and_self, Bool.and_true, Bool.true_and, Bool.and_false, Bool.false_and, Bool.bne_false, Bool.bne_true, fill_rules, Nat.zero_add, Nat.add_zero, Nat.mul_one, Int.toNat_natCast, if_pos, Option.map_some, Option.bind_some, Bool.false_eq_true, eq_self, false_and, true_and, and_true, and_false, Bool.not_true, Bool.not_false, Nat.succ_ne_self, decide_true, decide_false, bne, beq_self_eq_true, List.getElem?_cons_zero, List.getElem?_cons_succ, List.getElem?_nil]
      have : xs = ys := by rw [List.take_length, hl', List.take_length] at ht; exact ht
      simp [this]
theorem rr_eqs (a b : RR) : eqs [.s, .i, .i, .i, .s, .s, .i] a.cells b.cells = some (decide (a = b)) := by
  obtain ⟨a1, a2, a3, a4, a5, a6, a7⟩ := a
  obtain ⟨b1, b2, b3, b4, b5, b6, b7⟩ := b
  simp only [RR.cells, eqs_rules]
  congr 1
  rw [Bool.eq_iff_iff]
  simp
theorem lease_eqs (a b : Lease) : eqs [.i, .i, .s, .i, .s, .b] a.cells b.cells = some (decide (a = b)) := by
  obtain ⟨a1, a2, a3, a4, a5, a6⟩ := a
  obtain ⟨b1, b2, b3, b4, b5, b6⟩ := b
  simp only [Lease.cells, eqs_rules]
  congr 1
  rw [Bool.eq_iff_iff]
  simp
end Go.Dm
