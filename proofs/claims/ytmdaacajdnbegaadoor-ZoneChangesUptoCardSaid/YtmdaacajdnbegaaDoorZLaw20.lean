/- The laws over package zone, as runs. -/
import Derived.Test.YtmdaacajdnbegaaDoorZRef3
namespace Go.Proofs.YtmdaacajdnbegaaDoor
open Go Go.Dm
set_option linter.unusedSimpArgs false
set_option linter.unusedVariables false
set_option maxRecDepth 100000
def lanZ : Str := [108, 97, 110]
def givenC : Config := ⟨10, 13, [12], [⟨[118, 105, 112], 13⟩], 100, lanZ, [⟨[119, 119, 119, 46, 108, 97, 110], 1, 5, 7, [], [], 0⟩]⟩
theorem givenC_ok : givenC.Ok := ⟨by decide, by decide, by decide, by decide, by simp [givenC, RR.Ok], by simp [givenC]⟩
theorem given_ok (h : Heap) (nx : Nat) : SpecP G0 7 [] h nx fun v h' nx' => ∃ e r s, v = .agg (givenC.cells e r s) ∧ givenC.At h' nx' e r s := by
  refine SpecP.walk g7 rfl ?_
  simp (disch := first | assumption | omega | (simp only [List.length_append, List.length_cons, List.length_nil, bytesP_len]; omega)) only [code_rules, frame_rules, guard_rules, WB_rules, pure_rules, make_rules, num_rules, text_rules, eqD_rules, eqs_rules, cut_rules, splice_rules, box_rules, cells_rules, ok_rules, WQ_rules, fin_rules, heap_rules, slots_rules, ixs_at, wrap_i64, Heap.set_of_ne, List.reduceReplicate, List.flatten_cons, List.flatten_nil, List.map_cons, List.map_nil, Nat.zero_mul, Nat.one_mul, List.append_nil, FA_true, wr_rules, true_or, or_true, or_self, or_false, false_or, not_false_eq_true, implies_true, forall_const, vis_rules, cls_rules, Nat.testBit_eq_decide_div_mod_eq, Nat.reducePow, Nat.reduceDiv, Nat.reduceMod, Nat.reduceLeDiff, Nat.le_refl, Bool.true_or, Bool.or_true, Bool.or_false, Bool.false_or, wrOK_nil, ↓reduceIte, Int.reduceLE, Int.reduceLT, Int.reduceEq, Int.reduceAdd, Int.reduceSub, Int.reduceMul, Int.reduceNeg, Int.reduceBEq, Nat.reduceEqDiff, Nat.reduceAdd, Nat.reduceSub, Nat.reduceMul, if_true, if_false, reduceCtorEq, List.nil_append, List.cons_append, List.length_cons, List.length_nil, List.all_cons, List.all_nil, Bool.and_self, Bool.and_true, Bool.true_and, Bool.and_false, Bool.false_and, Bool.bne_false, Bool.bne_true, fill_rules, Nat.zero_add, Nat.add_zero, Nat.mul_one, Int.toNat_natCast, if_pos, Option.map_some, Option.bind_some, Bool.false_eq_true, eq_self, false_and, true_and, and_true, and_false, Bool.not_true, Bool.not_false, Nat.succ_ne_self, decide_true, decide_false, bne, beq_self_eq_true, List.getElem?_cons_zero, List.getElem?_cons_succ, List.getElem?_nil, d7, e7]
  refine ⟨by omega, _, _, _, rfl, ⟨SlC.lit (by omega) (by simp (disch := omega) only [Heap.set_of_ne, Heap.set_same]; rfl) rfl, SlC.lit (by omega) (by simp (disch := omega) only [Heap.set_of_ne, Heap.set_same]; rfl) rfl, SlC.lit (by omega) (by simp (disch := omega) only [Heap.set_of_ne, Heap.set_same]; rfl) rfl⟩⟩
def meL : Lease := ⟨10, 2, [109, 101], 9, [112, 99], true⟩
theorem meL_ok : meL.Ok := by simp [meL, Lease.Ok]
theorem awake_rec : recordsP givenC [meL] 0 7 = ([⟨lanZ, 6, 60, 0, [110, 115, 46, 108, 97, 110], [], 7⟩, ⟨lanZ, 2, 60, 0, [110, 115, 46, 108, 97, 110], [], 0⟩, ⟨[119, 119, 119, 46, 108, 97, 110], 1, 5, 7, [], [], 0⟩, ⟨[112, 99, 46, 108, 97, 110], 1, 60, 167772170, [], [], 0⟩, ⟨[112, 99, 46, 108, 97, 110], 49, 60, 0, [], (dhcidP [109, 101] [112, 99, 46, 108, 97, 110]).1, 0⟩,
    ⟨[49, 48, 46, 48, 46, 48, 46, 49, 48, 46, 105, 110, 45, 97, 100, 100, 114, 46, 97, 114, 112, 97], 12, 60, 0, [112, 99, 46, 108, 97, 110], [], 0⟩], 0) := by decide +kernel
theorem awake_ch1 : changedP givenC [meL] [] 0 0 = (true, 0) := by decide +kernel
theorem awake_ch2 : changedP givenC [meL] [] 9 0 = (false, 0) := by decide +kernel
theorem awake_bad : recordsP givenC [meL] (-1) 7 = ([], 2000) := by decide +kernel
theorem awake20_ok (h : Heap) (nx : Nat) : SpecP G0 5 [] h nx fun v _ _ => v = .b true := by
  refine SpecP.walk g5 rfl ?_
  simp (disch := first | assumption | omega | (simp only [List.length_append, List.length_cons, List.length_nil, bytesP_len]; omega)) only [code_rules, frame_rules, guard_rules, WB_rules, pure_rules, make_rules, num_rules, text_rules, eqD_rules, eqs_rules, cut_rules, splice_rules, box_rules, cells_rules, ok_rules, WQ_rules, fin_rules, heap_rules, slots_rules, ixs_at, wrap_i64, Heap.set_of_ne, List.reduceReplicate, List.flatten_cons, List.flatten_nil, List.map_cons, List.map_nil, Nat.zero_mul, Nat.one_mul, List.append_nil, FA_true, wr_rules, true_or, or_true, or_self, or_false, false_or, not_false_eq_true, implies_true, forall_const, vis_rules, cls_rules, Nat.testBit_eq_decide_div_mod_eq, Nat.reducePow, Nat.reduceDiv, Nat.reduceMod, Nat.reduceLeDiff, Nat.le_refl, Bool.true_or, Bool.or_true, Bool.or_false, Bool.false_or, wrOK_nil, ↓reduceIte, Int.reduceLE, Int.reduceLT, Int.reduceEq, Int.reduceAdd, Int.reduceSub, Int.reduceMul, Int.reduceNeg, Int.reduceBEq, Nat.reduceEqDiff, Nat.reduceAdd, Nat.reduceSub, Nat.reduceMul, if_true, if_false, reduceCtorEq, List.nil_append, List.cons_append, List.length_cons, List.length_nil, List.all_cons, List.all_nil, Bool.and_self, Bool.and_true, Bool.true_and, Bool.and_false, Bool.false_and, Bool.bne_false, Bool.bne_true, fill_rules, Nat.zero_add, Nat.add_zero, Nat.mul_one, Int.toNat_natCast, if_pos, Option.map_some, Option.bind_some, Bool.false_eq_true, eq_self, false_and, true_and, and_true, and_false, Bool.not_true, Bool.not_false, Nat.succ_ne_self, decide_true, decide_false, bne, beq_self_eq_true, List.getElem?_cons_zero, List.getElem?_cons_succ, List.getElem?_nil, d5, e5]
  refine SpecP.go (given_ok _ _) ?_
  rintro v h1 n1 hn1 hk1 ⟨e, r, s, rfl, ha⟩
  obtain ⟨pe1, pe2⟩ := ha.e.plain
  obtain ⟨pr1, pr2⟩ := ha.r.plain
  obtain ⟨ps1, ps2⟩ := ha.s.plain
  simp (disch := first | assumption | omega | (simp only [List.length_append, List.length_cons, List.length_nil, bytesP_len]; omega)) only [code_rules, frame_rules, guard_rules, WB_rules, pure_rules, make_rules, num_rules, text_rules, eqD_rules, eqs_rules, cut_rules, splice_rules, box_rules, cells_rules, ok_rules, WQ_rules, fin_rules, heap_rules, slots_rules, ixs_at, wrap_i64, Heap.set_of_ne, List.reduceReplicate, List.flatten_cons, List.flatten_nil, List.map_cons, List.map_nil, Nat.zero_mul, Nat.one_mul, List.append_nil, FA_true, wr_rules, true_or, or_true, or_self, or_false, false_or, not_false_eq_true, implies_true, forall_const, vis_rules, cls_rules, Nat.testBit_eq_decide_div_mod_eq, Nat.reducePow, Nat.reduceDiv, Nat.reduceMod, Nat.reduceLeDiff, Nat.le_refl, Bool.true_or, Bool.or_true, Bool.or_false, Bool.false_or, wrOK_nil, ↓reduceIte, Int.reduceLE, Int.reduceLT, Int.reduceEq, Int.reduceAdd, Int.reduceSub, Int.reduceMul, Int.reduceNeg, Int.reduceBEq, Nat.reduceEqDiff, Nat.reduceAdd, Nat.reduceSub, Nat.reduceMul, if_true, if_false, reduceCtorEq, List.nil_append, List.cons_append, List.length_cons, List.length_nil, List.all_cons, List.all_nil, Bool.and_self, Bool.and_true, Bool.true_and, Bool.and_false, Bool.false_and, Bool.bne_false, Bool.bne_true, fill_rules, Nat.zero_add, Nat.add_zero, Nat.mul_one, Int.toNat_natCast, if_pos, Option.map_some, Option.bind_some, Bool.false_eq_true, eq_self, false_and, true_and, and_true, and_false, Bool.not_true, Bool.not_false, Nat.succ_ne_self, decide_true, decide_false, bne, beq_self_eq_true, List.getElem?_cons_zero, List.getElem?_cons_succ, List.getElem?_nil, Config.cells, pe1, pe2, pr1, pr2, ps1, ps2]
  have meSl : ∀ (h' : Heap) (n' id : Nat), id < n' → h' id = some (.arr true 24 [.i .i64 10, .i .i64 2, .s [109, 101], .i .i64 9, .s [112, 99], .b true]) → Sl Lease.cells 6 h' n' (.sl id 0 1 1 true) [meL] := fun h' n' id h1 h2 => SlC.lit h1 h2 rfl
  have hcf : ∀ l ∈ [meL], l.Ok := by simp [meL_ok]
  have hcn : ∀ l ∈ ([] : List Lease), l.Ok := by simp
  have hl1 : [meL].length < 1048577 := by decide
  have hl0 : ([] : List Lease).length < 1048577 := by decide
  obtain ⟨H, hH⟩ : ∃ H, H = ((h1.set n1 (some (.arr true 33 [.i .i64 0, .i .i64 0, .sn, .sn, .i .i64 0, .s [], .sn]))).set n1 (some (.arr true 33 [.i .i64 givenC.first, .i .i64 givenC.last, e, r, .i .i64 givenC.time, .s givenC.zone, s]))).set (n1 + 1) (some (.arr true 24 [.i .i64 10, .i .i64 2, .s [109, 101], .i .i64 9, .s [112, 99], .b true])) := ⟨_, rfl⟩
  rw [← hH]
  have hat : givenC.At H (n1 + 1 + 1) e r s := ha.mono (fun j hj => by rw [hH]; simp (disch := omega) only [Heap.set_of_ne]) (by omega)
  have hme : Sl Lease.cells 6 H (n1 + 1 + 1) (.sl (n1 + 1) 0 1 1 true) [meL] := meSl _ _ _ (by omega) (by rw [hH, Heap.set_same])
  have hbx : H n1 = some (.arr true 33 [.i .i64 givenC.first, .i .i64 givenC.last, e, r, .i .i64 givenC.time, .s givenC.zone, s]) := by rw [hH]; simp (disch := omega) only [Heap.set_of_ne, Heap.set_same]
  clear hH
  refine SpecP.go (records_ok givenC givenC_ok [meL] hcf hl1 0 7 hat hme) ?_
  rintro v2 h2 n2 hn2 hk2 ⟨w2, rfl, hw2⟩
  have hb2 := hk2 n1 (by omega)
  rw [hbx] at hb2
  have hat2 := hat.mono hk2 hn2
  have hme2 := hme.mono hk2 hn2
  simp (disch := first | assumption | omega | (simp only [List.length_append, List.length_cons, List.length_nil, bytesP_len]; omega)) only [code_rules, frame_rules, guard_rules, WB_rules, pure_rules, make_rules, num_rules, text_rules, eqD_rules, eqs_rules, cut_rules, splice_rules, box_rules, cells_rules, ok_rules, WQ_rules, fin_rules, heap_rules, slots_rules, ixs_at, wrap_i64, Heap.set_of_ne, List.reduceReplicate, List.flatten_cons, List.flatten_nil, List.map_cons, List.map_nil, Nat.zero_mul, Nat.one_mul, List.append_nil, FA_true, wr_rules, true_or, or_true, or_self, or_false, false_or, not_false_eq_true, implies_true, forall_const, vis_rules, cls_rules, Nat.testBit_eq_decide_div_mod_eq, Nat.reducePow, Nat.reduceDiv, Nat.reduceMod, Nat.reduceLeDiff, Nat.le_refl, Bool.true_or, Bool.or_true, Bool.or_false, Bool.false_or, wrOK_nil, ↓reduceIte, Int.reduceLE, Int.reduceLT, Int.reduceEq, Int.reduceAdd, Int.reduceSub, Int.reduceMul, Int.reduceNeg, Int.reduceBEq, Nat.reduceEqDiff, Nat.reduceAdd, Nat.reduceSub, Nat.reduceMul, if_true, if_false, reduceCtorEq, List.nil_append, List.cons_append, List.length_cons, List.length_nil, List.all_cons, List.all_nil, Bool.and_self, Bool.and_true, Bool.true_and, Bool.and_false, Bool.false_and, Bool.bne_false, Bool.bne_true, fill_rules, Nat.zero_add, Nat.add_zero, Nat.mul_one, Int.toNat_natCast, if_pos, Option.map_some, Option.bind_some, Bool.false_eq_true, eq_self, false_and, true_and, and_true, and_false, Bool.not_true, Bool.not_false, Nat.succ_ne_self, decide_true, decide_false, bne, beq_self_eq_true, List.getElem?_cons_zero, List.getElem?_cons_succ, List.getElem?_nil, hb2]
  refine SpecP.go (changed_ok givenC givenC_ok [meL] [] hcf hl1 hcn hl0 0 0 hat2 hme2 (Sl.nil _ _ _ _)) ?_
  rintro v3 h3 n3 hn3 hk3 rfl
  have hb3 := hk3 n1 (by omega)
  rw [hb2] at hb3
  have hat3 := hat2.mono hk3 hn3
  have hme3 := hme2.mono hk3 hn3
  simp (disch := first | assumption | omega | (simp only [List.length_append, List.length_cons, List.length_nil, bytesP_len]; omega)) only [code_rules, frame_rules, guard_rules, WB_rules, pure_rules, make_rules, num_rules, text_rules, eqD_rules, eqs_rules, cut_rules, splice_rules, box_rules, cells_rules, ok_rules, WQ_rules, fin_rules, heap_rules, slots_rules, ixs_at, wrap_i64, Heap.set_of_ne, List.reduceReplicate, List.flatten_cons, List.flatten_nil, List.map_cons, List.map_nil, Nat.zero_mul, Nat.one_mul, List.append_nil, FA_true, wr_rules, true_or, or_true, or_self, or_false, false_or, not_false_eq_true, implies_true, forall_const, vis_rules, cls_rules, Nat.testBit_eq_decide_div_mod_eq, Nat.reducePow, Nat.reduceDiv, Nat.reduceMod, Nat.reduceLeDiff, Nat.le_refl, Bool.true_or, Bool.or_true, Bool.or_false, Bool.false_or, wrOK_nil, ↓reduceIte, Int.reduceLE, Int.reduceLT, Int.reduceEq, Int.reduceAdd, Int.reduceSub, Int.reduceMul, Int.reduceNeg, Int.reduceBEq, Nat.reduceEqDiff, Nat.reduceAdd, Nat.reduceSub, Nat.reduceMul, if_true, if_false, reduceCtorEq, List.nil_append, List.cons_append, List.length_cons, List.length_nil, List.all_cons, List.all_nil, Bool.and_self, Bool.and_true, Bool.true_and, Bool.and_false, Bool.false_and, Bool.bne_false, Bool.bne_true, fill_rules, Nat.zero_add, Nat.add_zero, Nat.mul_one, Int.toNat_natCast, if_pos, Option.map_some, Option.bind_some, Bool.false_eq_true, eq_self, false_and, true_and, and_true, and_false, Bool.not_true, Bool.not_false, Nat.succ_ne_self, decide_true, decide_false, bne, beq_self_eq_true, List.getElem?_cons_zero, List.getElem?_cons_succ, List.getElem?_nil, hb3]
  refine SpecP.go (changed_ok givenC givenC_ok [meL] [] hcf hl1 hcn hl0 9 0 hat3 hme3 (Sl.nil _ _ _ _)) ?_
  rintro v4 h4 n4 hn4 hk4 rfl
  have hb4 := hk4 n1 (by omega)
  rw [hb3] at hb4
  have hat4 := hat3.mono hk4 hn4
  have hme4 := hme3.mono hk4 hn4
  simp (disch := first | assumption | omega | (simp only [List.length_append, List.length_cons, List.length_nil, bytesP_len]; omega)) only [code_rules, frame_rules, guard_rules, WB_rules, pure_rules, make_rules, num_rules, text_rules, eqD_rules, eqs_rules, cut_rules, splice_rules, box_rules, cells_rules, ok_rules, WQ_rules, fin_rules, heap_rules, slots_rules, ixs_at, wrap_i64, Heap.set_of_ne, List.reduceReplicate, List.flatten_cons, List.flatten_nil, List.map_cons, List.map_nil, Nat.zero_mul, Nat.one_mul, List.append_nil, FA_true, wr_rules, true_or, or_true, or_self, or_false, false_or, not_false_eq_true, implies_true, forall_const, vis_rules, cls_rules, Nat.testBit_eq_decide_div_mod_eq, Nat.reducePow, Nat.reduceDiv, Nat.reduceMod, Nat.reduceLeDiff, Nat.le_refl, Bool.true_or, Bool.or_true, Bool.or_false, Bool.false_or, wrOK_nil, ↓reduceIte, Int.reduceLE, Int.reduceLT, Int.reduceEq, Int.reduceAdd, Int.reduceSub, Int.reduceMul, Int.reduceNeg, Int.reduceBEq, Nat.reduceEqDiff, Nat.reduceAdd, Nat.reduceSub, Nat.reduceMul, if_true, if_false, reduceCtorEq, List.nil_append, List.cons_append, List.length_cons, List.length_nil, List.all_cons, List.all_nil, Bool.and_self, Bool.and_true, Bool.true_and, Bool.and_false, Bool.false_and, Bool.bne_false, Bool.bne_true, fill_rules, Nat.zero_add, Nat.add_zero, Nat.mul_one, Int.toNat_natCast, if_pos, Option.map_some, Option.bind_some, Bool.false_eq_true, eq_self, false_and, true_and, and_true, and_false, Bool.not_true, Bool.not_false, Nat.succ_ne_self, decide_true, decide_false, bne, beq_self_eq_true, List.getElem?_cons_zero, List.getElem?_cons_succ, List.getElem?_nil, hb4]
  refine SpecP.go (records_ok givenC givenC_ok [meL] hcf hl1 (-1) 7 hat4 hme4) ?_
  rintro v5 h5 n5 hn5 hk5 ⟨w5, rfl, hw5⟩
  have hb5 := hk5 n1 (by omega)
  rw [hb4] at hb5
  have hat5 := hat4.mono hk5 hn5
  simp (disch := first | assumption | omega | (simp only [List.length_append, List.length_cons, List.length_nil, bytesP_len]; omega)) only [code_rules, frame_rules, guard_rules, WB_rules, pure_rules, make_rules, num_rules, text_rules, eqD_rules, eqs_rules, cut_rules, splice_rules, box_rules, cells_rules, ok_rules, WQ_rules, fin_rules, heap_rules, slots_rules, ixs_at, wrap_i64, Heap.set_of_ne, List.reduceReplicate, List.flatten_cons, List.flatten_nil, List.map_cons, List.map_nil, Nat.zero_mul, Nat.one_mul, List.append_nil, FA_true, wr_rules, true_or, or_true, or_self, or_false, false_or, not_false_eq_true, implies_true, forall_const, vis_rules, cls_rules, Nat.testBit_eq_decide_div_mod_eq, Nat.reducePow, Nat.reduceDiv, Nat.reduceMod, Nat.reduceLeDiff, Nat.le_refl, Bool.true_or, Bool.or_true, Bool.or_false, Bool.false_or, wrOK_nil, ↓reduceIte, Int.reduceLE, Int.reduceLT, Int.reduceEq, Int.reduceAdd, Int.reduceSub, Int.reduceMul, Int.reduceNeg, Int.reduceBEq, Nat.reduceEqDiff, Nat.reduceAdd, Nat.reduceSub, Nat.reduceMul, if_true, if_false, reduceCtorEq, List.nil_append, List.cons_append, List.length_cons, List.length_nil, List.all_cons, List.all_nil, Bool.and_self, Bool.and_true, Bool.true_and, Bool.and_false, Bool.false_and, Bool.bne_false, Bool.bne_true, fill_rules, Nat.zero_add, Nat.add_zero, Nat.mul_one, Int.toNat_natCast, if_pos, Option.map_some, Option.bind_some, Bool.false_eq_true, eq_self, false_and, true_and, and_true, and_false, Bool.not_true, Bool.not_false, Nat.succ_ne_self, decide_true, decide_false, bne, beq_self_eq_true, List.getElem?_cons_zero, List.getElem?_cons_succ, List.getElem?_nil, hb5]
  refine SpecP.go (refDhcid_ok _ _ (by decide) (by decide) _ _) ?_
  rintro v6 h6 n6 hn6 hk6 rfl
  have hb6 := hk6 n1 (by omega)
  rw [hb5] at hb6
  have hat6 := hat5.mono hk6 hn6
  obtain ⟨jd, jo, jr, jt, js, hjd, hjb, hjc, hjg, hia⟩ := hat6.s.at RR.cells_len 0 (by decide)
  have hia0 : ∀ k st K t, FO (.ia 7) [s, .i k 0] st K t = K (.p jd jo) st := hia
  clear hjg
  simp only [RR.cells, givenC, List.getElem_cons_zero] at hjc
  simp (disch := first | assumption | omega | (simp only [List.length_append, List.length_cons, List.length_nil, bytesP_len]; omega)) only [code_rules, frame_rules, guard_rules, WB_rules, pure_rules, make_rules, num_rules, text_rules, eqD_rules, eqs_rules, cut_rules, splice_rules, box_rules, cells_rules, ok_rules, WQ_rules, fin_rules, heap_rules, slots_rules, ixs_at, wrap_i64, Heap.set_of_ne, List.reduceReplicate, List.flatten_cons, List.flatten_nil, List.map_cons, List.map_nil, Nat.zero_mul, Nat.one_mul, List.append_nil, FA_true, wr_rules, true_or, or_true, or_self, or_false, false_or, not_false_eq_true, implies_true, forall_const, vis_rules, cls_rules, Nat.testBit_eq_decide_div_mod_eq, Nat.reducePow, Nat.reduceDiv, Nat.reduceMod, Nat.reduceLeDiff, Nat.le_refl, Bool.true_or, Bool.or_true, Bool.or_false, Bool.false_or, wrOK_nil, ↓reduceIte, Int.reduceLE, Int.reduceLT, Int.reduceEq, Int.reduceAdd, Int.reduceSub, Int.reduceMul, Int.reduceNeg, Int.reduceBEq, Nat.reduceEqDiff, Nat.reduceAdd, Nat.reduceSub, Nat.reduceMul, if_true, if_false, reduceCtorEq, List.nil_append, List.cons_append, List.length_cons, List.length_nil, List.all_cons, List.all_nil, Bool.and_self, Bool.and_true, Bool.true_and, Bool.and_false, Bool.false_and, Bool.bne_false, Bool.bne_true, fill_rules, Nat.zero_add, Nat.add_zero, Nat.mul_one, Int.toNat_natCast, if_pos, Option.map_some, Option.bind_some, Bool.false_eq_true, eq_self, false_and, true_and, and_true, and_false, Bool.not_true, Bool.not_false, Nat.succ_ne_self, decide_true, decide_false, bne, beq_self_eq_true, List.getElem?_cons_zero, List.getElem?_cons_succ, List.getElem?_nil, hb6, hia0, hjb, hjc]
  have hw26 : Sl RR.cells 7 h6 n6 w2 (recordsP givenC [meL] 0 7).1 := (((hw2.mono hk3 hn3).mono hk4 hn4).mono hk5 hn5).mono hk6 hn6
  rw [awake_rec] at hw26
  refine SpecP.go (sameRR_ok (by decide) (hw26.mono (fun j hj => Heap.set_of_ne (by omega)) (by omega)) (SlC.lit (by omega) (Heap.set_same _ _ _) rfl : Sl RR.cells 7 _ _ _ (recordsP givenC [meL] 0 7).1)) ?_
  rintro v7 h7 n7 hn7 hk7 rfl
  rw [awake_rec, awake_ch1, awake_ch2, awake_bad]
  simp (disch := first | assumption | omega | (simp only [List.length_append, List.length_cons, List.length_nil, bytesP_len]; omega)) only [code_rules, frame_rules, guard_rules, WB_rules, pure_rules, make_rules, num_rules, text_rules, eqD_rules, eqs_rules, cut_rules, splice_rules, box_rules, cells_rules, ok_rules, WQ_rules, fin_rules, heap_rules, slots_rules, ixs_at, wrap_i64, Heap.set_of_ne, List.reduceReplicate, List.flatten_cons, List.flatten_nil, List.map_cons, List.map_nil, Nat.zero_mul, Nat.one_mul, List.append_nil, FA_true, wr_rules, true_or, or_true, or_self, or_false, false_or, not_false_eq_true, implies_true, forall_const, vis_rules, cls_rules, Nat.testBit_eq_decide_div_mod_eq, Nat.reducePow, Nat.reduceDiv, Nat.reduceMod, Nat.reduceLeDiff, Nat.le_refl, Bool.true_or, Bool.or_true, Bool.or_false, Bool.false_or, wrOK_nil, ↓reduceIte, Int.reduceLE, Int.reduceLT, Int.reduceEq, Int.reduceAdd, Int.reduceSub, Int.reduceMul, Int.reduceNeg, Int.reduceBEq, Nat.reduceEqDiff, Nat.reduceAdd, Nat.reduceSub, Nat.reduceMul, if_true, if_false, reduceCtorEq, List.nil_append, List.cons_append, List.length_cons, List.length_nil, List.all_cons, List.all_nil, Bool.and_self, Bool.and_true, Bool.true_and, Bool.and_false, Bool.false_and, Bool.bne_false, Bool.bne_true, fill_rules, Nat.zero_add, Nat.add_zero, Nat.mul_one, Int.toNat_natCast, if_pos, Option.map_some, Option.bind_some, Bool.false_eq_true, eq_self, false_and, true_and, and_true, and_false, Bool.not_true, Bool.not_false, Nat.succ_ne_self, decide_true, decide_false, bne, beq_self_eq_true, List.getElem?_cons_zero, List.getElem?_cons_succ, List.getElem?_nil, (errNum_ok _).fs]
  exact ⟨by omega, by omega⟩
/-! ### what a sweep takes out -/
theorem let_leaseP {l : Lease} (h : leaseP l = true) : leaseP (letP l) = true := by
  simp only [leaseP, Bool.and_eq_true, letP] at h ⊢
  obtain ⟨⟨⟨⟨⟨h1, h2⟩, h3⟩, h4⟩, h5⟩, h6⟩ := h
  exact ⟨⟨⟨⟨⟨h1, h2⟩, by simp [stateP]⟩, h4⟩, h5⟩, by simp [nameP]⟩
theorem swept_host (now : Int) (l : Lease) : (sweptP now l).host = l.host := by
  simp only [sweptP]; split <;> rfl
theorem swept_leaseP {now : Int} {l : Lease} (h : leaseP l = true) : leaseP (sweptP now l) = true := by
  simp only [sweptP]; split
  · exact let_leaseP h
  · exact h
theorem swept_table (now : Int) : ∀ (ls : List Lease) (p : Option Int), tableGo p ls = true → tableGo p (ls.map (sweptP now)) = true
  | [], _, _ => rfl
  | l :: r, p, h => by
    simp only [tableGo, Bool.and_eq_true, List.map_cons, swept_host] at h ⊢
    exact ⟨⟨swept_leaseP h.1.1, h.1.2⟩, swept_table now r _ h.2⟩
theorem swept_owns (c : Config) (now : Int) (l : Lease) : ownsP c now (sweptP now l) = ownsP c now l := by
  simp only [sweptP]
  split
  · rename_i h
    simp only [Bool.and_eq_true, Bool.not_eq_true'] at h
    have h1 : ownsP c now (letP l) = [] := by simp [ownsP, letP]
    have h2 : ownsP c now l = [] := by simp [ownsP, boundP, holdsP, h.2]
    rw [h1, h2]
  · rfl
theorem swept_len {now : Int} {l : Lease} (h : l.client.length < 1048577 ∧ l.name.length < 1048577) : (sweptP now l).client.length < 1048577 ∧ (sweptP now l).name.length < 1048577 := by
  simp only [sweptP]; split
  · exact ⟨h.1, by simp [letP]⟩
  · exact h
theorem swept_law {c : Config} {ls : List Lease} {now : Int} (h : (recordsP c ls now 3).2 = 0) :
    sweepP ls now = (ls.map (sweptP now), 0) ∧ recordsP c (ls.map (sweptP now)) now 3 = recordsP c ls now 3 ∧ changedP c ls (ls.map (sweptP now)) now now = (false, 0) := by
  have hcond : (confP c && tableP ls && timeP now && serialP 3) = true := by
    simp only [recordsP] at h
    split at h
    · assumption
    · simp at h
  simp only [Bool.and_eq_true] at hcond
  obtain ⟨⟨⟨h1, h2⟩, h3⟩, _⟩ := hcond
  have h2' : tableP (ls.map (sweptP now)) = true := by
    simp only [tableP, Bool.and_eq_true, List.length_map] at h2 ⊢
    exact ⟨swept_table now ls none h2.1, h2.2⟩
  have hfm : (ls.map (sweptP now)).flatMap (ownsP c now) = ls.flatMap (ownsP c now) := by
    rw [List.flatMap_map]; congr 1; funext l; exact swept_owns c now l
  have hrec : ∀ n, recordsP c (ls.map (sweptP now)) now n = recordsP c ls now n := by
    intro n; simp only [recordsP, h1, h2, h2', h3, hfm]
  have h0 : (recordsP c ls now 0).2 = 0 := by
    have : serialP 0 = true := by decide
    simp [recordsP, h1, h2, h3, this]
  refine ⟨by simp [sweepP, h2, h3], hrec 3, ?_⟩
  simp only [changedP, hrec, h0]
  simp
theorem recordsP_bad {c : Config} {ls : List Lease} {now n : Int} (h : ¬ (recordsP c ls now n).2 = 0) : (recordsP c ls now n).1 = [] := by
  simp only [recordsP] at h ⊢
  split at h
  · exact absurd rfl h
  · rename_i hb; rw [if_neg hb]
theorem zoneSwept_run (c : Config) (hc : c.Ok) (ls : List Lease) (hl : ∀ l ∈ ls, l.client.length < 1048577 ∧ l.name.length < 1048577) (hn : ls.length < 1048577) (now : Int) {h : Heap} {nx : Nat} {e r s v : V} (ha : c.At h nx e r s) (hv : Sl Lease.cells 6 h nx v ls) :
    SpecP G0 4 [.agg (c.cells e r s), v, .i .i64 now] h nx fun x _ _ => x = .b true := by
  obtain ⟨pe1, pe2⟩ := ha.e.plain
  obtain ⟨pr1, pr2⟩ := ha.r.plain
  obtain ⟨ps1, ps2⟩ := ha.s.plain
  have hlo : ∀ l ∈ ls, l.Ok := fun l hm => ⟨by have := (hl l hm).1; omega, by have := (hl l hm).2; omega⟩
  refine SpecP.walk g4 rfl ?_
  simp (disch := first | assumption | omega | (simp only [List.length_append, List.length_cons, List.length_nil, bytesP_len]; omega)) only [code_rules, frame_rules, guard_rules, WB_rules, pure_rules, make_rules, num_rules, text_rules, eqD_rules, eqs_rules, cut_rules, splice_rules, box_rules, cells_rules, ok_rules, WQ_rules, fin_rules, heap_rules, slots_rules, ixs_at, wrap_i64, Heap.set_of_ne, List.reduceReplicate, List.flatten_cons, List.flatten_nil, List.map_cons, List.map_nil, Nat.zero_mul, Nat.one_mul, List.append_nil, FA_true, wr_rules, true_or, or_true, or_self, or_false, false_or, not_false_eq_true, implies_true, forall_const, vis_rules, cls_rules, Nat.testBit_eq_decide_div_mod_eq, Nat.reducePow, Nat.reduceDiv, Nat.reduceMod, Nat.reduceLeDiff, Nat.le_refl, Bool.true_or, Bool.or_true, Bool.or_false, Bool.false_or, wrOK_nil, ↓reduceIte, Int.reduceLE, Int.reduceLT, Int.reduceEq, Int.reduceAdd, Int.reduceSub, Int.reduceMul, Int.reduceNeg, Int.reduceBEq, Nat.reduceEqDiff, Nat.reduceAdd, Nat.reduceSub, Nat.reduceMul, if_true, if_false, reduceCtorEq, List.nil_append, List.cons_append, List.length_cons, List.length_nil, List.all_cons, List.all_nil, Bool.and_self, Bool.and_true, Bool.true_and, Bool.and_false, Bool.false_and, Bool.bne_false, Bool.bne_true, fill_rules, Nat.zero_add, Nat.add_zero, Nat.mul_one, Int.toNat_natCast, if_pos, Option.map_some, Option.bind_some, Bool.false_eq_true, eq_self, false_and, true_and, and_true, and_false, Bool.not_true, Bool.not_false, Nat.succ_ne_self, decide_true, decide_false, bne, beq_self_eq_true, List.getElem?_cons_zero, List.getElem?_cons_succ, List.getElem?_nil, d4, e4, Config.cells, pe1, pe2, pr1, pr2, ps1, ps2]
  obtain ⟨H, hH⟩ : ∃ H, H = h.set nx (some (.arr true 33 [.i .i64 c.first, .i .i64 c.last, e, r, .i .i64 c.time, .s c.zone, s])) := ⟨_, rfl⟩
  rw [← hH]
  have hat : c.At H (nx + 1) e r s := ha.mono (fun j hj => by rw [hH]; exact Heap.set_of_ne (by omega)) (by omega)
  have hvt : Sl Lease.cells 6 H (nx + 1) v ls := hv.mono (fun j hj => by rw [hH]; exact Heap.set_of_ne (by omega)) (by omega)
  have hbx : H nx = some (.arr true 33 [.i .i64 c.first, .i .i64 c.last, e, r, .i .i64 c.time, .s c.zone, s]) := by rw [hH, Heap.set_same]
  clear hH ha hv
  refine SpecP.go (awake20_ok _ _) ?_
  rintro v1 h1 n1 hn1 hk1 rfl
  have hb1 := hk1 nx (by omega)
  rw [hbx] at hb1
  have hat1 := hat.mono hk1 hn1
  have hvt1 := hvt.mono hk1 hn1
  simp (disch := first | assumption | omega | (simp only [List.length_append, List.length_cons, List.length_nil, bytesP_len]; omega)) only [code_rules, frame_rules, guard_rules, WB_rules, pure_rules, make_rules, num_rules, text_rules, eqD_rules, eqs_rules, cut_rules, splice_rules, box_rules, cells_rules, ok_rules, WQ_rules, fin_rules, heap_rules, slots_rules, ixs_at, wrap_i64, Heap.set_of_ne, List.reduceReplicate, List.flatten_cons, List.flatten_nil, List.map_cons, List.map_nil, Nat.zero_mul, Nat.one_mul, List.append_nil, FA_true, wr_rules, true_or, or_true, or_self, or_false, false_or, not_false_eq_true, implies_true, forall_const, vis_rules, cls_rules, Nat.testBit_eq_decide_div_mod_eq, Nat.reducePow, Nat.reduceDiv, Nat.reduceMod, Nat.reduceLeDiff, Nat.le_refl, Bool.true_or, Bool.or_true, Bool.or_false, Bool.false_or, wrOK_nil, ↓reduceIte, Int.reduceLE, Int.reduceLT, Int.reduceEq, Int.reduceAdd, Int.reduceSub, Int.reduceMul, Int.reduceNeg, Int.reduceBEq, Nat.reduceEqDiff, Nat.reduceAdd, Nat.reduceSub, Nat.reduceMul, if_true, if_false, reduceCtorEq, List.nil_append, List.cons_append, List.length_cons, List.length_nil, List.all_cons, List.all_nil, Bool.and_self, Bool.and_true, Bool.true_and, Bool.and_false, Bool.false_and, Bool.bne_false, Bool.bne_true, fill_rules, Nat.zero_add, Nat.add_zero, Nat.mul_one, Int.toNat_natCast, if_pos, Option.map_some, Option.bind_some, Bool.false_eq_true, eq_self, false_and, true_and, and_true, and_false, Bool.not_true, Bool.not_false, Nat.succ_ne_self, decide_true, decide_false, bne, beq_self_eq_true, List.getElem?_cons_zero, List.getElem?_cons_succ, List.getElem?_nil, hb1]
  refine SpecP.go (records_ok c hc ls hlo hn now 3 hat1 hvt1) ?_
  rintro v2 h2 n2 hn2 hk2 ⟨w2, rfl, hw2⟩
  have hb2 := hk2 nx (by omega)
  rw [hb1] at hb2
  have hat2 := hat1.mono hk2 hn2
  have hvt2 := hvt1.mono hk2 hn2
  have hlen2 := hw2.len
  simp (disch := first | assumption | omega | (simp only [List.length_append, List.length_cons, List.length_nil, bytesP_len]; omega)) only [code_rules, frame_rules, guard_rules, WB_rules, pure_rules, make_rules, num_rules, text_rules, eqD_rules, eqs_rules, cut_rules, splice_rules, box_rules, cells_rules, ok_rules, WQ_rules, fin_rules, heap_rules, slots_rules, ixs_at, wrap_i64, Heap.set_of_ne, List.reduceReplicate, List.flatten_cons, List.flatten_nil, List.map_cons, List.map_nil, Nat.zero_mul, Nat.one_mul, List.append_nil, FA_true, wr_rules, true_or, or_true, or_self, or_false, false_or, not_false_eq_true, implies_true, forall_const, vis_rules, cls_rules, Nat.testBit_eq_decide_div_mod_eq, Nat.reducePow, Nat.reduceDiv, Nat.reduceMod, Nat.reduceLeDiff, Nat.le_refl, Bool.true_or, Bool.or_true, Bool.or_false, Bool.false_or, wrOK_nil, ↓reduceIte, Int.reduceLE, Int.reduceLT, Int.reduceEq, Int.reduceAdd, Int.reduceSub, Int.reduceMul, Int.reduceNeg, Int.reduceBEq, Nat.reduceEqDiff, Nat.reduceAdd, Nat.reduceSub, Nat.reduceMul, if_true, if_false, reduceCtorEq, List.nil_append, List.cons_append, List.length_cons, List.length_nil, List.all_cons, List.all_nil, Bool.and_self, Bool.and_true, Bool.true_and, Bool.and_false, Bool.false_and, Bool.bne_false, Bool.bne_true, fill_rules, Nat.zero_add, Nat.add_zero, Nat.mul_one, Int.toNat_natCast, if_pos, Option.map_some, Option.bind_some, Bool.false_eq_true, eq_self, false_and, true_and, and_true, and_false, Bool.not_true, Bool.not_false, Nat.succ_ne_self, decide_true, decide_false, bne, beq_self_eq_true, List.getElem?_cons_zero, List.getElem?_cons_succ, List.getElem?_nil, (errNum_ok _).fs]
  refine FC.nbeq ?_ ?_ <;> intro h0
  · have hz : ¬ (recordsP c ls now 3).2 = 0 := by simpa using h0
    rw [recordsP_bad hz] at hlen2
    simp (disch := first | assumption | omega | (simp only [List.length_append, List.length_cons, List.length_nil, bytesP_len]; omega)) only [code_rules, frame_rules, guard_rules, WB_rules, pure_rules, make_rules, num_rules, text_rules, eqD_rules, eqs_rules, cut_rules, splice_rules, box_rules, cells_rules, ok_rules, WQ_rules, fin_rules, heap_rules, slots_rules, ixs_at, wrap_i64, Heap.set_of_ne, List.reduceReplicate, List.flatten_cons, List.flatten_nil, List.map_cons, List.map_nil, Nat.zero_mul, Nat.one_mul, List.append_nil, FA_true, wr_rules, true_or, or_true, or_self, or_false, false_or, not_false_eq_true, implies_true, forall_const, vis_rules, cls_rules, Nat.testBit_eq_decide_div_mod_eq, Nat.reducePow, Nat.reduceDiv, Nat.reduceMod, Nat.reduceLeDiff, Nat.le_refl, Bool.true_or, Bool.or_true, Bool.or_false, Bool.false_or, wrOK_nil, ↓reduceIte, Int.reduceLE, Int.reduceLT, Int.reduceEq, Int.reduceAdd, Int.reduceSub, Int.reduceMul, Int.reduceNeg, Int.reduceBEq, Nat.reduceEqDiff, Nat.reduceAdd, Nat.reduceSub, Nat.reduceMul, if_true, if_false, reduceCtorEq, List.nil_append, List.cons_append, List.length_cons, List.length_nil, List.all_cons, List.all_nil, Bool.and_self, Bool.and_true, Bool.true_and, Bool.and_false, Bool.false_and, Bool.bne_false, Bool.bne_true, fill_rules, Nat.zero_add, Nat.add_zero, Nat.mul_one, Int.toNat_natCast, if_pos, Option.map_some, Option.bind_some, Bool.false_eq_true, eq_self, false_and, true_and, and_true, and_false, Bool.not_true, Bool.not_false, Nat.succ_ne_self, decide_true, decide_false, bne, beq_self_eq_true, List.getElem?_cons_zero, List.getElem?_cons_succ, List.getElem?_nil, hlen2]
    rfl
  obtain ⟨l1, l2, l3⟩ := swept_law h0
  simp (disch := first | assumption | omega | (simp only [List.length_append, List.length_cons, List.length_nil, bytesP_len]; omega)) only [code_rules, frame_rules, guard_rules, WB_rules, pure_rules, make_rules, num_rules, text_rules, eqD_rules, eqs_rules, cut_rules, splice_rules, box_rules, cells_rules, ok_rules, WQ_rules, fin_rules, heap_rules, slots_rules, ixs_at, wrap_i64, Heap.set_of_ne, List.reduceReplicate, List.flatten_cons, List.flatten_nil, List.map_cons, List.map_nil, Nat.zero_mul, Nat.one_mul, List.append_nil, FA_true, wr_rules, true_or, or_true, or_self, or_false, false_or, not_false_eq_true, implies_true, forall_const, vis_rules, cls_rules, Nat.testBit_eq_decide_div_mod_eq, Nat.reducePow, Nat.reduceDiv, Nat.reduceMod, Nat.reduceLeDiff, Nat.le_refl, Bool.true_or, Bool.or_true, Bool.or_false, Bool.false_or, wrOK_nil, ↓reduceIte, Int.reduceLE, Int.reduceLT, Int.reduceEq, Int.reduceAdd, Int.reduceSub, Int.reduceMul, Int.reduceNeg, Int.reduceBEq, Nat.reduceEqDiff, Nat.reduceAdd, Nat.reduceSub, Nat.reduceMul, if_true, if_false, reduceCtorEq, List.nil_append, List.cons_append, List.length_cons, List.length_nil, List.all_cons, List.all_nil, Bool.and_self, Bool.and_true, Bool.true_and, Bool.and_false, Bool.false_and, Bool.bne_false, Bool.bne_true, fill_rules, Nat.zero_add, Nat.add_zero, Nat.mul_one, Int.toNat_natCast, if_pos, Option.map_some, Option.bind_some, Bool.false_eq_true, eq_self, false_and, true_and, and_true, and_false, Bool.not_true, Bool.not_false, Nat.succ_ne_self, decide_true, decide_false, bne, beq_self_eq_true, List.getElem?_cons_zero, List.getElem?_cons_succ, List.getElem?_nil]
  refine SpecP.go (refSweep_ok ls hl hn now hvt2) ?_
  rintro v3 h3 n3 hn3 hk3 ⟨w3, rfl, hw3⟩
  rw [l1] at hw3 ⊢
  have hb3 := hk3 nx (by omega)
  rw [hb2] at hb3
  have hat3 := hat2.mono hk3 hn3
  have hvt3 := hvt2.mono hk3 hn3
  have hmo : ∀ l ∈ ls.map (sweptP now), l.Ok := by
    intro l hm
    obtain ⟨q, hq, rfl⟩ := List.mem_map.1 hm
    have := swept_len (now := now) (hl q hq)
    exact ⟨by omega, by omega⟩
  have hmn : (ls.map (sweptP now)).length < 1048577 := by simpa using hn
  simp (disch := first | assumption | omega | (simp only [List.length_append, List.length_cons, List.length_nil, bytesP_len]; omega)) only [code_rules, frame_rules, guard_rules, WB_rules, pure_rules, make_rules, num_rules, text_rules, eqD_rules, eqs_rules, cut_rules, splice_rules, box_rules, cells_rules, ok_rules, WQ_rules, fin_rules, heap_rules, slots_rules, ixs_at, wrap_i64, Heap.set_of_ne, List.reduceReplicate, List.flatten_cons, List.flatten_nil, List.map_cons, List.map_nil, Nat.zero_mul, Nat.one_mul, List.append_nil, FA_true, wr_rules, true_or, or_true, or_self, or_false, false_or, not_false_eq_true, implies_true, forall_const, vis_rules, cls_rules, Nat.testBit_eq_decide_div_mod_eq, Nat.reducePow, Nat.reduceDiv, Nat.reduceMod, Nat.reduceLeDiff, Nat.le_refl, Bool.true_or, Bool.or_true, Bool.or_false, Bool.false_or, wrOK_nil, ↓reduceIte, Int.reduceLE, Int.reduceLT, Int.reduceEq, Int.reduceAdd, Int.reduceSub, Int.reduceMul, Int.reduceNeg, Int.reduceBEq, Nat.reduceEqDiff, Nat.reduceAdd, Nat.reduceSub, Nat.reduceMul, if_true, if_false, reduceCtorEq, List.nil_append, List.cons_append, List.length_cons, List.length_nil, List.all_cons, List.all_nil, Bool.and_self, Bool.and_true, Bool.true_and, Bool.and_false, Bool.false_and, Bool.bne_false, Bool.bne_true, fill_rules, Nat.zero_add, Nat.add_zero, Nat.mul_one, Int.toNat_natCast, if_pos, Option.map_some, Option.bind_some, Bool.false_eq_true, eq_self, false_and, true_and, and_true, and_false, Bool.not_true, Bool.not_false, Nat.succ_ne_self, decide_true, decide_false, bne, beq_self_eq_true, List.getElem?_cons_zero, List.getElem?_cons_succ, List.getElem?_nil, hb3]
  refine SpecP.go (records_ok c hc _ hmo hmn now 3 hat3 hw3) ?_
  rintro v4 h4 n4 hn4 hk4 ⟨w4, rfl, hw4⟩
  rw [l2] at hw4 ⊢
  have hb4 := hk4 nx (by omega)
  rw [hb3] at hb4
  have hat4 := hat3.mono hk4 hn4
  have hvt4 := hvt3.mono hk4 hn4
  simp (disch := first | assumption | omega | (simp only [List.length_append, List.length_cons, List.length_nil, bytesP_len]; omega)) only [code_rules, frame_rules, guard_rules, WB_rules, pure_rules, make_rules, num_rules, text_rules, eqD_rules, eqs_rules, cut_rules, splice_rules, box_rules, cells_rules, ok_rules, WQ_rules, fin_rules, heap_rules, slots_rules, ixs_at, wrap_i64, Heap.set_of_ne, List.reduceReplicate, List.flatten_cons, List.flatten_nil, List.map_cons, List.map_nil, Nat.zero_mul, Nat.one_mul, List.append_nil, FA_true, wr_rules, true_or, or_true, or_self, or_false, false_or, not_false_eq_true, implies_true, forall_const, vis_rules, cls_rules, Nat.testBit_eq_decide_div_mod_eq, Nat.reducePow, Nat.reduceDiv, Nat.reduceMod, Nat.reduceLeDiff, Nat.le_refl, Bool.true_or, Bool.or_true, Bool.or_false, Bool.false_or, wrOK_nil, ↓reduceIte, Int.reduceLE, Int.reduceLT, Int.reduceEq, Int.reduceAdd, Int.reduceSub, Int.reduceMul, Int.reduceNeg, Int.reduceBEq, Nat.reduceEqDiff, Nat.reduceAdd, Nat.reduceSub, Nat.reduceMul, if_true, if_false, reduceCtorEq, List.nil_append, List.cons_append, List.length_cons, List.length_nil, List.all_cons, List.all_nil, Bool.and_self, Bool.and_true, Bool.true_and, Bool.and_false, Bool.false_and, Bool.bne_false, Bool.bne_true, fill_rules, Nat.zero_add, Nat.add_zero, Nat.mul_one, Int.toNat_natCast, if_pos, Option.map_some, Option.bind_some, Bool.false_eq_true, eq_self, false_and, true_and, and_true, and_false, Bool.not_true, Bool.not_false, Nat.succ_ne_self, decide_true, decide_false, bne, beq_self_eq_true, List.getElem?_cons_zero, List.getElem?_cons_succ, List.getElem?_nil, hb4]
  refine SpecP.go (changed_ok c hc ls _ hlo hn hmo hmn now now hat4 hvt4 (hw3.mono hk4 hn4)) ?_
  rintro v5 h5 n5 hn5 hk5 rfl
  rw [l3]
  have hw25 := (((hw2.mono hk3 hn3).mono hk4 hn4).mono hk5 hn5)
  have hw45 := hw4.mono hk5 hn5
  simp (disch := first | assumption | omega | (simp only [List.length_append, List.length_cons, List.length_nil, bytesP_len]; omega)) only [code_rules, frame_rules, guard_rules, WB_rules, pure_rules, make_rules, num_rules, text_rules, eqD_rules, eqs_rules, cut_rules, splice_rules, box_rules, cells_rules, ok_rules, WQ_rules, fin_rules, heap_rules, slots_rules, ixs_at, wrap_i64, Heap.set_of_ne, List.reduceReplicate, List.flatten_cons, List.flatten_nil, List.map_cons, List.map_nil, Nat.zero_mul, Nat.one_mul, List.append_nil, FA_true, wr_rules, true_or, or_true, or_self, or_false, false_or, not_false_eq_true, implies_true, forall_const, vis_rules, cls_rules, Nat.testBit_eq_decide_div_mod_eq, Nat.reducePow, Nat.reduceDiv, Nat.reduceMod, Nat.reduceLeDiff, Nat.le_refl, Bool.true_or, Bool.or_true, Bool.or_false, Bool.false_or, wrOK_nil, ↓reduceIte, Int.reduceLE, Int.reduceLT, Int.reduceEq, Int.reduceAdd, Int.reduceSub, Int.reduceMul, Int.reduceNeg, Int.reduceBEq, Nat.reduceEqDiff, Nat.reduceAdd, Nat.reduceSub, Nat.reduceMul, if_true, if_false, reduceCtorEq, List.nil_append, List.cons_append, List.length_cons, List.length_nil, List.all_cons, List.all_nil, Bool.and_self, Bool.and_true, Bool.true_and, Bool.and_false, Bool.false_and, Bool.bne_false, Bool.bne_true, fill_rules, Nat.zero_add, Nat.add_zero, Nat.mul_one, Int.toNat_natCast, if_pos, Option.map_some, Option.bind_some, Bool.false_eq_true, eq_self, false_and, true_and, and_true, and_false, Bool.not_true, Bool.not_false, Nat.succ_ne_self, decide_true, decide_false, bne, beq_self_eq_true, List.getElem?_cons_zero, List.getElem?_cons_succ, List.getElem?_nil, (errNum_ok _).fs, h0]
  refine SpecP.go (sameRR_ok (recordsP_len c hc ls hn now 3) hw25 hw45) ?_
  rintro v6 h6 n6 hn6 hk6 rfl
  simp (disch := first | assumption | omega | (simp only [List.length_append, List.length_cons, List.length_nil, bytesP_len]; omega)) only [code_rules, frame_rules, guard_rules, WB_rules, pure_rules, make_rules, num_rules, text_rules, eqD_rules, eqs_rules, cut_rules, splice_rules, box_rules, cells_rules, ok_rules, WQ_rules, fin_rules, heap_rules, slots_rules, ixs_at, wrap_i64, Heap.set_of_ne, List.reduceReplicate, List.flatten_cons, List.flatten_nil, List.map_cons, List.map_nil, Nat.zero_mul, Nat.one_mul, List.append_nil, FA_true, wr_rules, true_or, or_true, or_self, or_false, false_or, not_false_eq_true, implies_true, forall_const, vis_rules, cls_rules, Nat.testBit_eq_decide_div_mod_eq, Nat.reducePow, Nat.reduceDiv, Nat.reduceMod, Nat.reduceLeDiff, Nat.le_refl, Bool.true_or, Bool.or_true, Bool.or_false, Bool.false_or, wrOK_nil, ↓reduceIte, Int.reduceLE, Int.reduceLT, Int.reduceEq, Int.reduceAdd, Int.reduceSub, Int.reduceMul, Int.reduceNeg, Int.reduceBEq, Nat.reduceEqDiff, Nat.reduceAdd, Nat.reduceSub, Nat.reduceMul, if_true, if_false, reduceCtorEq, List.nil_append, List.cons_append, List.length_cons, List.length_nil, List.all_cons, List.all_nil, Bool.and_self, Bool.and_true, Bool.true_and, Bool.and_false, Bool.false_and, Bool.bne_false, Bool.bne_true, fill_rules, Nat.zero_add, Nat.add_zero, Nat.mul_one, Int.toNat_natCast, if_pos, Option.map_some, Option.bind_some, Bool.false_eq_true, eq_self, false_and, true_and, and_true, and_false, Bool.not_true, Bool.not_false, Nat.succ_ne_self, decide_true, decide_false, bne, beq_self_eq_true, List.getElem?_cons_zero, List.getElem?_cons_succ, List.getElem?_nil, (errNum_ok _).fs, h0]
end Go.Proofs.YtmdaacajdnbegaaDoor
