/- Loops that count, with any test and any step. -/
import Derived.Test.YtmdaacajdnbegaaDoorDLoop
namespace Go.Dm
open Go
set_option linter.unusedSimpArgs false
set_option linter.unusedVariables false
variable {G : Lib}
abbrev cntCode (A B C : ICode) : ICode := .seq A (.seq (.block 1 B) C)
/-- A, met with the count i, goes on while i < n, else leaves; C steps; us: places that stay; ks: places that turn, of which I speaks. -/
theorem FL.cnt {A B C : ICode} {fr : Fr} {st : St} {X : Nat → Fr → St → Prop} {R : Fr → St → Prop} {tg : Tag2 X R} (ci : Nat) (n : Nat) (us ks : List Nat) (I : Nat → List V → St → Prop)
    (hci : fr.get ci = .i .i64 0)
    (hd : (us.all fun k => !(cntCode A B C).dsts.contains k) = true ∧ B.dsts.contains ci = false ∧ A.dsts.contains ci = false ∧ (ks.all fun k => !A.dsts.contains k) = true ∧ (ks.all fun k => !C.dsts.contains k) = true)
    (hA : ∀ i fr1 st1, i ≤ n → fr1.get ci = .i .i64 (i : Int) → slots fr1 us = slots fr us → I i (slots fr1 ks) st1 → ∃ fr2, ∀ cf L, codeX cf L A fr1 st1 = some (if i < n then .n else .x 0, fr2, st1))
    (hC : ∀ i fr1 st1, i < n → fr1.get ci = .i .i64 (i : Int) → ∃ fr2, (∀ cf L, codeX cf L C fr1 st1 = some (.n, fr2, st1)) ∧ fr2.get ci = .i .i64 ((i + 1 : Nat) : Int))
    (h0 : I 0 (slots fr ks) st)
    (step : ∀ i fr1 st1, i < n → fr1.get ci = .i .i64 (i : Int) → slots fr1 us = slots fr us → I i (slots fr1 ks) st1 → Stay st st1 →
      FP G B fr1 st1 (fun fr2 st2 => Stay st st2 → I (i + 1) (slots fr2 ks) st2) (fun j fr2 st2 => if j = 1 then (Stay st st2 → I (i + 1) (slots fr2 ks) st2) else (slots fr2 us = slots fr us → X j fr2 st2)) (fun fr2 st2 => slots fr2 us = slots fr us → R fr2 st2) .mk)
    (done : ∀ fr2 st2, slots fr2 us = slots fr us → I n (slots fr2 ks) st2 → Stay st st2 → X 0 fr2 st2) :
    FL G (cntCode A B C) fr st X R tg := by
  obtain ⟨hd2, hd3, hd4, hd5, hd6⟩ := hd
  have stay0 : CStay (fun _ _ _ _ => none) := ⟨fun _ _ _ _ _ h => by cases h⟩
  have hsub : ∀ j, (cntCode A B C).dsts.contains j = false → A.dsts.contains j = false ∧ B.dsts.contains j = false ∧ C.dsts.contains j = false := by
    intro j hj
    simp only [← Bool.not_eq_true, List.contains_iff_mem, cntCode, ICode.dsts, List.mem_append, not_or] at hj ⊢
    exact hj
  have fixA : ∀ {e fr1 st1 fr2} {st2 : St}, (∀ cf L, codeX cf L A fr1 st1 = some (e, fr2, st2)) → ∀ j, A.dsts.contains j = false → fr2.get j = fr1.get j := by
    intro e fr1 st1 fr2 st2 h j hj
    exact (codeX_stay stay0 0 A (h _ 0)).2 j (by rw [← Bool.not_eq_true, List.contains_iff_mem] at hj; exact hj)
  have fixC : ∀ {e fr1 st1 fr2} {st2 : St}, (∀ cf L, codeX cf L C fr1 st1 = some (e, fr2, st2)) → ∀ j, C.dsts.contains j = false → fr2.get j = fr1.get j := by
    intro e fr1 st1 fr2 st2 h j hj
    exact (codeX_stay stay0 0 C (h _ 0)).2 j (by rw [← Bool.not_eq_true, List.contains_iff_mem] at hj; exact hj)
  refine WL_sem (fun m fr1 st1 => ∃ i, i + m = n ∧ fr1.get ci = .i .i64 (i : Int) ∧ I i (slots fr1 ks) st1) n ⟨0, by omega, hci, h0⟩ ?_
  rintro m fr1 st1 hr ⟨i, hi, hc, hI⟩
  have hu : slots fr1 us = slots fr us := slots_keep hr.fr hd2
  obtain ⟨frA, hA1⟩ := hA i fr1 st1 (by omega) hc hu hI
  have hcA : frA.get ci = .i .i64 (i : Int) := by rw [fixA hA1 ci hd4, hc]
  have huA : slots frA us = slots fr us := by
    refine slots_keep (ds := (cntCode A B C).dsts) (fun j hj => ?_) hd2
    rw [fixA hA1 j (hsub j hj).1, hr.fr j hj]
  have hkA : slots frA ks = slots fr1 ks := slots_keep (fun j hj => fixA hA1 j hj) hd5
  by_cases hlt : i < n
  · rw [if_pos hlt] at hA1
    have s := step i frA st1 hlt hcA huA (by rw [hkA]; exact hI) hr.st
    obtain ⟨e, fr2, st2, hcode, hq⟩ := WP_ok B s
    have hr2 := hcode.rnd
    have hus : slots fr2 us = slots fr us := by
      refine slots_keep (ds := (cntCode A B C).dsts) (fun j hj => ?_) hd2
      rw [hr2.fr j (hsub j hj).2.1, fixA hA1 j (hsub j hj).1, hr.fr j hj]
    have hst2 : Stay st st2 := hr.st.trans hr2.st
    have hci2 : fr2.get ci = .i .i64 (i : Int) := by rw [hr2.fr ci hd3, hcA]
    obtain ⟨fr3, hC1, hC2⟩ := hC i fr2 st2 hlt hci2
    have hk3 : slots fr3 ks = slots fr2 ks := slots_keep (fun j hj => fixC hC1 j hj) hd6
    obtain ⟨N, hN⟩ := hcode
    have next : (e = .n ∨ e = .x 1) → (Stay st st2 → I (i + 1) (slots fr2 ks) st2) → ∃ e fr2 st2, CodeTo G (cntCode A B C) fr1 st1 (e, fr2, st2) ∧ WE e fr2 st2 (fun fr2 st2 => Rnd (cntCode A B C).dsts fr st fr2 st2 → ∃ m2, m2 < m ∧ ∃ i, i + m2 = n ∧ fr2.get ci = .i .i64 (i : Int) ∧ I i (slots fr2 ks) st2) (fun j fr2 st2 => Rnd (cntCode A B C).dsts fr st fr2 st2 → X j fr2 st2) (fun fr2 st2 => Rnd (cntCode A B C).dsts fr st fr2 st2 → R fr2 st2) := by
      intro he hI2
      refine ⟨.n, fr3, st2, ⟨N, fun k L h1 h2 => ?_⟩, fun _ => ⟨m - 1, by omega, i + 1, by omega, hC2, ?_⟩⟩
      · simp only [cntCode, codeX, hA1, Option.bind_some]
        rw [hN k L h1 h2]
        rcases he with rfl | rfl <;> simp [hC1]
      · rw [hk3]; exact hI2 hst2
    cases e with
    | n => exact next (.inl rfl) hq
    | r =>
      refine ⟨.r, fr2, st2, ⟨N, fun k L h1 h2 => ?_⟩, fun _ => hq hus⟩
      simp only [cntCode, codeX, hA1, Option.bind_some]
      rw [hN k L h1 h2]
      simp
    | x j =>
      by_cases hj : j = 1
      · subst hj
        exact next (.inr rfl) (by simpa [WE] using hq)
      · refine ⟨.x j, fr2, st2, ⟨N, fun k L h1 h2 => ?_⟩, fun _ => ?_⟩
        · simp only [cntCode, codeX, hA1, Option.bind_some]
          rw [hN k L h1 h2]
          simp [hj]
        · simp only [WE, if_neg hj] at hq
          exact hq hus
  · rw [if_neg hlt] at hA1
    have hin : i = n := by omega
    subst hin
    refine ⟨.x 0, frA, st1, ⟨0, fun k L _ _ => ?_⟩, fun hr2 => ?_⟩
    · simp only [cntCode, codeX, hA1, Option.bind_some]
    · exact done _ st1 huA (by rw [hkA]; exact hI) hr.st

theorem WO_ltX {o : LOp} {vs : List V} {st : St} {v : V} (h : ∀ K t, FO o vs st K t = K v st) : ltX o vs st = some (v, st) := by
  have := h (fun v' st' => v' = v ∧ st' = st) .mk
  simp only [and_self] at this
  have q : FO o vs st (fun v' st' => v' = v ∧ st' = st) .mk := by rw [this]; trivial
  simp only [FO, WO] at q
  split at q
  · rename_i x hx
    rw [hx]
    obtain ⟨a, b⟩ := q
    rw [← a, ← b]
  · exact q.elim
/-- 'for i := 0; i < len(x); i++'. -/
abbrev lenA (str : Bool) (ci cs a b c d : Nat) : ICode := .seq (.reg [⟨some a, .lt .mv [.t ci], none⟩, ⟨some b, .lt .mv [.t cs], none⟩, ⟨some c, .lt (.len str) [.t b], none⟩, ⟨some d, .lt (.bin .lss) [.t a, .t c], none⟩]) (.cond (.t d) .skip (.exit 0))
abbrev incC (ci a b : Nat) : ICode := .reg [⟨some a, .lt .mv [.t ci], none⟩, ⟨some b, .lt (.bin .add) [.t a, .c (.i .i64 1)], none⟩, ⟨some ci, .lt .mv [.t b], none⟩]
theorem incC_ok {ci a b i : Nat} {fr : Fr} {st : St} (hi : i < 9223372036854775807) (h : fr.get ci = .i .i64 (i : Int)) (h1 : a ≠ b) (h2 : ci ≠ a ∧ ci ≠ b) : ∃ fr2, (∀ cf L, codeX cf L (incC ci a b) fr st = some (.n, fr2, st)) ∧ fr2.get ci = .i .i64 ((i + 1 : Nat) : Int) := by
  have hw : IntKind.wrap .i64 ((i : Int) + 1) = ((i + 1 : Nat) : Int) := by rw [wrap_i64 (by omega) (by omega)]; omega
  refine ⟨putD (putD (putD fr (some a) (.i .i64 (i : Int))) (some b) (.i .i64 ((i + 1 : Nat) : Int))) (some ci) (.i .i64 ((i + 1 : Nat) : Int)), fun cf L => ?_, by simp [frame_rules]⟩
  simp [codeX, regX, wantedD, opX, ltX, LOp.rd, fetch, LOp.sem, sBin, sMv, Opnd.ev, h, num_rules, vres, St.apply, Heap.sets, Heap.adds, hw, frame_rules]
theorem lenA_ok {str : Bool} {ci cs a b c d i n : Nat} {fr : Fr} {st : St} (h : fr.get ci = .i .i64 (i : Int)) (hl : ltX (.len str) [fr.get cs] st = some (.i .i64 (n : Int), st)) (hne : cs ≠ a ∧ a ≠ b ∧ a ≠ c) :
    ∃ fr2, ∀ cf L, codeX cf L (lenA str ci cs a b c d) fr st = some (if i < n then .n else .x 0, fr2, st) := by
  obtain ⟨h1, h2, h3⟩ := hne
  refine ⟨putD (putD (putD (putD fr (some a) (.i .i64 (i : Int))) (some b) (fr.get cs)) (some c) (.i .i64 (n : Int))) (some d) (.b (decide ((i : Int) < (n : Int)))), fun cf L => ?_⟩
  have mv : ∀ x, ltX .mv [x] st = some (x, st) := fun x => by simp [ltX, LOp.rd, fetch, LOp.sem, sMv, vres, St.apply, Heap.sets, Heap.adds]
  have hreg : regX cf [⟨some a, .lt .mv [.t ci], none⟩, ⟨some b, .lt .mv [.t cs], none⟩, ⟨some c, .lt (.len str) [.t b], none⟩, ⟨some d, .lt (.bin .lss) [.t a, .t c], none⟩] fr st =
      some (putD (putD (putD (putD fr (some a) (.i .i64 (i : Int))) (some b) (fr.get cs)) (some c) (.i .i64 (n : Int))) (some d) (.b (decide ((i : Int) < (n : Int)))), st) := by
    simp only [regX, wantedD, opX, Option.bind_some, if_true, List.map_cons, List.map_nil, Opnd.ev, mv, h, frame_rules, if_neg h1, hl, if_neg h2, if_neg h3]
    simp [ltX, LOp.rd, fetch, LOp.sem, sBin, num_rules, vres, St.apply, Heap.sets, Heap.adds]
  simp only [codeX, hreg, Option.map_some, Option.bind_some, Opnd.ev, frame_rules, if_true]
  by_cases hlt : i < n
  · rw [if_pos hlt, show decide ((i : Int) < (n : Int)) = true by simpa using hlt]
  · rw [if_neg hlt, show decide ((i : Int) < (n : Int)) = false by simpa using hlt]
abbrev leqA (str : Bool) (ci cs a b c d : Nat) : ICode := .seq (.reg [⟨some a, .lt .mv [.t ci], none⟩, ⟨some b, .lt .mv [.t cs], none⟩, ⟨some c, .lt (.len str) [.t b], none⟩, ⟨some d, .lt (.bin .leq) [.t a, .t c], none⟩]) (.cond (.t d) .skip (.exit 0))
theorem leqA_ok {str : Bool} {ci cs a b c d i n : Nat} {fr : Fr} {st : St} (h : fr.get ci = .i .i64 (i : Int)) (hl : ltX (.len str) [fr.get cs] st = some (.i .i64 (n : Int), st)) (hne : cs ≠ a ∧ a ≠ b ∧ a ≠ c) :
    ∃ fr2, ∀ cf L, codeX cf L (leqA str ci cs a b c d) fr st = some (if i < n + 1 then .n else .x 0, fr2, st) := by
  obtain ⟨h1, h2, h3⟩ := hne
  refine ⟨putD (putD (putD (putD fr (some a) (.i .i64 (i : Int))) (some b) (fr.get cs)) (some c) (.i .i64 (n : Int))) (some d) (.b (decide ((i : Int) ≤ (n : Int)))), fun cf L => ?_⟩
  have mv : ∀ x, ltX .mv [x] st = some (x, st) := fun x => by simp [ltX, LOp.rd, fetch, LOp.sem, sMv, vres, St.apply, Heap.sets, Heap.adds]
  have hreg : regX cf [⟨some a, .lt .mv [.t ci], none⟩, ⟨some b, .lt .mv [.t cs], none⟩, ⟨some c, .lt (.len str) [.t b], none⟩, ⟨some d, .lt (.bin .leq) [.t a, .t c], none⟩] fr st =
      some (putD (putD (putD (putD fr (some a) (.i .i64 (i : Int))) (some b) (fr.get cs)) (some c) (.i .i64 (n : Int))) (some d) (.b (decide ((i : Int) ≤ (n : Int)))), st) := by
    simp only [regX, wantedD, opX, Option.bind_some, if_true, List.map_cons, List.map_nil, Opnd.ev, mv, h, frame_rules, if_neg h1, hl, if_neg h2, if_neg h3]
    simp [ltX, LOp.rd, fetch, LOp.sem, sBin, num_rules, vres, St.apply, Heap.sets, Heap.adds]
  simp only [codeX, hreg, Option.map_some, Option.bind_some, Opnd.ev, frame_rules, if_true]
  by_cases hlt : i < n + 1
  · rw [if_pos hlt, show decide ((i : Int) ≤ (n : Int)) = true by simp; omega]
  · rw [if_neg hlt, show decide ((i : Int) ≤ (n : Int)) = false by simp; omega]
theorem FL.upto {B : ICode} {str : Bool} {cs a b c d e f : Nat} {fr : Fr} {st : St} {X : Nat → Fr → St → Prop} {R : Fr → St → Prop} {tg : Tag2 X R} (ci n : Nat) (us ks : List Nat) (I : Nat → List V → St → Prop)
    (hn : n < 9223372036854775807) (hci : fr.get ci = .i .i64 0) (hcs : ∀ st K t, FO (.len str) [fr.get cs] st K t = K (.i .i64 (n : Int)) st)
    (hd : ((cs :: us).all fun k => !(cntCode (lenA str ci cs a b c d) B (incC ci e f)).dsts.contains k) = true ∧ B.dsts.contains ci = false ∧ (lenA str ci cs a b c d).dsts.contains ci = false ∧ (ks.all fun k => !(lenA str ci cs a b c d).dsts.contains k) = true ∧ (ks.all fun k => !(incC ci e f).dsts.contains k) = true)
    (hd2 : (cs ≠ a ∧ a ≠ b ∧ a ≠ c) ∧ e ≠ f ∧ (ci ≠ e ∧ ci ≠ f))
    (h0 : I 0 (slots fr ks) st)
    (step : ∀ i fr1 st1, i < n → fr1.get ci = .i .i64 (i : Int) → slots fr1 (cs :: us) = slots fr (cs :: us) → I i (slots fr1 ks) st1 → Stay st st1 →
      FP G B fr1 st1 (fun fr2 st2 => Stay st st2 → I (i + 1) (slots fr2 ks) st2) (fun j fr2 st2 => if j = 1 then (Stay st st2 → I (i + 1) (slots fr2 ks) st2) else (slots fr2 (cs :: us) = slots fr (cs :: us) → X j fr2 st2)) (fun fr2 st2 => slots fr2 (cs :: us) = slots fr (cs :: us) → R fr2 st2) .mk)
    (done : ∀ fr2 st2, slots fr2 (cs :: us) = slots fr (cs :: us) → I n (slots fr2 ks) st2 → Stay st st2 → X 0 fr2 st2) :
    FL G (cntCode (lenA str ci cs a b c d) B (incC ci e f)) fr st X R tg := by
  refine FL.cnt ci n (cs :: us) ks I hci hd ?_ ?_ h0 step done
  · intro i fr1 st1 hi hc hu _
    have hcs1 : fr1.get cs = fr.get cs := by
      simp only [slots_rules, List.cons.injEq] at hu; exact hu.1
    exact lenA_ok hc (by rw [hcs1]; exact WO_ltX (hcs st1)) hd2.1
  · intro i fr1 st1 hi hc
    exact incC_ok (by omega) hc hd2.2.1 hd2.2.2
end Go.Dm
