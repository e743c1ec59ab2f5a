/- Loops that count. -/
import Derived.Test.YtmdaacajdnbegaaDoorDSl
namespace Go.Dm
open Go
set_option linter.unusedSimpArgs false
set_option linter.unusedVariables false
variable {G : Lib}
abbrev rangeCode (t ci cn t2 : Nat) (B : ICode) : ICode :=
  .seq (.reg [⟨some t, .lt (.bin .lss) [.t ci, .t cn], none⟩]) (.seq (.cond (.t t) .skip (.exit 0)) (.seq (.block 1 B) (.reg [⟨some t2, .lt (.bin .add) [.t ci, .c (.i .i64 1)], none⟩, ⟨some ci, .lt .mv [.t t2], none⟩])))
def slots (fr : Fr) (ks : List Nat) : List V := ks.map fr.get
theorem slots_rules : (∀ fr, slots fr [] = []) ∧ (∀ fr k ks, slots fr (k :: ks) = fr.get k :: slots fr ks) := ⟨fun _ => rfl, fun _ _ _ => rfl⟩
theorem slots_put (fr : Fr) (ks : List Nat) (k : Nat) (v : V) (h : ks.contains k = false) : slots (putD fr (some k) v) ks = slots fr ks := by
  simp only [slots]
  apply List.map_congr_left
  intro j hj
  refine Fr.get_put_ne _ _ fun e => ?_
  rw [e] at hj
  rw [List.contains_iff_mem.2 hj] at h
  cases h
theorem slots_keep {fr fr' : Fr} {ds ks : List Nat} (h : ∀ j, ds.contains j = false → fr'.get j = fr.get j) (hk : (ks.all fun k => !ds.contains k) = true) : slots fr' ks = slots fr ks := by
  simp only [slots]
  apply List.map_congr_left
  intro j hj
  rw [List.all_eq_true] at hk
  exact h j (by simpa using hk j hj)
/-- 'for i < n': t, t2 hold what is reckoned, ci the count, cn the bound; us: places that stay; ks: places that turn, of which I speaks. -/
theorem FL.range {t ci cn t2 : Nat} {B : ICode} {fr : Fr} {st : St} {X : Nat → Fr → St → Prop} {R : Fr → St → Prop} {tg : Tag2 X R} (n : Nat) (us ks : List Nat) (I : Nat → List V → St → Prop)
    (hn : n < 9223372036854775807) (hci : fr.get ci = .i .i64 0) (hcn : fr.get cn = .i .i64 (n : Int))
    (hd : ((rangeCode t ci cn t2 B).dsts.contains cn = false ∧ (us.all fun k => !(rangeCode t ci cn t2 B).dsts.contains k) = true) ∧ B.dsts.contains ci = false ∧ B.dsts.contains t = false ∧ ks.contains t = false ∧ ks.contains t2 = false ∧ ks.contains ci = false ∧ ci ≠ t ∧ t2 ≠ ci)
    (h0 : I 0 (slots fr ks) st)
    (step : ∀ i fr1 st1, i < n → fr1.get ci = .i .i64 (i : Int) → slots fr1 us = slots fr us → I i (slots fr1 ks) st1 → Stay st st1 →
      FP G B fr1 st1 (fun fr2 st2 => Stay st st2 → I (i + 1) (slots fr2 ks) st2) (fun j fr2 st2 => if j = 1 then (Stay st st2 → I (i + 1) (slots fr2 ks) st2) else (slots fr2 us = slots fr us → X j fr2 st2)) (fun fr2 st2 => slots fr2 us = slots fr us → R fr2 st2) .mk)
    (done : ∀ fr2 st2, slots fr2 us = slots fr us → I n (slots fr2 ks) st2 → Stay st st2 → X 0 fr2 st2) :
    FL G (rangeCode t ci cn t2 B) fr st X R tg := by
  obtain ⟨⟨hd1, hd2⟩, hd3, hd4, hd5, hd6, hd7, hd8, hd9⟩ := hd
  refine WL_sem (fun m fr1 st1 => ∃ i, i + m = n ∧ fr1.get ci = .i .i64 (i : Int) ∧ I i (slots fr1 ks) st1) n ⟨0, by omega, hci, h0⟩ ?_
  rintro m fr1 st1 hr ⟨i, hi, hc, hI⟩
  have hb : fr1.get cn = .i .i64 (n : Int) := by rw [hr.fr cn hd1, hcn]
  have hu : slots fr1 us = slots fr us := slots_keep hr.fr hd2
  have hnot : ∀ j, (rangeCode t ci cn t2 B).dsts.contains j = false → B.dsts.contains j = false ∧ j ≠ t ∧ j ≠ t2 ∧ j ≠ ci := by
    intro j hj
    rw [← Bool.not_eq_true, List.contains_iff_mem] at hj
    refine ⟨?_, ?_, ?_, ?_⟩
    · rw [← Bool.not_eq_true, List.contains_iff_mem]
      intro hm
      exact hj (by simp [rangeCode, ICode.dsts, hm])
    · rintro rfl; exact hj (by simp [rangeCode, ICode.dsts, IOper.dsts])
    · rintro rfl; exact hj (by simp [rangeCode, ICode.dsts, IOper.dsts])
    · rintro rfl; exact hj (by simp [rangeCode, ICode.dsts, IOper.dsts])
  have hcond : ∀ cf, regX cf [⟨some t, .lt (.bin .lss) [.t ci, .t cn], none⟩] fr1 st1 = some (putD fr1 (some t) (.b (decide ((i : Int) < (n : Int)))), st1) := by
    intro cf
    simp [regX, wantedD, opX, ltX, LOp.rd, fetch, LOp.sem, sBin, Opnd.ev, hc, hb, num_rules, vres, St.apply, Heap.sets, Heap.adds]
  by_cases hlt : i < n
  · have hu1 : slots (putD fr1 (some t) (.b true)) us = slots fr us := by
      refine slots_keep (ds := (rangeCode t ci cn t2 B).dsts) (fun j hj => ?_) hd2
      simp only [frame_rules]
      rw [if_neg (hnot j hj).2.1, hr.fr j hj]
    have s := step i (putD fr1 (some t) (.b true)) st1 hlt (by simp only [frame_rules]; rw [if_neg hd8, hc]) hu1 (by rw [slots_put _ _ _ _ hd5]; exact hI) hr.st
    obtain ⟨e, fr2, st2, hcode, hq⟩ := WP_ok B s
    have hr2 := hcode.rnd
    have hus : slots fr2 us = slots fr us := by
      refine slots_keep (ds := (rangeCode t ci cn t2 B).dsts) (fun j hj => ?_) hd2
      rw [hr2.fr j (hnot j hj).1]
      simp only [frame_rules]
      rw [if_neg (hnot j hj).2.1, hr.fr j hj]
    have hst2 : Stay st st2 := hr.st.trans hr2.st
    have hci2 : fr2.get ci = .i .i64 (i : Int) := by
      rw [hr2.fr ci hd3]
      simp only [frame_rules]
      rw [if_neg hd8, hc]
    have hinc : ∀ cf, regX cf [⟨some t2, .lt (.bin .add) [.t ci, .c (.i .i64 1)], none⟩, ⟨some ci, .lt .mv [.t t2], none⟩] fr2 st2 = some (putD (putD fr2 (some t2) (.i .i64 ((i + 1 : Nat) : Int))) (some ci) (.i .i64 ((i + 1 : Nat) : Int)), st2) := by
      intro cf
      have hw : IntKind.wrap .i64 ((i : Int) + 1) = ((i + 1 : Nat) : Int) := by rw [wrap_i64 (by omega) (by omega)]; omega
      simp [regX, wantedD, opX, ltX, LOp.rd, fetch, LOp.sem, sBin, sMv, Opnd.ev, hci2, num_rules, vres, St.apply, Heap.sets, Heap.adds, hw, frame_rules]
    obtain ⟨N, hN⟩ := hcode
    have next : (e = .n ∨ e = .x 1) → (Stay st st2 → I (i + 1) (slots fr2 ks) st2) → ∃ e fr2 st2, CodeTo G (rangeCode t ci cn t2 B) fr1 st1 (e, fr2, st2) ∧ WE e fr2 st2 (fun fr2 st2 => Rnd (rangeCode t ci cn t2 B).dsts fr st fr2 st2 → ∃ m2, m2 < m ∧ ∃ i, i + m2 = n ∧ fr2.get ci = .i .i64 (i : Int) ∧ I i (slots fr2 ks) st2) (fun j fr2 st2 => Rnd (rangeCode t ci cn t2 B).dsts fr st fr2 st2 → X j fr2 st2) (fun fr2 st2 => Rnd (rangeCode t ci cn t2 B).dsts fr st fr2 st2 → R fr2 st2) := by
      intro he hI2
      refine ⟨.n, putD (putD fr2 (some t2) (.i .i64 ((i + 1 : Nat) : Int))) (some ci) (.i .i64 ((i + 1 : Nat) : Int)), st2, ⟨N, fun k L h1 h2 => ?_⟩, fun _ => ⟨m - 1, by omega, i + 1, by omega, ?_, ?_⟩⟩
      · simp only [rangeCode, codeX, hcond, Option.map_some, Option.bind_some, Opnd.ev, frame_rules, if_true, show decide ((i : Int) < (n : Int)) = true by simpa using hlt]
        rw [hN k L h1 h2]
        rcases he with rfl | rfl
        · simp [hinc]
        · simp [hinc]
      · simp only [frame_rules, if_true]
      · rw [slots_put _ _ _ _ hd7, slots_put _ _ _ _ hd6]
        exact hI2 hst2
    cases e with
    | n => exact next (.inl rfl) hq
    | r =>
      refine ⟨.r, fr2, st2, ⟨N, fun k L h1 h2 => ?_⟩, fun _ => hq hus⟩
      simp only [rangeCode, codeX, hcond, Option.map_some, Option.bind_some, Opnd.ev, frame_rules, if_true, show decide ((i : Int) < (n : Int)) = true by simpa using hlt]
      rw [hN k L h1 h2]
      simp
    | x j =>
      by_cases hj : j = 1
      · subst hj
        exact next (.inr rfl) (by simpa [WE] using hq)
      · refine ⟨.x j, fr2, st2, ⟨N, fun k L h1 h2 => ?_⟩, fun _ => ?_⟩
        · simp only [rangeCode, codeX, hcond, Option.map_some, Option.bind_some, Opnd.ev, frame_rules, if_true, show decide ((i : Int) < (n : Int)) = true by simpa using hlt]
          rw [hN k L h1 h2]
          simp [hj]
        · simp only [WE, if_neg hj] at hq
          exact hq hus
  · have hin : i = n := by omega
    subst hin
    refine ⟨.x 0, putD fr1 (some t) (.b false), st1, ⟨0, fun k L _ _ => ?_⟩, fun hr2 => ?_⟩
    · simp [rangeCode, codeX, hcond, Opnd.ev, frame_rules]
    · exact done _ st1 (slots_keep hr2.fr hd2) (by rw [slots_put _ _ _ _ hd5]; exact hI) hr.st
end Go.Dm
