/- The given arguments of the zone's laws, opened. -/
import Derived.Test.YtmdaacajdnbegaaDoorDOpen
import Derived.Test.YtmdaacajdnbegaaDoorProg
set_option linter.constructorNameAsVariable false
set_option linter.unusedSimpArgs false
set_option linter.unusedVariables false
set_option linter.unusedSectionVars false
namespace Go.Proofs.YtmdaacajdnbegaaDoor
open Go Go.Dm
set_option maxRecDepth 100000
section
variable {H : Type} {enc : TypeId × Value → H} {W : World} {base : Nat} {sp : Nat → Bool} {held : Bool} {m : Nat} {c : List Value} {d : DataW H} {p : List MemPlace}
theorem int_el (h : DataW.trod enc Tryd.prog W base sp held m 3 c = some (d, p)) : ∃ x : Int, (∀ μ, VRL μ (intCells x) c) ∧ (∀ u ∈ intCells x, u.ok1 = true) ∧ True := by
  obtain ⟨z, rfl, _, _⟩ := DataW.trod_int Tryd.underlying3 h
  exact ⟨z, fun μ => ⟨⟨rfl, rfl⟩, trivial⟩, by simp [intCells, V.ok1], trivial⟩
theorem lease_el (h : DataW.trod enc Tryd.prog W base sp held m 24 c = some (d, p)) : ∃ x : Lease, (∀ μ, VRL μ x.cells c) ∧ (∀ u ∈ x.cells, u.ok1 = true) ∧ (x.client.length ≤ Rows.uptoBulk d ∧ x.name.length ≤ Rows.uptoBulk d) := by
  obtain ⟨vs, h1, h2, h3⟩ := trod_flat (ks := [.i .i64, .i .i64, .s, .i .i64, .s, .b]) (by kernel_rfl) h
  obtain ⟨host, vs1, rfl, _, k1⟩ := h1.i
  obtain ⟨state, vs2, rfl, _, k2⟩ := k1.i
  obtain ⟨client, vs3, rfl, k3⟩ := k2.s
  obtain ⟨till, vs4, rfl, _, k4⟩ := k3.i
  obtain ⟨name, vs5, rfl, k5⟩ := k4.s
  obtain ⟨won, vs6, rfl, k6⟩ := k5.b
  obtain rfl := k6.none
  exact ⟨⟨host, state, client, till, name, won⟩, h2, fun u hu => (h3 u hu).1, (h3 (.s client) (by simp)).2, (h3 (.s name) (by simp)).2⟩
theorem rr_el (h : DataW.trod enc Tryd.prog W base sp held m 47 c = some (d, p)) : ∃ x : RR, (∀ μ, VRL μ x.cells c) ∧ (∀ u ∈ x.cells, u.ok1 = true) ∧ (x.name.length ≤ Rows.uptoBulk d ∧ x.target.length ≤ Rows.uptoBulk d ∧ x.text.length ≤ Rows.uptoBulk d) := by
  obtain ⟨vs, h1, h2, h3⟩ := trod_flat (ks := [.s, .i .i64, .i .i64, .i .i64, .s, .s, .i .i64]) (by kernel_rfl) h
  obtain ⟨name, vs1, rfl, k1⟩ := h1.s
  obtain ⟨typ, vs2, rfl, _, k2⟩ := k1.i
  obtain ⟨ttl, vs3, rfl, _, k3⟩ := k2.i
  obtain ⟨addr, vs4, rfl, _, k4⟩ := k3.i
  obtain ⟨target, vs5, rfl, k5⟩ := k4.s
  obtain ⟨text, vs6, rfl, k6⟩ := k5.s
  obtain ⟨serial, vs7, rfl, _, k7⟩ := k6.i
  obtain rfl := k7.none
  exact ⟨⟨name, typ, ttl, addr, target, text, serial⟩, h2, fun u hu => (h3 u hu).1, (h3 (.s name) (by simp)).2, (h3 (.s target) (by simp)).2, (h3 (.s text) (by simp)).2⟩
theorem reserve_el (h : DataW.trod enc Tryd.prog W base sp held m 49 c = some (d, p)) : ∃ x : Reserve, (∀ μ, VRL μ x.cells c) ∧ (∀ u ∈ x.cells, u.ok1 = true) ∧ x.client.length ≤ Rows.uptoBulk d := by
  obtain ⟨vs, h1, h2, h3⟩ := trod_flat (ks := [.s, .i .i64]) (by kernel_rfl) h
  obtain ⟨client, vs1, rfl, k1⟩ := h1.s
  obtain ⟨host, vs2, rfl, _, k2⟩ := k1.i
  obtain rfl := k2.none
  exact ⟨⟨client, host⟩, h2, fun u hu => (h3 u hu).1, (h3 (.s client) (by simp)).2⟩

theorem field_at {P : Program} {n : Nat} {cs : List Value} {fs : Array Field} {xs : List (DataW H × List MemPlace)} (hf : ∀ (i : Nat) (f : Field), fs[i]? = some f → DataW.trod enc P W base sp held n f.type ((cs.drop f.offset).take (P.cellsOf f.type)) = xs[i]?) (i t o k : Nat)
    (hi : (fs[i]?).map (fun f => (f.type, f.offset)) = some (t, o)) (hc : P.cellsOf t = k) : DataW.trod enc P W base sp held n t ((cs.drop o).take k) = xs[i]? := by
  simp only [Option.map_eq_some_iff, Prod.mk.injEq] at hi
  obtain ⟨f, h1, rfl, rfl⟩ := hi
  rw [← hc]
  exact hf i f h1
theorem config_open (h : DataW.trod enc Tryd.prog W base sp held m 33 c = some (d, p)) (hb : Rows.uptoBulk d ≤ 1048576) {μ : Mu} {hp : Heap} {nx : Nat} (ho : Opn Tryd.prog W μ hp nx) :
    ∃ (C : Config) (e r s : V) (μ' : Mu) (h' : Heap), VRL μ' (C.cells e r s) c ∧ C.At h' (nx + 3) e r s ∧ Opn Tryd.prog W μ' h' (nx + 3) ∧ Ext μ μ' ∧ (∀ j, j < nx → h' j = hp j) ∧ C.Ok := by
  obtain ⟨xs, n, _, hx, hl, hlen, hf⟩ := DataW.trod_struct Tryd.underlying33 h
  cases hx
  have hl : c.length = 7 := hl.trans (by kernel_rfl)
  have hlen : xs.length = 7 := hlen
  have f0 := field_at hf 0 3 0 1 (by kernel_rfl) (by kernel_rfl)
  have f1 := field_at hf 1 3 1 1 (by kernel_rfl) (by kernel_rfl)
  have f2 := field_at hf 2 29 2 1 (by kernel_rfl) (by kernel_rfl)
  have f3 := field_at hf 3 30 3 1 (by kernel_rfl) (by kernel_rfl)
  have f4 := field_at hf 4 3 4 1 (by kernel_rfl) (by kernel_rfl)
  have f5 := field_at hf 5 9 5 1 (by kernel_rfl) (by kernel_rfl)
  have f6 := field_at hf 6 31 6 1 (by kernel_rfl) (by kernel_rfl)
  clear hf
  match c, hl, xs, hlen with
  | [c0, c1, c2, c3, c4, c5, c6], _, [(d0, p0), (d1, p1), (d2, p2), (d3, p3), (d4, p4), (d5, p5), (d6, p6)], _ =>
    have f0 : DataW.trod enc Tryd.prog W base sp held n 3 [c0] = some (d0, p0) := f0
    have f1 : DataW.trod enc Tryd.prog W base sp held n 3 [c1] = some (d1, p1) := f1
    have f2 : DataW.trod enc Tryd.prog W base sp held n 29 [c2] = some (d2, p2) := f2
    have f3 : DataW.trod enc Tryd.prog W base sp held n 30 [c3] = some (d3, p3) := f3
    have f4 : DataW.trod enc Tryd.prog W base sp held n 3 [c4] = some (d4, p4) := f4
    have f5 : DataW.trod enc Tryd.prog W base sp held n 9 [c5] = some (d5, p5) := f5
    have f6 : DataW.trod enc Tryd.prog W base sp held n 31 [c6] = some (d6, p6) := f6
    simp only [List.map_cons, List.map_nil, Rows.uptoBulk, Rows.uptoBulkAll] at hb
    obtain ⟨first, q0, _, _⟩ := DataW.trod_int Tryd.underlying3 f0
    cases q0
    obtain ⟨last, q1, _, _⟩ := DataW.trod_int Tryd.underlying3 f1
    cases q1
    obtain ⟨time, q4, _, _⟩ := DataW.trod_int Tryd.underlying3 f4
    cases q4
    obtain ⟨zone, q5, x5, _⟩ := DataW.trod_string Tryd.underlying9 f5
    cases q5
    cases x5
    obtain ⟨y2, q2, excluded, e, μ1, h1, a1, a2, a3, a4, a5, a6, a7⟩ := Opn.slice (encα := intCells) (sz := 1) (good := fun _ _ => True) (fun _ => rfl) (by omega) Tryd.underlying29 (by kernel_rfl) (fun _ _ _ _ g => int_el g) f2 ho
    cases q2
    obtain ⟨y3, q3, reserved, r, μ2, h2, b1, b2, b3, b4, b5, b6, b7⟩ := Opn.slice (encα := Reserve.cells) (sz := 2) (good := fun x d => x.client.length ≤ Rows.uptoBulk d) (fun _ => rfl) (by omega) Tryd.underlying30 (by kernel_rfl) (fun _ _ _ _ g => reserve_el g) f3 a3
    cases q3
    obtain ⟨y6, q6, static, s, μ3, h3, g1, g2, g3, g4, g5, g6, g7⟩ := Opn.slice (encα := RR.cells) (sz := 7) (good := fun x d => x.name.length ≤ Rows.uptoBulk d ∧ x.target.length ≤ Rows.uptoBulk d ∧ x.text.length ≤ Rows.uptoBulk d) (fun _ => rfl) (by omega) Tryd.underlying31 (by kernel_rfl) (fun _ _ _ _ g => rr_el g) f6 b3
    cases q6
    refine ⟨⟨first, last, excluded, reserved, time, zone.data.toList, static⟩, e, r, s, μ3, h3, ?_, ⟨?_, ?_, g2⟩, g3, (a4.trans b4).trans g4, fun j hj => ?_, ?_⟩
    · exact ⟨⟨rfl, rfl⟩, ⟨rfl, rfl⟩, VR.mono (b4.trans g4) _ _ a1, VR.mono g4 _ _ b1, ⟨rfl, rfl⟩, rfl, g1, trivial⟩
    · exact (a2.mono (nx' := nx + 1 + 1) b5 (by omega)).mono g5 (by omega)
    · exact b2.mono g5 (by omega)
    · rw [g5 j (by omega), b5 j (by omega), a5 j hj]
    · refine ⟨?_, by dsimp only; omega, by dsimp only; omega, by dsimp only; omega, fun x hx => ?_, fun x hx => ?_⟩
      · rw [bulks.string_eq] at *
        dsimp only
        omega
      · obtain ⟨dx, e1, e2⟩ := g7 x hx
        exact ⟨by omega, by omega, by omega⟩
      · obtain ⟨dx, e1, e2⟩ := b7 x hx
        omega
end
end Go.Proofs.YtmdaacajdnbegaaDoor
