/- '==' of structs; slice expressions. -/
import Derived.Test.YtmdaacajdnbegaaDoorDOps3
namespace Go.Dm
open Go
set_option linter.constructorNameAsVariable false
set_option linter.unnecessarySimpa false
set_option linter.unusedSimpArgs false
variable {P : Program}

theorem fkT_part {t : TypeId} {k : FK} (h : fkT P t = some k) : agT P t = some false := by
  unfold fkT at h
  unfold agT
  split at h <;> simp_all
theorem eq1_ok {μ : Mu} {k : FK} {x y : V} {a b : Value} {z : Bool} {t : TypeId} (hx : VR μ x a) (hy : VR μ y b) (h : eq1 k x y = some z) (hk : fkT P t = some k) (d : Nat) (w : World) :
    (Op.equalIn (d + 1) t a b).run P w = .ok z w := by
  unfold fkT at hk
  split at hk
  · rename_i hu
    cases hk
    cases x <;> cases y <;> simp only [eq1] at h <;> first | (cases h; done) | cases h
    obtain rfl := hx.b_inv
    obtain rfl := hy.b_inv
    exact run_equalIn_bool' w d t _ _ hu
  · rename_i hu
    cases hk
    cases x <;> cases y <;> simp only [eq1] at h <;> try (cases h; done)
    split at h
    · rename_i hkk
      subst hkk
      cases h
      obtain rfl := hx.i_inv
      obtain rfl := hy.i_inv
      exact run_equalIn_int w d t _ _ _ _ hu
    · cases h
  · rename_i hu
    cases hk
    cases x <;> cases y <;> simp only [eq1] at h <;> first | (cases h; done) | cases h
    obtain rfl := hx.s_inv
    obtain rfl := hy.s_inv
    rw [run_equalIn_string w d t _ _ hu, toList_mk, toList_mk]
  · cases hk
theorem eqs_ok {μ : Mu} (d : Nat) (w : World) (A B : Array Value) : ∀ (fs : List Field) (ks : List FK) (j : Nat) (xs ys : List V) (z : Bool), fksT P fs j = some ks → VRL μ xs (A.toList.drop j) → VRL μ ys (B.toList.drop j) → eqs ks xs ys = some z →
    (Op.eqFields (d + 1) A B fs).run P w = .ok z w
  | [], ks, j, xs, ys, z, hf, hx, hy, h => by
    simp [fksT] at hf
    subst hf
    cases xs <;> cases ys <;> simp [eqs] at h
    subst h
    simp [Op.eqFields]
  | f :: fs, ks, j, xs, ys, z, hf, hx, hy, h => by
    simp only [fksT] at hf
    split at hf
    · rename_i hn
      simp only [Option.bind_eq_some_iff, Option.map_eq_some_iff] at hf
      obtain ⟨k, hk, ks', hks, rfl⟩ := hf
      cases xs with
      | nil => simp [eqs] at h
      | cons x xs =>
        cases ys with
        | nil => simp [eqs] at h
        | cons y ys =>
          cases hA : A.toList.drop j with
          | nil => rw [hA] at hx; exact False.elim hx
          | cons a as =>
            cases hB : B.toList.drop j with
            | nil => rw [hB] at hy; exact False.elim hy
            | cons b bs =>
              rw [hA] at hx
              rw [hB] at hy
              have ha : A[j]? = some a := by
                have := congrArg (·[0]?) hA
                simpa using this
              have hb : B[j]? = some b := by
                have := congrArg (·[0]?) hB
                simpa using this
              have has : A.toList.drop (j + 1) = as := by rw [← List.drop_drop, hA]; rfl
              have hbs : B.toList.drop (j + 1) = bs := by rw [← List.drop_drop, hB]; rfl
              simp only [eqs, Option.bind_eq_some_iff] at h
              obtain ⟨q, h1, h2⟩ := h
              have e1 := eq1_ok (P := P) hx.1 hy.1 h1 hk d w
              have pa : (part f.type A f.offset).run P w = .ok a w := by simp [part, agT_run (fkT_part hk), hn.2, ha]
              have pb : (part f.type B f.offset).run P w = .ok b w := by simp [part, agT_run (fkT_part hk), hn.2, hb]
              simp only [Op.eqFields, ne_eq, hn.1, not_false_eq_true, if_true, Sem.run_bind, pa, pb, e1, Result.andThen_ok]
              cases q with
              | false => simp at h2; subst h2; simp
              | true =>
                simp only [if_true] at h2
                simp only [Bool.not_true, Bool.false_eq_true, if_false]
                exact eqs_ok d w A B fs ks' (j + 1) xs ys z hks (by rw [has]; exact hx.2) (by rw [hbs]; exact hy.2) h2
    · cases hf
theorem eqa_ok {μ : Mu} {ks : List FK} {ng : Bool} {op : BinOp} {vs : List V} {a b : Value} {v : V} {t : TypeId} {p q : Operand} (hop : (op = .eql ∧ ng = false) ∨ (op = .neq ∧ ng = true)) (hv : VRL μ vs [a, b]) (h : sEqa ks ng vs = some v) (hk : flatT P t = some ks) (w : World) :
    ∃ y, (do eqGuard op t p q a b; binOp op t a b : Sem Value).run P w = .ok y w ∧ VR μ v y := by
  obtain ⟨x, y, rfl, hx, hy⟩ := hv.inv2
  cases x <;> cases y <;> simp only [sEqa] at h <;> try (cases h; done)
  rename_i xs ys
  obtain ⟨A, rfl, hA⟩ := hx.agg_inv
  obtain ⟨B, rfl, hB⟩ := hy.agg_inv
  simp only [Option.map_eq_some_iff] at h
  obtain ⟨z, hz, rfl⟩ := h
  unfold flatT at hk
  split at hk
  · rename_i fs hu
    split at hk
    · rename_i hc
      have hfo : P.fieldsOf t = fs := by unfold Program.fieldsOf; rw [hu]
      have e := eqs_ok (P := P) 9998 w A B fs.toList ks 0 xs ys z hk (by simpa using hA) (by simpa using hB) hz
      have e2 : (Op.equal t (.agg A) (.agg B)).run P w = .ok z w := by
        rw [equalIn_max, run_equalIn_struct w 9999 t A B (by rw [hfo]; exact hu) hc.1, hfo]
        exact e
      have g : ∀ op : BinOp, (eqGuard op t p q (.agg A) (.agg B)).run P w = .ok () w := by
        intro op
        cases op <;> first | rfl | (simp [eqGuard, hc.2])
      refine ⟨.bool (z != ng), ?_, VR.b_mk _⟩
      rcases hop with ⟨rfl, rfl⟩ | ⟨rfl, rfl⟩
      · simp only [Sem.run_bind, g, Result.andThen_ok, binOp, e2, Sem.run_pure]
        simp
      · simp only [Sem.run_bind, g, Result.andThen_ok, binOp, e2, Sem.run_pure]
        simp
    · cases hk
  · cases hk

/-! ### slice expressions -/
theorem boundD_inv {μ : Mu} {x : V} {y : Value} {n : Nat} (hx : VR μ x y) (h : boundD x = some n) : ∃ k, y = .int k (n : Int) := by
  cases x <;> simp only [boundD] at h <;> try (cases h; done)
  split at h
  · rename_i k i hi
    cases h
    obtain rfl := hx.i_inv
    exact ⟨k, by rw [Int.toNat_of_nonneg hi]⟩
  · cases h
theorem bound_run {k : IntKind} {n y : Nat} {c : BoundsCode} (h : n ≤ y) (w : World) : (Instr.sliceBound (.int k (n : Int)) y c).run P w = .ok n w := by
  rw [run_sliceBound w k n y c (by omega) (by omega)]
  simp

theorem bounds_ok {μ : Mu} {isS : Bool} {len cap : Nat} {lo hi mx : Option Value} {r : List V} {b : Option Nat × Option Nat × Option Nat} (hr : VRL μ r (lo.toList ++ hi.toList ++ mx.toList)) (hb : bounds3 lo.isSome hi.isSome mx.isSome r = some b)
    (h1 : b.1.getD 0 ≤ b.2.1.getD len) (h2 : b.2.1.getD len ≤ b.2.2.getD cap) (h3 : b.2.2.getD cap ≤ cap) (w : World) :
    (Instr.sliceBounds isS len cap lo hi mx).run P w = .ok (b.1.getD 0, b.2.1.getD len, b.2.2.getD cap) w ∧ b.2.2.isSome = mx.isSome ∧ b.2.1.isSome = hi.isSome := by
  cases lo with
  | none =>
    cases hi with
    | none =>
      cases mx with
      | none =>
        cases r with
        | nil => simp [bounds3] at hb; subst hb; simp [Instr.sliceBounds]
        | cons => exact False.elim hr
      | some z => cases r <;> simp [bounds3] at hb
    | some y =>
      cases mx with
      | none =>
        obtain ⟨u, rfl, e1⟩ := VRL.inv1 (y := y) hr
        simp only [bounds3, Option.isSome_none, Option.isSome_some, Option.map_eq_some_iff] at hb
        obtain ⟨n, hn, rfl⟩ := hb
        obtain ⟨k, rfl⟩ := boundD_inv e1 hn
        simp only [Option.getD_some, Option.getD_none] at h1 h2 h3
        simp [Instr.sliceBounds, bound_run h2]
      | some z =>
        obtain ⟨u, u2, rfl, e1, e2⟩ := VRL.inv2 (y := y) (z := z) hr
        simp only [bounds3, Option.isSome_none, Option.isSome_some, Option.map_eq_some_iff, Option.bind_eq_some_iff] at hb
        obtain ⟨n, hn, m, hm, rfl⟩ := hb
        obtain ⟨k, rfl⟩ := boundD_inv e1 hn
        obtain ⟨k2, rfl⟩ := boundD_inv e2 hm
        simp only [Option.getD_some, Option.getD_none] at h1 h2 h3
        simp [Instr.sliceBounds, bound_run h2, bound_run h3]
  | some x =>
    cases hi with
    | none =>
      cases mx with
      | none =>
        obtain ⟨u, rfl, e1⟩ := VRL.inv1 (y := x) hr
        simp only [bounds3, Option.isSome_none, Option.isSome_some, Option.map_eq_some_iff] at hb
        obtain ⟨n, hn, rfl⟩ := hb
        obtain ⟨k, rfl⟩ := boundD_inv e1 hn
        simp only [Option.getD_some, Option.getD_none] at h1 h2 h3
        simp [Instr.sliceBounds, bound_run h1]
      | some z =>
        obtain ⟨u, u2, rfl, e1, e2⟩ := VRL.inv2 (y := x) (z := z) hr
        simp [bounds3] at hb
    | some y =>
      cases mx with
      | none =>
        obtain ⟨u, u2, rfl, e1, e2⟩ := VRL.inv2 (y := x) (z := y) hr
        simp only [bounds3, Option.isSome_none, Option.isSome_some, Option.map_eq_some_iff, Option.bind_eq_some_iff] at hb
        obtain ⟨n, hn, m, hm, rfl⟩ := hb
        obtain ⟨k, rfl⟩ := boundD_inv e1 hn
        obtain ⟨k2, rfl⟩ := boundD_inv e2 hm
        simp only [Option.getD_some, Option.getD_none] at h1 h2 h3
        simp [Instr.sliceBounds, bound_run h2, bound_run h1]
      | some z =>
        obtain ⟨u, u2, u3, rfl, e1, e2, e3⟩ := VRL.inv3 (x := x) (y := y) (z := z) hr
        simp only [bounds3, Option.isSome_some, Option.map_eq_some_iff, Option.bind_eq_some_iff] at hb
        obtain ⟨n, hn, m, hm, q, hq, rfl⟩ := hb
        obtain ⟨k, rfl⟩ := boundD_inv e1 hn
        obtain ⟨k2, rfl⟩ := boundD_inv e2 hm
        obtain ⟨k3, rfl⟩ := boundD_inv e3 hq
        simp only [Option.getD_some, Option.getD_none] at h1 h2 h3
        simp [Instr.sliceBounds, bound_run h2, bound_run h1, bound_run h3]

theorem extract_mk (l : List UInt8) (a h : Nat) : (⟨l.toArray⟩ : ByteArray).extract a h = ⟨((l.take h).drop a).toArray⟩ := by
  apply ByteArray.ext
  simp [List.extract, List.drop_take]
theorem bounds3_mx {lo hi : Bool} {r : List V} {b : Option Nat × Option Nat × Option Nat} (h : bounds3 lo hi false r = some b) : b.2.2 = none := by
  unfold bounds3 at h
  split at h <;> first | (cases h; rfl) | (simp only [Option.map_eq_some_iff, Option.bind_eq_some_iff] at h; first | (obtain ⟨_, _, rfl⟩ := h; rfl) | (obtain ⟨_, _, _, _, rfl⟩ := h; rfl)) | (simp_all; done)
theorem sls_ok {μ : Mu} {t : TypeId} {vs : List V} {x : Value} {lo hi : Option Value} {v : V} (ht : P.underlying t = some .string) (hv : VRL μ vs (x :: (lo.toList ++ hi.toList))) (h : sSls lo.isSome hi.isSome vs = some v) (w : World) :
    ∃ y, (Instr.sliceAt t x lo hi none).run P w = .ok y w ∧ VR μ v y := by
  obtain ⟨u, r, rfl, h1, h2⟩ := hv.cons_inv
  cases u <;> simp only [sSls] at h <;> try (cases h; done)
  rename_i l
  obtain rfl := h1.s_inv
  simp only [Option.bind_eq_some_iff] at h
  obtain ⟨b, hb, hd⟩ := h
  unfold slsD at hd
  simp only at hd
  split at hd
  · rename_i hc
    cases hd
    have hmx : b.2.2 = none := bounds3_mx hb
    have e := (bounds_ok (P := P) (isS := false) (len := l.length) (cap := l.length) (mx := none) (by simpa using h2) hb hc.1 (by rw [hmx]; exact hc.2) (by rw [hmx]; exact Nat.le_refl _) w).1
    refine ⟨_, ?_, VR.s_mk _⟩
    have hsz : (⟨l.toArray⟩ : ByteArray).size = l.length := rfl
    simp [Instr.sliceAt, run_underlying ht, Instr.slice, hsz, e, extract_mk]
  · cases hd
theorem sll_ok {μ : Mu} {t e : TypeId} {s : Nat} {vs : List V} {x : Value} {lo hi mx : Option Value} {v : V} (ht : P.underlying t = some (.slice e)) (hs : szT P e = some s) (hv : VRL μ vs (x :: (lo.toList ++ hi.toList ++ mx.toList))) (h : sSll s lo.isSome hi.isSome mx.isSome vs = some v) (w : World) :
    ∃ y, (Instr.sliceAt t x lo hi mx).run P w = .ok y w ∧ VR μ v y := by
  obtain ⟨u, r, rfl, h1, h2⟩ := hv.cons_inv
  cases u <;> simp only [sSll] at h <;> try (cases h; done)
  · rename_i id off len lb ex
    obtain ⟨l, c, hl, rfl, g1, g2, g3, g4⟩ := h1.sl_inv
    simp only [Option.bind_eq_some_iff] at h
    obtain ⟨b, hb, hd⟩ := h
    obtain ⟨b1, b2, b3⟩ := b
    unfold sllD at hd
    simp only at hd
    split at hd
    · rename_i hc
      have hmc : b3.getD lb ≤ b3.getD c := by cases b3 <;> simp <;> omega
      have hmc2 : b3.getD c ≤ c := by cases b3 <;> simp at hc ⊢ <;> omega
      obtain ⟨e1, e2, _⟩ := bounds_ok (P := P) (isS := true) (len := len) (cap := c) h2 hb hc.1 (Nat.le_trans hc.2.1 hmc) hmc2 w
      simp only at e1 e2
      have hx : (ex || b3.isSome) = true → b3.getD c = b3.getD lb := by
        cases b3 with
        | none => simp; intro hq; exact g3 hq
        | some m => simp
      have run : (Instr.sliceAt t (.slice (some ⟨l.g, l.o + off, none⟩) len c) lo hi mx).run P w =
          .ok (.slice (if b3.getD c = b1.getD 0 then some ⟨l.g, l.o + off, none⟩ else some ⟨l.g, l.o + off + b1.getD 0 * s, none⟩) (b2.getD len - b1.getD 0) (b3.getD c - b1.getD 0)) w := by
        simp [Instr.sliceAt, run_underlying ht, Instr.slice, e1, szT_run hs, addr_add]
      refine ⟨_, run, ?_⟩
      split at hd
      · rename_i h0
        cases hd
        rw [h0]
        have : (if b3.getD c = 0 then some (⟨l.g, l.o + off, none⟩ : Addr) else some ⟨l.g, l.o + off + 0 * s, none⟩) = some ⟨l.g, l.o + off, none⟩ := by simp
        rw [this]
        refine ⟨l, hl, rfl, by omega, hc.2.1, by omega, fun hq => by have := hx hq; omega, fun hq => by have := g4 hq; omega⟩
      · rename_i h0
        split at hd
        · rename_i hlt
          cases hd
          rw [if_neg (by omega)]
          refine ⟨l, hl, by rw [Nat.add_assoc], by omega, by omega, by omega, fun hq => by have := hx hq; omega, fun hq => ?_⟩
          have := g4 (by omega)
          omega
        · cases hd
          have h3 : b2.getD len - b1.getD 0 = 0 := by omega
          split <;> exact h3
    · cases hd
  · obtain rfl := h1.sn_inv
    simp only [Option.bind_eq_some_iff] at h
    obtain ⟨b, hb, hd⟩ := h
    split at hd
    · rename_i hc
      cases hd
      obtain ⟨e1, _, _⟩ := bounds_ok (P := P) (isS := true) (len := 0) (cap := 0) h2 hb (by omega) (by omega) (by omega) w
      refine ⟨.slice none 0 0, ?_, rfl, rfl⟩
      simp [Instr.sliceAt, run_underlying ht, Instr.slice, e1, szT_run hs, hc.1, hc.2.1, hc.2.2]
    · cases hd
end Go.Dm
