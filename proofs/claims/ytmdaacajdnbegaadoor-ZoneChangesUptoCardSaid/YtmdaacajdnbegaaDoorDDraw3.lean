/- A region of open order: one more operation; the whole. -/
import Derived.Test.YtmdaacajdnbegaaDoorDDraw2
namespace Go.Dm
open Go
set_option linter.constructorNameAsVariable false
set_option linter.unnecessarySimpa false
set_option linter.unusedSimpArgs false
variable {P : Program}

theorem Tr.wide {μ μ1 : Mu} {w w1 : World} {a : List Nat} {n n1 m m1 : Nat} (h : Tr μ w a n n1 μ1 w1) (h1 : m ≤ n) (h2 : n1 ≤ m1) : Tr μ w a m m1 μ1 w1 :=
  ⟨h.ext, fun id l e e0 => by have := h.rng id l e e0; omega, h.new, h.os, h.tape, h.output, h.size, h.keep⟩
theorem Tr.trans2 {μ μ1 μ2 : Mu} {w w1 w2 : World} {a b : List Nat} {n n2 : Nat} (h : Tr μ w a n n2 μ1 w1) (k : Tr μ1 w1 b n n2 μ2 w2) : Tr μ w (b ++ a) n n2 μ2 w2 := by
  have back : ∀ x, x < w.heap.size → Ch μ1 b x → Ch μ (b ++ a) x := by
    rintro x hx ⟨id, hid, l, e, rfl⟩
    rw [Ch.append]
    cases hm : μ id with
    | some l' =>
      have := h.ext _ _ hm
      rw [e] at this
      cases this
      exact .inl ⟨id, hid, l, hm, rfl⟩
    | none =>
      rcases h.new id l e hm with h1 | h1
      · omega
      · exact .inr h1
  refine ⟨h.ext.trans k.ext, fun id l e e0 => ?_, fun id l e e0 => ?_, k.os.trans h.os, k.tape.trans h.tape, k.output.trans h.output, Nat.le_trans h.size k.size, fun x hx hc => ?_⟩
  · cases h1 : μ1 id with
    | some l' => exact h.rng id l' h1 e0
    | none => exact k.rng id l e h1
  · cases h1 : μ1 id with
    | some l' =>
      have h2 := k.ext _ _ h1
      rw [e] at h2
      cases h2
      exact (h.new id l h1 e0).imp_right fun h3 => Ch.append.2 (.inr h3)
    | none =>
      rcases k.new id l e h1 with h2 | h2
      · exact .inl (Nat.le_trans h.size h2)
      · by_cases hx : l.g < w.heap.size
        · exact .inr (back _ hx h2)
        · exact .inl (by omega)
  · rw [k.keep x (Nat.lt_of_lt_of_le hx h.size) (fun hb => hc (back x hx hb))]
    exact h.keep x hx (fun ha => hc (Ch.append.2 (.inr ha)))

theorem fetch_congr {h h' : Heap} : ∀ {ids : List Nat}, (∀ id ∈ ids, h id = h' id) → fetch h ids = fetch h' ids
  | [], _ => rfl
  | id :: ids, hh => by
    simp only [fetch]
    rw [hh id (by simp), fetch_congr fun j hj => hh j (by simp [hj])]
theorem sets_congr : ∀ (wr : List (Nat × Option Box)) (h h' : Heap) (id : Nat), (id ∈ wr.map (·.1) ∨ h id = h' id) → h.sets wr id = h'.sets wr id
  | [], h, h', id, hh => by simpa [Heap.sets] using hh
  | (k, x) :: wr, h, h', id, hh => by
    simp only [Heap.sets]
    refine sets_congr wr _ _ id ?_
    by_cases hk : id = k
    · subst hk; exact .inr (by simp)
    · simp only [List.map_cons, List.mem_cons] at hh
      rcases hh with (hh | hh) | hh
      · exact absurd hh hk
      · exact .inl hh
      · exact .inr (by rw [Heap.set_ne _ _ hk, Heap.set_ne _ _ hk, hh])
theorem adds_congr : ∀ (nw : List Box) (nx : Nat) (h h' : Heap) (id : Nat), ((nx ≤ id ∧ id < nx + nw.length) ∨ h id = h' id) → h.adds nx nw id = h'.adds nx nw id
  | [], nx, h, h', id, hh => by
    simp only [Heap.adds]
    rcases hh with hh | hh
    · simp at hh; omega
    · exact hh
  | x :: nw, nx, h, h', id, hh => by
    simp only [Heap.adds]
    refine adds_congr nw (nx + 1) _ _ id ?_
    by_cases hk : id = nx
    · subst hk; exact .inr (by simp)
    · rcases hh with hh | hh
      · simp only [List.length_cons] at hh
        exact .inl (by omega)
      · exact .inr (by rw [Heap.set_ne _ _ hk, Heap.set_ne _ _ hk, hh])

/-- An operation of no code looks at nothing but what it says it looks into. -/
theorem lt_restrict {cf : CallF} {lo : LOp} {args : List Opnd} {fr : Fr} {h : Heap} {nx : Nat} {v : V} {st1 : St} (hx : opX cf (.lt lo args) fr { h, nx, wl := [] } = some (v, st1)) :
    ∃ st1', opX cf (.lt lo args) fr { h := fun id => if id ∈ lo.rd (args.map (·.ev fr)) then h id else none, nx, wl := [] } = some (v, st1') ∧ st1'.nx = st1.nx ∧ st1'.wl = st1.wl ∧
      ∀ id, ((nx ≤ id ∧ id < st1.nx) ∨ id ∈ st1.wl) → st1'.h id = st1.h id := by
  simp only [opX, ltX, Option.bind_eq_some_iff, Option.map_eq_some_iff] at hx
  obtain ⟨bs, hb, r, hr, h2⟩ := hx
  cases h2
  refine ⟨{ h := fun id => if id ∈ lo.rd (args.map (·.ev fr)) then h id else none, nx, wl := [] : St}.apply r, ?_, rfl, rfl, fun id hid => ?_⟩
  · simp only [opX, ltX]
    rw [fetch_congr (h' := h) (fun id hid => by simp [hid]), hb]
    simp [hr]
  · simp only [St.apply, List.append_nil] at hid ⊢
    refine adds_congr _ _ _ _ _ ?_
    rcases hid with hid | hid
    · exact .inl hid
    · exact .inr (sets_congr _ _ _ _ (.inl hid))

theorem usesO_congr {fr fr' : Fr} : ∀ (as : List Opnd), (∀ t ∈ usesO as, fr.get t = fr'.get t) → as.map (·.ev fr) = as.map (·.ev fr')
  | [], _ => rfl
  | .t t :: as, h => by
    simp only [usesO, List.mem_cons] at h
    show fr.get t :: as.map (·.ev fr) = fr'.get t :: as.map (·.ev fr')
    rw [h t (.inl rfl), usesO_congr as fun u hu => h u (.inr hu)]
  | .c v :: as, h => by
    simp only [usesO] at h
    show v :: as.map (·.ev fr) = v :: as.map (·.ev fr')
    rw [usesO_congr as h]
theorem opX_congr {cf : CallF} {o : IOper} {fr fr' : Fr} (h : ∀ t ∈ uses o, fr.get t = fr'.get t) (st : St) : opX cf o.op fr st = opX cf o.op fr' st := by
  obtain ⟨d, op, g⟩ := o
  cases op with
  | lt lo as => simp only [opX]; rw [usesO_congr as fun t ht => h t (by simp [uses, ht])]
  | callf f as => simp only [opX]; rw [usesO_congr as fun t ht => h t (by simp [uses, ht])]
  | callv x as =>
    have := usesO_congr (fr := fr) (fr' := fr') (x :: as) fun t ht => h t (by simp only [uses, List.mem_append]; exact .inl ht)
    simp only [List.map_cons, List.cons.injEq] at this
    simp only [opX]
    rw [this.1, this.2]
theorem wantedD_congr {o : IOper} {fr fr' : Fr} (h : ∀ t ∈ uses o, fr.get t = fr'.get t) : wantedD o fr = wantedD o fr' := by
  obtain ⟨d, op, g⟩ := o
  unfold wantedD
  cases g with
  | none => rfl
  | some q =>
    obtain ⟨k, w⟩ := q
    simp only
    rw [h k (by simp [uses])]
theorem compOpers_get {n : Nat} {ops : Array Oper} : ∀ {l : List Oper} {ios : List IOper}, compOpers P n ops l = some ios → ios.length = l.length ∧ ∀ (i : Nat) (o : Oper), l[i]? = some o →
    ∃ io, ios[i]? = some io ∧ io.dst = o.dst ∧ compOp P o.op = some io.op ∧ compG ops o.guard = some io.gd ∧ ∀ k, o.dst = some k → k < n
  | [], ios, h => by simp [compOpers] at h; subst h; exact ⟨rfl, fun i o hi => by simp at hi⟩
  | o :: l, ios, h => by
    obtain ⟨p, g, r, rfl, h1, h2, hd, h3⟩ := compOpers_cons h
    obtain ⟨e1, e2⟩ := compOpers_get h3
    refine ⟨by simp [e1], fun i o' hi => ?_⟩
    cases i with
    | zero =>
      simp only [List.getElem?_cons_zero, Option.some.injEq] at hi
      subst hi
      exact ⟨_, rfl, rfl, h1, h2, hd⟩
    | succ i =>
      simp only [List.getElem?_cons_succ] at hi
      exact e2 i o' hi

structure Inv (P : Program) (n : Nat) (ios : List IOper) (F : Nat → Fr) (S : Nat → St) (D : Nat → Did) (μ0 : Mu) (w0 : World) (L : Nat → Bool) (μ : Mu) (a : Act) (w : World) (wl : List Nat) : Prop where
  fr : FrR μ n (FrOf ios F L ios.length) a
  sr : SR P μ (HL S D L ios.length) w
  tr : Tr μ0 w0 wl (S 0).nx (S ios.length).nx μ w
  wl : ∀ id ∈ wl, ∃ j, j < ios.length ∧ id ∈ (D j).wr
  free : ∀ k, k < ios.length → L k = false → ∀ id, (D k).lo ≤ id → id < (D k).hi → μ id = none

theorem addL_false {L : Nat → Bool} {i k : Nat} (h : addL L i k = false) : k ≠ i ∧ L k = false := by
  simp only [addL, Bool.or_eq_false_iff, beq_eq_false_iff_ne] at h
  exact h

theorem inv_step {cf : CallF} (hcf : CallOK P cf) {ios : List IOper} {bm : List Nat} {F : Nat → Fr} {S : Nat → St} {D : Nat → Did} (hD : DrawF cf ios bm F S D) {n : Nat} {ops : Array Oper} (hc : compOpers P n ops ops.toList = some ios)
    {L : Nat → Bool} {i : Nat} (hi : i < ios.length) (hL : L i = false) (hbef : ∀ k, Nat.testBit (bm.getD i 0) k = true → L k = true) (haft : ∀ k, i < k → k < ios.length → L k = true → Nat.testBit (bm.getD k 0) i = false)
    {μ0 μ : Mu} {w0 w : World} {a : Act} {wl : List Nat} (inv : Inv P n ios F S D μ0 w0 L μ a w wl) {K : Act → World → Prop} {Q : Exit → Act → World → Prop}
    (hK : ∀ μ' a' w' wl', Inv P n ios F S D μ0 w0 (addL L i) μ' a' w' wl' → K a' w') : wpOp P ops Q i K a w := by
  obtain ⟨hlen, hget⟩ := compOpers_get hc
  have hil : i < ops.toList.length := by omega
  obtain ⟨io, hio, hdst, hcop, hcg, hdn⟩ := hget i _ (List.getElem?_eq_getElem hil)
  generalize ho : ops.toList[i] = o at *
  have hoi : ops[i]? = some o := by
    rw [← Array.getElem?_toList, List.getElem?_eq_getElem hil, ho]
  have huse : ∀ t ∈ uses io, (F i).get t = (FrOf ios F L ios.length).get t := fun t ht => (hD.sees hio hbef ht).symm
  have hdis : ∀ id k, i < k → k < ios.length → L k = true → (D i).hit id → ¬ (D k).hit id := fun id k h1 h2 h3 h4 h5 => hD.disj hcf h2 h1 (haft k h1 h2 h3) h4 h5
  have hHL : ∀ id, HL S D (addL L i) ios.length id = if (D i).hit id then (S (i + 1)).h id else HL S D L ios.length id := by
    intro id
    rw [HL_add hL ios.length (fun k h1 h2 h3 h4 => hdis id k h1 h2 h3 h4)]
    simp [hi]
  obtain ⟨hlo, hhi⟩ := hD.lohi hi
  unfold wpOp
  simp only [hoi]
  rcases hD.step i io hio with ⟨hw, v, st1, hr⟩ | ⟨hw, h2, h3, h4⟩
  · -- it runs
    rw [wantedD_congr huse] at hw
    rw [if_pos (wanted_ok (d := io.dst) (p := io.op) inv.fr hcg hw)]
    left
    have hrun := hr.run
    rw [opX_congr huse] at hrun
    have hwr : (D i).wr = st1.wl := by rw [hr.did]
    have hhi1 : (D i).hi = st1.nx := by rw [hr.did]
    -- the heap that it is run with
    have hex : ∃ (H : Heap) (st1' : St), opX cf io.op (FrOf ios F L ios.length) { h := H, nx := (S i).nx, wl := [] } = some (v, st1') ∧ st1'.nx = st1.nx ∧ st1'.wl = st1.wl ∧ (∀ id, (D i).hit id → st1'.h id = st1.h id) ∧
        ∀ id b, H id = some b → seenBy (bm.getD i 0) ((List.range i).map D) 0 id = true ∧ (S i).h id = some b ∧ ((D i).light = true → id ∈ (D i).rd) := by
      have hhit : ∀ id, (D i).hit id ↔ (((S i).nx ≤ id ∧ id < st1.nx) ∨ id ∈ st1.wl) := by
        intro id
        unfold Did.hit
        rw [hwr, hlo, hhi1]
      cases hop : io.op with
      | lt lo as =>
        rw [hop] at hrun
        obtain ⟨st1', r1, r2, r3, r4⟩ := lt_restrict hrun
        refine ⟨_, st1', r1, r2, r3, fun id hid => r4 id ((hhit id).1 hid), fun id b hb => ?_⟩
        split at hb
        · rename_i hrd
          split at hb
          · rename_i hs
            refine ⟨hs, hb, fun _ => ?_⟩
            have hfr : as.map (·.ev (FrOf ios F L ios.length)) = as.map (·.ev (F i)) := by
              refine usesO_congr as fun t ht => (huse t ?_).symm
              simp [uses, hop, ht]
            rw [hr.did, hop]
            rw [hfr] at hrd
            exact hrd
          · cases hb
        · cases hb
      | callf f as =>
        rw [hop] at hrun
        refine ⟨_, st1, hrun, rfl, rfl, fun _ _ => rfl, fun id b hb => ?_⟩
        split at hb
        · rename_i hs
          exact ⟨hs, hb, fun hl => by rw [hr.did, hop] at hl; cases hl⟩
        · cases hb
      | callv x as =>
        rw [hop] at hrun
        refine ⟨_, st1, hrun, rfl, rfl, fun _ _ => rfl, fun id b hb => ?_⟩
        split at hb
        · rename_i hs
          exact ⟨hs, hb, fun hl => by rw [hr.did, hop] at hl; cases hl⟩
        · cases hb
    obtain ⟨H, st1', hx, hnx', hwl', hh', hvis⟩ := hex
    -- what it sees is there
    have hsee : ∀ id b, seenBy (bm.getD i 0) ((List.range i).map D) 0 id = true → (S i).h id = some b → ((D i).light = true → id ∈ (D i).rd) → HL S D L ios.length id = some b := by
      intro id b s1 s2 s3
      rw [HL_stay (i := i) ios.length (by omega) (fun k q1 q2 q3 q4 => ?_), HL_agree hD i (by omega) (fun j hj hh => ?_), s2]
      · have hg : ((List.range i).map D)[j]? = some (D j) := by simp [hj]
        have := seenBy_get _ 0 id s1 j (D j) hg hh
        exact hbef j (by simpa using this)
      · rcases Nat.lt_or_ge i k with hik | hik
        · have hbit := haft k hik q2 q3
          rcases q4 with q4 | q4
          · obtain ⟨f1, f2⟩ := hD.lohi q2
            have m1 := hD.mono hcf k i (by omega) (by omega)
            have m2 := hD.mono hcf ios.length (k + 1) (by omega) (Nat.le_refl _)
            rw [hD.above hcf i (by omega) id (by omega) (by omega)] at s2
            cases s2
          · obtain ⟨g1, g2, _⟩ := hD.free q2 hik hbit q4
            exact g2 (s3 g1)
        · have : k = i := by omega
          subst this
          rw [hL] at q3
          cases q3
    have hsub : SR P μ H w := inv.sr.sub fun id b hb => by
      obtain ⟨s1, s2, s3⟩ := hvis id b hb
      exact hsee id b s1 s2 s3
    have hwrb : ∀ id ∈ (D i).wr, ∃ b, HL S D L ios.length id = some b ∧ b.rw = true := by
      intro id hid
      obtain ⟨⟨b, h1, h2⟩, h3, h4⟩ := hD.wr hi hid
      exact ⟨b, hsee id b h3 h1 h4, h2⟩
    obtain ⟨wl1, ew, kk⟩ := op_ok (n := n) hcf hcop hx
    have ew' : wl1 = (D i).wr := by rw [hwr, ← hwl', ew]; simp
    subst ew'
    refine kk μ a w K Q inv.fr hsub (fun id q1 q2 => inv.free i hi hL id (by rw [hlo]; exact q1) (by rw [hhi1, ← hnx']; exact q2)) fun y w' μ' hv hs' ht => ?_
    simp only at ht
    rw [hnx'] at ht
    refine hK μ' _ w' ((D i).wr ++ wl) ?_
    have hit_h : ∀ id, (D i).hit id → HL S D (addL L i) ios.length id = st1'.h id := by
      intro id hid
      rw [hHL, if_pos hid, hr.h, hh' id hid]
      have : ((S i).nx ≤ id ∧ id < st1.nx) ∨ st1.wl.contains id = true := by
        rcases hid with hid | hid
        · left; rw [← hlo, ← hhi1]; exact hid
        · right; rw [hwr] at hid; simpa using hid
      show (if _ then _ else _) = _
      rw [if_pos this]
    have cross : ∀ x y lx ly c, (D i).hit x → ¬ (D i).hit y → μ' x = some lx → μ' y = some ly → HL S D L ios.length y = some c → lx.g ≠ ly.g := by
      intro x y lx ly c hx1 hy1 ex ey hc1
      obtain ⟨l0, e1, e2, _⟩ := inv.sr.box y c hc1
      have := ht.ext _ _ e1
      rw [ey] at this
      cases this
      have viaWr : ∀ z m, z ∈ (D i).wr → μ z = some m → m.g ≠ ly.g := by
        intro z m hz hm
        obtain ⟨b, hb1, hb2⟩ := hwrb z hz
        exact inv.sr.apart z y b c m ly hb1 hb2 hc1 (fun e => hy1 (by rw [← e]; exact .inr hz)) hm e1
      cases hm : μ x with
      | some m =>
        have := ht.ext _ _ hm
        rw [ex] at this
        cases this
        rcases hx1 with hx1 | hx1
        · rw [inv.free i hi hL x hx1.1 hx1.2] at hm
          cases hm
        · exact viaWr x lx hx1 hm
      | none =>
        rcases ht.new x lx ex hm with h5 | ⟨z, hz, m, hm2, hg⟩
        · omega
        · rw [← hg]
          exact viaWr z m hz hm2
    have hlow : ∃ W, Low P μ' (HL S D (addL L i) ios.length) w' W := by
      obtain ⟨W, low⟩ := inv.sr.low
      have wrlow : ∀ z m, z ∈ (D i).wr → μ z = some m → W.heap.size ≤ m.g := by
        intro z m hz hm
        obtain ⟨b, hb1, hb2⟩ := hwrb z hz
        exact low.own z b m hb1 hb2 hm
      refine ⟨W, low.start, Nat.le_trans low.size ht.size, fun k hk => ?_, fun id b l hb hr hl => ?_⟩
      · rw [ht.keep k (Nat.lt_of_lt_of_le hk low.size) ?_]
        · exact low.same k hk
        · rintro ⟨z, hz, m, hm, hg⟩
          have := wrlow z m hz hm
          omega
      · by_cases hh : (D i).hit id
        · cases hm : μ id with
          | some m =>
            have := ht.ext _ _ hm
            rw [hl] at this
            cases this
            rcases hh with hh | hh
            · rw [inv.free i hi hL id hh.1 hh.2] at hm
              cases hm
            · exact wrlow id l hh hm
          | none =>
            rcases ht.new id l hl hm with h5 | ⟨z, hz, m, hm2, hg⟩
            · exact Nat.le_trans low.size h5
            · rw [← hg]; exact wrlow z m hz hm2
        · rw [hHL, if_neg hh] at hb
          obtain ⟨l1, e1, _⟩ := inv.sr.box id b hb
          have a1 := ht.ext _ _ e1
          rw [hl] at a1
          cases a1
          exact low.own id b l hb hr e1
    refine ⟨?_, ⟨hlow, ?_, ?_⟩, ?_, ?_, ?_⟩
    · have hfd := (inv.fr.mono ht.ext).put (d := o.dst) hdn hv
      rw [← hdst, hD.addF hio hL hr.fr1] at hfd
      rw [← hdst]
      exact hfd
    · intro id b hb
      by_cases hh : (D i).hit id
      · rw [hit_h id hh] at hb
        exact hs'.box id b hb
      · rw [hHL, if_neg hh] at hb
        obtain ⟨l, e1, e2, e3⟩ := inv.sr.box id b hb
        refine ⟨l, ht.ext _ _ e1, Nat.lt_of_lt_of_le e2 ht.size, e3.keep ht.ext (ht.keep l.g e2 ?_)⟩
        rintro ⟨z, hz, m, hm, hg⟩
        obtain ⟨b2, q1, q2⟩ := hwrb z hz
        exact inv.sr.apart z id b2 b m l q1 q2 hb (fun e => hh (by rw [← e]; exact .inr hz)) hm e1 hg
    · intro x y b c lx ly h1 h2 h3 h4 h5 h6
      by_cases hx1 : (D i).hit x
      · rw [hit_h x hx1] at h1
        by_cases hy1 : (D i).hit y
        · rw [hit_h y hy1] at h3
          exact hs'.apart x y b c lx ly h1 h2 h3 h4 h5 h6
        · rw [hHL, if_neg hy1] at h3
          exact cross x y lx ly c hx1 hy1 h5 h6 h3
      · rw [hHL, if_neg hx1] at h1
        by_cases hy1 : (D i).hit y
        · exact fun e => cross y x ly lx b hy1 hx1 h6 h5 h1 e.symm
        · rw [hHL, if_neg hy1] at h3
          obtain ⟨l1, e1, _⟩ := inv.sr.box x b h1
          obtain ⟨l2, e2, _⟩ := inv.sr.box y c h3
          have a1 := ht.ext _ _ e1
          have a2 := ht.ext _ _ e2
          rw [h5] at a1
          rw [h6] at a2
          cases a1
          cases a2
          exact inv.sr.apart x y b c lx ly h1 h2 h3 h4 e1 e2
    · refine inv.tr.trans2 (ht.wide (hD.mono hcf i 0 (Nat.zero_le _) (by omega)) ?_)
      rw [← hhi1, hhi]
      exact hD.mono hcf ios.length (i + 1) (by omega) (Nat.le_refl _)
    · intro id hid
      rcases List.mem_append.1 hid with h5 | h5
      · exact ⟨i, hi, h5⟩
      · exact inv.wl id h5
    · intro k hk hkf id q1 q2
      obtain ⟨hne, hkL⟩ := addL_false hkf
      have hnone := inv.free k hk hkL id q1 q2
      cases hq : μ' id with
      | none => rfl
      | some l =>
        have := ht.rng id l hq hnone
        obtain ⟨f1, f2⟩ := hD.lohi hk
        rcases Nat.lt_or_ge i k with hik | hik
        · have m1 := hD.mono hcf k (i + 1) (by omega) (by omega)
          omega
        · have m1 := hD.mono hcf i (k + 1) (by omega) (by omega)
          omega
  · -- it is not wanted
    rw [wantedD_congr huse] at hw
    rw [if_neg (by rw [wanted_ok (d := io.dst) (p := io.op) inv.fr hcg hw]; simp)]
    have hno : ∀ id, ¬ (D i).hit id := by
      intro id
      rw [h2]
      rintro (h | h)
      · simp only at h; omega
      · simp at h
    refine hK μ _ w wl ⟨?_, ?_, inv.tr, inv.wl, fun k hk hkf => inv.free k hk (addL_false hkf).2⟩
    · have hfd := inv.fr.put (d := o.dst) (v := .u) (x := undef) hdn rfl
      rw [← hdst, hD.addF hio hL h3] at hfd
      rw [← hdst]
      exact hfd
    · have : HL S D (addL L i) ios.length = HL S D L ios.length := by
        funext id
        rw [hHL, if_neg (hno id)]
      rw [this]
      exact inv.sr
end Go.Dm
