/- A region of open order: the whole. -/
import Derived.Test.YtmdaacajdnbegaaDoorDDraw3
namespace Go.Dm
open Go
set_option linter.constructorNameAsVariable false
set_option linter.unnecessarySimpa false
set_option linter.unusedSimpArgs false
variable {P : Program}

theorem filter_le {p q : Nat → Bool} (h : ∀ j, q j = true → p j = true) : ∀ l : List Nat, (l.filter q).length ≤ (l.filter p).length
  | [] => Nat.le_refl _
  | x :: l => by
    have ih := filter_le h l
    simp only [List.filter_cons]
    by_cases hq : q x = true
    · rw [if_pos hq, if_pos (h x hq)]; simp; exact ih
    · rw [if_neg hq]
      split
      · simp; omega
      · exact ih
theorem filter_lt {p q : Nat → Bool} (h : ∀ j, q j = true → p j = true) {i : Nat} (hp : p i = true) (hq : q i = false) : ∀ l : List Nat, i ∈ l → (l.filter q).length < (l.filter p).length
  | [], hi => by simp at hi
  | x :: l, hi => by
    simp only [List.filter_cons]
    rcases List.mem_cons.1 hi with rfl | hi
    · rw [if_neg (by simp [hq]), if_pos hp]
      have := filter_le h l
      simp; omega
    · have ih := filter_lt h hp hq l hi
      by_cases hqx : q x = true
      · rw [if_pos hqx, if_pos (h x hqx)]; simp; exact ih
      · rw [if_neg hqx]
        split
        · simp; omega
        · exact ih

def listedOf (a : Array Bool) : Nat → Bool := fun j => a.getD j false
theorem ready_iff {ops : Array Oper} {listed : Array Bool} (hs : listed.size = ops.size) (i : Nat) : i ∈ Region.ready .any ops listed ↔ ∃ o, ops[i]? = some o ∧ listedOf listed i = false ∧ ∀ e ∈ o.after.toList, Region.binds .any e = true → listedOf listed e.on = true := by
  unfold Region.ready
  simp only [List.mem_filter, List.mem_range, Bool.and_eq_true, Bool.not_eq_true']
  constructor
  · rintro ⟨h1, h2, h3⟩
    refine ⟨ops[i], Array.getElem?_eq_getElem h1, ?_, ?_⟩
    · unfold listedOf
      rw [Array.getD_eq_getD_getElem?] at h2 ⊢
      rw [Array.getElem?_eq_getElem (by omega)] at h2 ⊢
      simpa using h2
    · rw [Array.getElem?_eq_getElem h1] at h3
      simp only [Option.map_some, Option.getD_some] at h3
      intro e he hb
      rw [← Array.all_toList] at h3
      have := List.all_eq_true.1 h3 e he
      simpa [hb, listedOf] using this
  · rintro ⟨o, h1, h2, h3⟩
    have hlt : i < ops.size := (Array.getElem?_eq_some_iff.1 h1).1
    refine ⟨hlt, ?_, ?_⟩
    · unfold listedOf at h2
      rw [Array.getD_eq_getD_getElem?] at h2 ⊢
      rw [Array.getElem?_eq_getElem (by omega)] at h2 ⊢
      simpa using h2
    · rw [h1]
      simp only [Option.map_some, Option.getD_some]
      rw [← Array.all_toList]
      refine List.all_eq_true.2 fun e he => ?_
      cases hb : Region.binds .any e with
      | false => simp
      | true =>
        have := h3 e he hb
        simpa [listedOf] using this

theorem FL_agree {cf : CallF} {ios : List IOper} {bm : List Nat} {F : Nat → Fr} {S : Nat → St} {D : Nat → Did} (hD : DrawF cf ios bm F S D) {L : Nat → Bool} : ∀ (i : Nat), i ≤ ios.length → (∀ j, j < i → L j = true) → FrOf ios F L i = F i
  | 0, _, _ => rfl
  | i + 1, hi, h => by
    funext t
    simp only [FrOf]
    by_cases hd : dstAt ios i = some t
    · rw [if_pos ⟨h i (by omega), hd⟩]; rfl
    · rw [if_neg (fun hq => hd hq.2), FL_agree hD i (by omega) (fun j hj => h j (by omega))]
      exact (hD.keepF (i + 1) i t (by omega) hi (fun k q1 q2 => by rw [show k = i by omega]; exact hd)).symm

theorem any_ok {cf : CallF} (hcf : CallOK P cf) {ios : List IOper} {F : Nat → Fr} {S : Nat → St} {D : Nat → Did} {n : Nat} {ops : Array Oper} (hD : DrawF cf ios (befs ops.toList []) F S D) (hc : compOpers P n ops ops.toList = some ios) (he : edgesOK ops.toList 0 = true)
    {μ0 : Mu} {w0 : World} {Q : Exit → Act → World → Prop}
    (hQ : ∀ μ a w wl, FrR μ n (F ios.length) a → SR P μ (S ios.length).h w → Tr μ0 w0 wl (S 0).nx (S ios.length).nx μ w → (∀ id ∈ wl, ∃ j, j < ios.length ∧ id ∈ (D j).wr) → Q .normal a w) :
    ∀ (fuel : Nat) (listed : Array Bool) (μ : Mu) (a : Act) (w : World) (wl : List Nat), listed.size = ops.size → (∀ i o, ops.toList[i]? = some o → listedOf listed i = true → ∀ e ∈ o.after.toList, Region.binds .any e = true → listedOf listed e.on = true) →
      ((List.range ops.size).filter fun j => !listedOf listed j).length ≤ fuel → Inv P n ios F S D μ0 w0 (listedOf listed) μ a w wl → wpAny P .any ops Q fuel listed a w := by
  have hlen : ios.length = ops.size := by rw [(compOpers_get hc).1]; simp
  have noneLeft : ∀ listed : Array Bool, listed.size = ops.size → Region.ready .any ops listed = [] → ∀ j, j < ops.size → listedOf listed j = true := by
    intro listed hs hr j
    induction j using Nat.strongRecOn with
    | _ j ih =>
      intro hj
      cases hq : listedOf listed j with
      | true => rfl
      | false =>
        have hm : j ∈ Region.ready .any ops listed := by
          refine (ready_iff hs j).2 ⟨ops[j], Array.getElem?_eq_getElem hj, hq, fun e hem hb => ?_⟩
          have := edgesOK_get ops.toList 0 he j ops[j] (by simp [hj]) e hem hb
          exact ih e.on (by omega) (by omega)
        rw [hr] at hm
        simp at hm
  have fin : ∀ (listed : Array Bool) (μ : Mu) (a : Act) (w : World) (wl : List Nat), listed.size = ops.size → Region.ready .any ops listed = [] → Inv P n ios F S D μ0 w0 (listedOf listed) μ a w wl → Q .normal a w := by
    intro listed μ a w wl hs hr inv
    have hall := noneLeft listed hs hr
    refine hQ μ a w wl ?_ ?_ inv.tr inv.wl
    · rw [← FL_agree hD (L := listedOf listed) ios.length (Nat.le_refl _) (fun j hj => hall j (by omega))]
      exact inv.fr
    · have : HL S D (listedOf listed) ios.length = (S ios.length).h := by
        funext id
        exact HL_agree hD ios.length (Nat.le_refl _) (fun j hj _ => hall j (by omega))
      rw [← this]
      exact inv.sr
  intro fuel
  induction fuel with
  | zero =>
    intro listed μ a w wl hs hdc hcnt inv
    have hr : Region.ready .any ops listed = [] := by
      cases hq : Region.ready .any ops listed with
      | nil => rfl
      | cons i r =>
        exfalso
        have hm : i ∈ Region.ready .any ops listed := by rw [hq]; simp
        obtain ⟨o, h1, h2, _⟩ := (ready_iff hs i).1 hm
        have hlt : i < ops.size := (Array.getElem?_eq_some_iff.1 h1).1
        have : i ∈ (List.range ops.size).filter fun j => !listedOf listed j := by simp [hlt, h2]
        have hz : ((List.range ops.size).filter fun j => !listedOf listed j) = [] := List.eq_nil_of_length_eq_zero (by omega)
        rw [hz] at this
        simp at this
    exact ⟨hr, fin listed μ a w wl hs hr inv⟩
  | succ fuel ih =>
    intro listed μ a w wl hs hdc hcnt inv
    refine ⟨fun hr => fin listed μ a w wl hs hr inv, fun i hi => ?_⟩
    obtain ⟨o, h1, h2, h3⟩ := (ready_iff hs i).1 hi
    have hlt : i < ops.size := (Array.getElem?_eq_some_iff.1 h1).1
    have h1l : ops.toList[i]? = some o := by simpa using h1
    have hL' : listedOf (listed.setIfInBounds i true) = addL (listedOf listed) i := by
      funext j
      simp only [listedOf, addL, Array.getD_eq_getD_getElem?]
      by_cases hj : j = i
      · subst hj
        simp [show j < listed.size by omega]
      · rw [Array.getElem?_setIfInBounds_ne (Ne.symm hj)]
        simp [hj]
    have hin : ∀ j, listedOf listed j = true → j < ops.toList.length := by
      intro j hj
      rcases Nat.lt_or_ge j listed.size with h | h
      · simp; omega
      · exfalso
        unfold listedOf at hj
        rw [Array.getD_eq_getD_getElem?, Array.getElem?_eq_none h] at hj
        simp at hj
    have hbd := before_done (ops := ops.toList) (listedOf listed) hdc hin
    refine inv_step hcf hD hc (by omega) h2 (hbd i o h1l h3) (fun k hik hk hLk => ?_) inv fun μ' a' w' wl' inv' => ?_
    · cases hb : Nat.testBit ((befs ops.toList []).getD k 0) i with
      | false => rfl
      | true =>
        have hkl : k < ops.toList.length := by simp; omega
        have := hbd k _ (List.getElem?_eq_getElem hkl) (hdc k _ (List.getElem?_eq_getElem hkl) hLk) i hb
        rw [h2] at this
        cases this
    · refine ih _ μ' a' w' wl' (by simpa using hs) ?_ ?_ (by rw [hL']; exact inv')
      · rw [hL']
        intro j o' hj hLj e hem hb
        simp only [addL, Bool.or_eq_true, beq_iff_eq] at hLj ⊢
        rcases hLj with rfl | hLj
        · rw [h1l] at hj
          cases hj
          exact .inr (h3 e hem hb)
        · exact .inr (hdc j o' hj hLj e hem hb)
      · rw [hL']
        have := filter_lt (p := fun j => !listedOf listed j) (q := fun j => !addL (listedOf listed) i j) (fun j hj => by simp [addL] at hj ⊢; exact hj.2) (i := i) (by simp [h2]) (by simp [addL]) (List.range ops.size) (by simp [hlt])
        omega

/-- A region of open order. -/
theorem draw_ok {cf : CallF} (hcf : CallOK P cf) (hm : P.follows .mixedOrders = true) {id n : Nat} {ops : Array Oper} {ios : List IOper} (hc : compOpers P n ops ops.toList = some ios) (hd : drawOK ops.toList ios = true) {fr fr' : Fr} {st st' : St}
    (h : drawX cf ios (befs ops.toList []) [] fr st = some (fr', st')) :
    st.nx ≤ st'.nx ∧ ∃ wl, st'.wl = wl ++ st.wl ∧ ∀ (Q : Exit → Act → World → Prop) (μ : Mu) (a : Act) (w : World), FrR μ n fr a → SR P μ st.h w → (∀ id, st.nx ≤ id → id < st'.nx → μ id = none) →
      (∀ a' w' μ', FrR μ' n fr' a' → SR P μ' st'.h w' → Tr μ w wl st.nx st'.nx μ' w' → Q .normal a' w') → (Code.region id ops true).wp P Q a w := by
  obtain ⟨F, S, D, e1, e2, e3, e4, e5⟩ := drawX_seq _ _ _ _ _ _ _ h
  simp only [List.nil_append] at e5
  unfold drawOK at hd
  simp only [Bool.and_eq_true] at hd
  obtain ⟨⟨hed, hus⟩, hds⟩ := hd
  have hlen : ios.length = ops.size := by rw [(compOpers_get hc).1]; simp
  -- without the world: numbers and writes
  have base : ∀ (hcl : ∀ id, (S 0).nx ≤ id → id < (S ios.length).nx → (S 0).h id = none), DrawF cf ios (befs ops.toList []) F S D := fun hcl =>
    ⟨e5, fun i o hi t ht j p hj hp => by
      have := usesOK_get ios _ 0 hus i o hi t ht
      have := setBy_get ios 0 this j p hj hp
      simpa using this, fun i j o p d h1 h2 h3 h4 => dstsOK_get ios hds i j o p d h1 h2 h3 h4, hcl⟩
  have nx1 : ∀ i, i < ios.length → (S i).nx ≤ (S (i + 1)).nx := by
    intro i hi
    rcases e5 i _ (List.getElem?_eq_getElem hi) with ⟨_, v, st1, q⟩ | ⟨_, _, _, q⟩
    · rw [q.nx]
      have := opX_nx hcf q.run
      exact this
    · rw [q]; exact Nat.le_refl _
  have nxs : ∀ i, i ≤ ios.length → (S 0).nx ≤ (S i).nx := by
    intro i
    induction i with
    | zero => intro _; exact Nat.le_refl _
    | succ i ih => intro hi; exact Nat.le_trans (ih (by omega)) (nx1 i (by omega))
  have wls : ∀ i, i ≤ ios.length → ∃ wl, (S i).wl = wl ++ (S 0).wl ∧ ∀ j, j < i → ∀ id ∈ (D j).wr, id ∈ wl := by
    intro i
    induction i with
    | zero => intro _; exact ⟨[], rfl, fun j hj => by omega⟩
    | succ i ih =>
      intro hi
      obtain ⟨wl, h1, h2⟩ := ih (by omega)
      rcases e5 i _ (List.getElem?_eq_getElem (show i < ios.length by omega)) with ⟨_, v, st1, q⟩ | ⟨_, q0, _, q⟩
      · refine ⟨st1.wl ++ wl, by rw [q.wl, h1, List.append_assoc], fun j hj id hid => ?_⟩
        rcases Nat.lt_or_ge j i with hji | hji
        · exact List.mem_append.2 (.inr (h2 j hji id hid))
        · have : j = i := by omega
          subst this
          rw [q.did] at hid
          exact List.mem_append.2 (.inl hid)
      · refine ⟨wl, by rw [q, h1], fun j hj id hid => ?_⟩
        rcases Nat.lt_or_ge j i with hji | hji
        · exact h2 j hji id hid
        · have : j = i := by omega
          subst this
          rw [q0] at hid
          simp at hid
  obtain ⟨wl, hwl1, hwl2⟩ := wls ios.length (Nat.le_refl _)
  refine ⟨by have := nxs ios.length (Nat.le_refl _); rwa [e2, e4] at this, wl, by rw [← e4, hwl1, e2], fun Q μ a w hf hs hfr hQ => ?_⟩
  have hclear : ∀ id, (S 0).nx ≤ id → id < (S ios.length).nx → (S 0).h id = none := by
    intro id q1 q2
    rw [e2] at q1 ⊢
    rw [e4] at q2
    cases hq : st.h id with
    | none => rfl
    | some b =>
      obtain ⟨l, q3, _⟩ := hs.box id b hq
      rw [hfr id q1 q2] at q3
      cases q3
  have hD := base hclear
  refine wp_region_any hm ?_
  have h0L : listedOf (Array.replicate ops.size false) = fun _ => false := by
    funext j
    simp only [listedOf, Array.getD_eq_getD_getElem?, Array.getElem?_replicate]
    split <;> rfl
  refine any_ok hcf hD hc hed (μ0 := μ) (w0 := w) (fun μ' a' w' wl' f1 f2 f3 f4 => hQ a' w' μ' (by rw [← e3]; exact f1) (by rw [← e4]; exact f2) ?_) ops.size _ μ a _ [] (by simp) ?_ ?_ ?_
  · rw [e2, e4] at f3
    exact f3.more fun id hid => by
      obtain ⟨j, q1, q2⟩ := f4 id hid
      exact hwl2 j q1 id q2
  · rw [h0L]; intro i o _ h; cases h
  · have := List.length_filter_le (fun j => !listedOf (Array.replicate ops.size false) j) (List.range ops.size)
    simpa using this
  · rw [h0L]
    have hFL : ∀ i, FrOf ios F (fun _ => false) i = F 0 := by
      intro i
      induction i with
      | zero => rfl
      | succ i ih => funext t; simp [FrOf, ih]
    have hHL0 : ∀ i, HL S D (fun _ => false) i = (S 0).h := by
      intro i
      induction i with
      | zero => rfl
      | succ i ih => funext t; simp [HL, ih]
    refine ⟨by rw [hFL, e1]; exact hf, by rw [hHL0, e2]; exact hs.heap rfl, ?_, by simp, fun k hk _ id q1 q2 => ?_⟩
    · have ht : Tr μ w [] (S 0).nx (S 0).nx μ { w with drawn := w.drawn + 1 } := Tr.heap rfl rfl rfl rfl
      exact ht.wide (Nat.le_refl _) (nxs _ (Nat.le_refl _))
    · obtain ⟨g1, g2⟩ := hD.lohi hk
      refine hfr id ?_ ?_
      · have := nxs k (by omega)
        rw [e2] at this
        omega
      · have := hD.mono hcf ios.length (k + 1) (by omega) (Nat.le_refl _)
        rw [e4] at this
        omega
end Go.Dm
