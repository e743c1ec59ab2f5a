/- A region of open order: the heap and the frame behind any set of operations that is closed downward. -/
import Derived.Test.YtmdaacajdnbegaaDoorDDraw
namespace Go.Dm
open Go
set_option linter.constructorNameAsVariable false
set_option linter.unnecessarySimpa false
set_option linter.unusedSimpArgs false
variable {P : Program}

instance (d : Did) (j : Nat) : Decidable (d.hit j) := by unfold Did.hit; exact inferInstance

/-- The machine's run through a region of open order. -/
structure DrawF (cf : CallF) (ios : List IOper) (bm : List Nat) (F : Nat → Fr) (S : Nat → St) (D : Nat → Did) : Prop where
  step : ∀ i o, ios[i]? = some o → StepD cf o (bm.getD i 0) ((List.range i).map D) (F i) (S i) (D i) (F (i + 1)) (S (i + 1))
  uses : ∀ (i : Nat) (o : IOper), ios[i]? = some o → ∀ t ∈ uses o, ∀ (j : Nat) (p : IOper), ios[j]? = some p → p.dst = some t → j < i ∧ Nat.testBit (bm.getD i 0) j = true
  dsts : ∀ (i j : Nat) (o p : IOper) (d : Nat), ios[i]? = some o → ios[j]? = some p → o.dst = some d → p.dst = some d → i = j
  clear : ∀ id, (S 0).nx ≤ id → id < (S ios.length).nx → (S 0).h id = none

def dstAt (ios : List IOper) (i : Nat) : Option Nat := (ios[i]?).bind (·.dst)
def HL (S : Nat → St) (D : Nat → Did) (L : Nat → Bool) : Nat → Heap
  | 0 => (S 0).h
  | i + 1 => fun id => if L i = true ∧ (D i).hit id then (S (i + 1)).h id else HL S D L i id
def FrOf (ios : List IOper) (F : Nat → Fr) (L : Nat → Bool) : Nat → Fr
  | 0 => F 0
  | i + 1 => fun t => if L i = true ∧ dstAt ios i = some t then (F (i + 1)).get t else FrOf ios F L i t
def addL (L : Nat → Bool) (i : Nat) : Nat → Bool := fun j => j == i || L j

section
variable {cf : CallF} {ios : List IOper} {bm : List Nat} {F : Nat → Fr} {S : Nat → St} {D : Nat → Did} (hD : DrawF cf ios bm F S D)
include hD

theorem DrawF.lohi {i : Nat} (hi : i < ios.length) : (D i).lo = (S i).nx ∧ (D i).hi = (S (i + 1)).nx := by
  rcases hD.step i _ (List.getElem?_eq_getElem hi) with ⟨_, v, st1, h⟩ | ⟨_, h2, _, h4⟩
  · rw [h.did, h.nx]; exact ⟨rfl, rfl⟩
  · rw [h2, h4]; exact ⟨rfl, rfl⟩
theorem DrawF.mono1 (hcf : CallOK P cf) {i : Nat} (hi : i < ios.length) : (S i).nx ≤ (S (i + 1)).nx := by
  rcases hD.step i _ (List.getElem?_eq_getElem hi) with ⟨_, v, st1, h⟩ | ⟨_, _, _, h4⟩
  · rw [h.nx]
    have := opX_nx hcf h.run
    exact this
  · rw [h4]; exact Nat.le_refl _
theorem DrawF.mono (hcf : CallOK P cf) : ∀ (j i : Nat), i ≤ j → j ≤ ios.length → (S i).nx ≤ (S j).nx
  | 0, i, h, _ => by rw [Nat.le_zero.1 h]; exact Nat.le_refl _
  | j + 1, i, h, hj => by
    rcases Nat.lt_or_ge j i with h1 | h1
    · rw [show i = j + 1 by omega]; exact Nat.le_refl _
    · exact Nat.le_trans (DrawF.mono hcf j i h1 (by omega)) (hD.mono1 hcf (by omega))
theorem DrawF.unhit {i : Nat} (hi : i < ios.length) {id : Nat} (h0 : ¬ (D i).hit id) : (S (i + 1)).h id = (S i).h id := by
  rcases hD.step i _ (List.getElem?_eq_getElem hi) with ⟨_, v, st1, h⟩ | ⟨_, _, _, h4⟩
  · rw [h.h]
    rw [h.did] at h0
    simp only [Did.hit] at h0
    show (if _ then _ else _) = _
    rw [if_neg (by simpa using h0)]
  · rw [h4]
theorem DrawF.wr {i : Nat} (hi : i < ios.length) {id : Nat} (h0 : id ∈ (D i).wr) :
    (∃ b, (S i).h id = some b ∧ b.rw = true) ∧ seenBy (bm.getD i 0) ((List.range i).map D) 0 id = true ∧ ((D i).light = true → id ∈ (D i).rd) := by
  rcases hD.step i _ (List.getElem?_eq_getElem hi) with ⟨_, v, st1, h⟩ | ⟨_, h2, _, _⟩
  · rw [h.did] at h0 ⊢
    obtain ⟨⟨b, h1, h2⟩, h3⟩ := okW_get h.ok id h0
    split at h1
    · rename_i hs
      exact ⟨⟨b, h1, h2⟩, hs, h3⟩
    · cases h1
  · rw [h2] at h0; simp at h0
theorem DrawF.free {i k : Nat} (hk : k < ios.length) (hik : i < k) (hb : Nat.testBit (bm.getD k 0) i = false) {id : Nat} (h0 : id ∈ (D k).wr) : (D i).light = true ∧ id ∉ (D i).rd ∧ ¬ (D i).hit id := by
  rcases hD.step k _ (List.getElem?_eq_getElem hk) with ⟨_, v, st1, h⟩ | ⟨_, h2, _, _⟩
  · have hg : ((List.range k).map D)[i]? = some (D i) := by simp [hik]
    rw [h.did] at h0
    exact freeOf_get _ 0 h.free i (D i) hg (by simpa using hb) id h0
  · rw [h2] at h0; simp at h0
theorem DrawF.above (hcf : CallOK P cf) : ∀ (i : Nat), i ≤ ios.length → ∀ id, (S i).nx ≤ id → id < (S ios.length).nx → (S i).h id = none
  | 0, _, id, h1, h2 => hD.clear id h1 h2
  | i + 1, hi, id, h1, h2 => by
    have hm := hD.mono1 hcf (show i < ios.length by omega)
    have hn := DrawF.above hcf i (by omega) id (by omega) h2
    rw [hD.unhit (show i < ios.length by omega), hn]
    rintro (h | h)
    · have := hD.lohi (show i < ios.length by omega)
      omega
    · obtain ⟨⟨b, hb, _⟩, _⟩ := hD.wr (show i < ios.length by omega) h
      rw [hn] at hb
      cases hb
/-- What is hit by two of open order: nothing. -/
theorem DrawF.disj (hcf : CallOK P cf) {i k : Nat} (hk : k < ios.length) (hik : i < k) (hb : Nat.testBit (bm.getD k 0) i = false) {id : Nat} (h1 : (D i).hit id) (h2 : (D k).hit id) : False := by
  rcases h2 with h2 | h2
  · obtain ⟨e1, e2⟩ := hD.lohi hk
    obtain ⟨f1, f2⟩ := hD.lohi (show i < ios.length by omega)
    have m1 := hD.mono hcf k (i + 1) (by omega) (by omega)
    have m2 := hD.mono hcf ios.length (k + 1) (by omega) (Nat.le_refl _)
    have m3 := hD.mono hcf k i (by omega) (by omega)
    rcases h1 with h1 | h1
    · omega
    · obtain ⟨⟨b, hb1, _⟩, _⟩ := hD.wr (show i < ios.length by omega) h1
      rw [hD.above hcf i (by omega) id (by omega) (by omega)] at hb1
      cases hb1
  · exact (hD.free hk hik hb h2).2.2 h1

theorem HL_agree {L : Nat → Bool} {id : Nat} : ∀ (i : Nat), i ≤ ios.length → (∀ j, j < i → (D j).hit id → L j = true) → HL S D L i id = (S i).h id
  | 0, _, _ => rfl
  | i + 1, hi, h => by
    simp only [HL]
    by_cases hh : (D i).hit id
    · rw [if_pos ⟨h i (by omega) hh, hh⟩]
    · rw [if_neg (by simp [hh]), HL_agree i (by omega) (fun j hj => h j (by omega)), hD.unhit (by omega) hh]
omit hD in
theorem HL_stay {L : Nat → Bool} {id i : Nat} : ∀ (j : Nat), i ≤ j → (∀ k, i ≤ k → k < j → L k = true → ¬ (D k).hit id) → HL S D L j id = HL S D L i id
  | 0, h, _ => by rw [Nat.le_zero.1 h]
  | j + 1, h, hk => by
    rcases Nat.lt_or_ge j i with h1 | h1
    · rw [show i = j + 1 by omega]
    · simp only [HL]
      rw [if_neg (fun hq => hk j h1 (by omega) hq.1 hq.2)]
      exact HL_stay j h1 (fun k q1 q2 => hk k q1 (by omega))
omit hD in
theorem HL_add {L : Nat → Bool} {i id : Nat} (hL : L i = false) : ∀ (j : Nat), (∀ k, i < k → k < j → L k = true → (D i).hit id → ¬(D k).hit id) → HL S D (addL L i) j id = if i < j ∧ (D i).hit id then (S (i + 1)).h id else HL S D L j id
  | 0, _ => by simp [HL]
  | j + 1, hk => by
    simp only [HL]
    rw [HL_add hL j (fun k q1 q2 => hk k q1 (by omega))]
    by_cases hji : j = i
    · subst hji
      have e : addL L j j = true := by simp [addL]
      simp [e, hL]
    · have e : addL L i j = L j := by simp [addL, hji]
      simp only [e]
      by_cases hd : (D i).hit id
      · by_cases hlt : i < j
        · have hn : ¬ (L j = true ∧ (D j).hit id) := fun hq => hk j hlt (by omega) hq.1 hd hq.2
          simp [hd, hn, hlt, show i < j + 1 by omega]
        · simp [hd, hlt, show ¬ i < j + 1 by omega]
      · simp [hd]

theorem DrawF.keepF : ∀ (j i t : Nat), i ≤ j → j ≤ ios.length → (∀ k, i ≤ k → k < j → dstAt ios k ≠ some t) → (F j).get t = (F i).get t
  | 0, i, t, h, _, _ => by rw [Nat.le_zero.1 h]
  | j + 1, i, t, h, hj, hk => by
    rcases Nat.lt_or_ge j i with h1 | h1
    · rw [show i = j + 1 by omega]
    · rw [← DrawF.keepF j i t h1 (by omega) (fun k q1 q2 => hk k q1 (by omega))]
      have hjl : j < ios.length := by omega
      have hd := hk j h1 (by omega)
      have hd2 : ios[j].dst ≠ some t := by
        unfold dstAt at hd
        rw [List.getElem?_eq_getElem hjl] at hd
        exact hd
      have put : ∀ v, (putD (F j) ios[j].dst v).get t = (F j).get t := by
        intro v
        cases hq : ios[j].dst with
        | none => rfl
        | some d =>
          rw [hq] at hd2
          exact Fr.get_put_ne _ _ (fun e => hd2 (by rw [e]))
      rcases hD.step j _ (List.getElem?_eq_getElem hjl) with ⟨_, v, st1, h⟩ | ⟨_, _, h3, _⟩
      · rw [h.fr1]; exact put v
      · rw [h3]; exact put .u
omit hD in
theorem FL_stay {L : Nat → Bool} {t i : Nat} : ∀ (j : Nat), i ≤ j → (∀ k, i ≤ k → k < j → L k = true → dstAt ios k ≠ some t) → FrOf ios F L j t = FrOf ios F L i t
  | 0, h, _ => by rw [Nat.le_zero.1 h]
  | j + 1, h, hk => by
    rcases Nat.lt_or_ge j i with h1 | h1
    · rw [show i = j + 1 by omega]
    · simp only [FrOf]
      rw [if_neg (fun hq => hk j h1 (by omega) hq.1 hq.2)]
      exact FL_stay j h1 (fun k q1 q2 => hk k q1 (by omega))
theorem DrawF.uniq {i j t : Nat} (h1 : dstAt ios i = some t) (h2 : dstAt ios j = some t) : i = j := by
  unfold dstAt at h1 h2
  simp only [Option.bind_eq_some_iff] at h1 h2
  obtain ⟨o, a1, a2⟩ := h1
  obtain ⟨p, b1, b2⟩ := h2
  exact hD.dsts i j o p t a1 b1 a2 b2
/-- What an operation reads is what the listed order would let it read. -/
theorem DrawF.sees {L : Nat → Bool} {i : Nat} {o : IOper} (hi : ios[i]? = some o) (hbef : ∀ k, Nat.testBit (bm.getD i 0) k = true → L k = true) {t : Nat} (ht : t ∈ Dm.uses o) : FrOf ios F L ios.length t = (F i).get t := by
  have hil : i < ios.length := (List.getElem?_eq_some_iff.1 hi).1
  by_cases hj : ∃ (j : Nat) (p : IOper), ios[j]? = some p ∧ p.dst = some t
  · obtain ⟨j, p, h1, h2⟩ := hj
    obtain ⟨hlt, hb⟩ := hD.uses i o hi t ht j p h1 h2
    have hLj := hbef j hb
    have hdj : dstAt ios j = some t := by unfold dstAt; rw [h1]; exact h2
    have e1 : FrOf ios F L ios.length t = FrOf ios F L (j + 1) t := FL_stay _ (by omega) (fun k q1 q2 _ q4 => by have := hD.uniq q4 hdj; omega)
    have e2 : (F i).get t = (F (j + 1)).get t := hD.keepF i (j + 1) t (by omega) (by omega) (fun k q1 q2 q4 => by have := hD.uniq q4 hdj; omega)
    rw [e1, e2]
    simp only [FrOf]
    rw [if_pos ⟨hLj, hdj⟩]
  · have hno : ∀ k, dstAt ios k ≠ some t := by
      intro k hk
      unfold dstAt at hk
      simp only [Option.bind_eq_some_iff] at hk
      obtain ⟨p, h1, h2⟩ := hk
      exact hj ⟨k, p, h1, h2⟩
    rw [FL_stay (i := 0) _ (Nat.zero_le _) (fun k _ _ _ => hno k), hD.keepF i 0 t (Nat.zero_le _) (by omega) (fun k _ _ => hno k)]
    rfl
theorem DrawF.addF {L : Nat → Bool} {i : Nat} {o : IOper} (hi : ios[i]? = some o) (hL : L i = false) {v : V} (hv : F (i + 1) = putD (F i) o.dst v) : putD (FrOf ios F L ios.length) o.dst v = FrOf ios F (addL L i) ios.length := by
  have hil : i < ios.length := (List.getElem?_eq_some_iff.1 hi).1
  have key : ∀ j, j ≤ ios.length → ∀ t, FrOf ios F (addL L i) j t = if i < j ∧ dstAt ios i = some t then (F (i + 1)).get t else FrOf ios F L j t := by
    intro j
    induction j with
    | zero => intro _ t; simp [FrOf]
    | succ j ih =>
      intro hj t
      simp only [FrOf]
      rw [ih (by omega) t]
      by_cases hji : j = i
      · subst hji
        have e : addL L j j = true := by simp [addL]
        rw [e, hL]
        by_cases hd : dstAt ios j = some t
        · simp [hd]
        · simp [hd]
      · have e : addL L i j = L j := by simp [addL, hji]
        rw [e]
        by_cases hd : dstAt ios i = some t
        · have hdj : dstAt ios j ≠ some t := fun hq => hji (hD.uniq hq hd)
          by_cases hlt : i < j
          · simp [hd, hdj, hlt, show i < j + 1 by omega]
          · simp [hd, hdj, hlt, show ¬ i < j + 1 by omega]
        · simp [hd]
  have hdi : dstAt ios i = o.dst := by unfold dstAt; rw [hi]; rfl
  funext t
  rw [key _ (Nat.le_refl _) t, hdi]
  cases hd : o.dst with
  | none => simp [putD]
  | some d =>
    rw [hd] at hv
    by_cases ht : t = d
    · subst ht
      rw [if_pos ⟨hil, rfl⟩, hv]
      simp [putD, Fr.put, Fr.get]
    · rw [if_neg (by simp; intro _ hq; exact ht hq.symm)]
      simp [putD, Fr.put, ht]
end
end Go.Dm
