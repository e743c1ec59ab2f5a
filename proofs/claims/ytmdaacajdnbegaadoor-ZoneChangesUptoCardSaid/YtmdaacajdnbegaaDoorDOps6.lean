/- append. -/
import Derived.Test.YtmdaacajdnbegaaDoorDOps5
import Derived.Deep.AppendSrc
namespace Go.Dm
open Go
set_option linter.constructorNameAsVariable false
set_option linter.unnecessarySimpa false
set_option linter.unusedSimpArgs false
variable {P : Program}

theorem fetch1 {h : Heap} {a : Nat} {bs : List Box} (hf : fetch h [a] = some bs) : ∃ b, bs = [b] ∧ h a = some b := by
  simp only [fetch, Option.bind_eq_some_iff, Option.map_eq_some_iff] at hf
  obtain ⟨b, hb, bs', hbs, rfl⟩ := hf
  cases hbs
  exact ⟨b, rfl, hb⟩
theorem fetch2 {h : Heap} {a c : Nat} {bs : List Box} (hf : fetch h [a, c] = some bs) : ∃ b d, bs = [b, d] ∧ h a = some b ∧ h c = some d := by
  unfold fetch at hf
  simp only [Option.bind_eq_some_iff, Option.map_eq_some_iff] at hf
  obtain ⟨b, hb, bs', hbs, rfl⟩ := hf
  obtain ⟨d, rfl, hd⟩ := fetch1 hbs
  exact ⟨b, d, rfl, hb, hd⟩

/-- What is appended, as the model reads it. -/
theorem newsD_ok {μ : Mu} {h : Heap} {w : World} {x : V} {xv : Value} {bs : List Box} {sz n : Nat} {new : List V} {u : TypeId} (hs : SR P μ h w) (hk : (∃ e', P.underlying u = some (.slice e')) ∨ P.underlying u = some .string) (hx : VR μ x xv)
    (hb : ∀ id off len lb ex, x = .sl id off len lb ex → ∃ b, bs.getLast? = some b ∧ h id = some b) (h0 : newsD sz x bs = some (n, new)) :
    ∃ news, Src P sz u xv n news w ∧ VRL μ new news ∧ ∀ v ∈ new, v.ok1 = true := by
  cases x <;> simp only [newsD] at h0 <;> try (cases h0; done)
  · rename_i l
    obtain rfl := hx.s_inv
    split at h0
    · rename_i h1
      subst h1
      cases h0
      refine ⟨byteCells ⟨l.toArray⟩, ⟨hk, fun _ => rfl, firstCells_string _ w, firstCells_string _ w.drew, by rw [byteCells_length]; simp [size_mk], fun v hv => ?_⟩, ?_, bytes_ok1 l⟩
      · obtain ⟨_, _, rfl⟩ := List.mem_map.1 hv
        rfl
      · simpa [byteCells] using bytes_vr l
    · cases h0
  · rename_i id off len lb ex
    obtain ⟨l, c, hl, rfl, _⟩ := hx.sl_inv
    obtain ⟨b, hb1, hb2⟩ := hb _ _ _ _ _ rfl
    rw [hb1] at h0
    cases b with
    | map => simp at h0
    | arr rw_ ty cs =>
      simp only [Option.map_eq_some_iff, Prod.mk.injEq] at h0
      obtain ⟨c2, hc, rfl, rfl⟩ := h0
      obtain ⟨m, e1, e2, e3⟩ := hs.box id _ hb2
      rw [hl] at e1
      cases e1
      obtain ⟨vs, k1, k2, k3, k4⟩ := e3.piece hc
      have hn : ∀ (j : Nat) v, vs[j]? = some v → w.cell? ((⟨l.g, l.o + off, none⟩ : Addr).add j) = some v := fun j v hj => by rw [addr_add]; exact k4 j v hj
      exact ⟨vs, ⟨hk, fun _ => rfl, run_firstCells_some w sz len _ len c vs k2 hn, run_firstCells_some w.drew sz len _ len c vs k2 (by simpa using hn), k2, k1.one k3⟩, k1, k3⟩
  · obtain rfl := hx.sn_inv
    cases h0
    exact ⟨[], ⟨hk, fun _ => rfl, run_firstCells_none w sz 0 0 0, run_firstCells_none w.drew sz 0 0 0, by simp, by simp⟩, trivial, by simp⟩
  · obtain ⟨a, c, rfl⟩ := hx.se_inv
    cases h0
    have hn : ∀ (X : World) (j : Nat) v, ([] : List Value)[j]? = some v → X.cell? (a.add j) = some v := fun X j v hj => by simp at hj
    exact ⟨[], ⟨hk, fun _ => rfl, run_firstCells_some w sz 0 a 0 c [] (by simp) (hn w), run_firstCells_some w.drew sz 0 a 0 c [] (by simp) (hn w.drew), by simp, by simp⟩, trivial, by simp⟩

theorem append_types {ts : Array TypeId} {t u ty : TypeId} {args : Array Value} (h0 : ts[0]? = some t) (h1 : ts[1]? = some u) : Builtin.append_ ts ty args = Builtin.append_ #[t, u] ty args := by
  simp only [Builtin.append_, h0, h1]
  rfl

section
variable {μ : Mu} {w : World} {t u ty e : TypeId} {i : TypeInfo} {xv : Value} {n : Nat} {news : List Value}
/-- Nothing is appended. -/
theorem app_none (ht : P.underlying t = some (.slice e)) (hi : P.info? e = some i) (hsrc : Src P i.size u xv n news w) (hn : n = 0) (base : Option Addr) (len c : Nat) (hlc : len ≤ c) :
    (Builtin.append_ #[t, u] ty #[.slice base len c, xv]).run P w = .ok (.slice base len c) w := by
  subst hn
  have hl : news = [] := List.eq_nil_of_length_eq_zero (by rw [hsrc.newsLen]; simp)
  subst hl
  have hc := hsrc.cells
  rcases hsrc.kind with ⟨e', hk⟩ | hk <;> cases base <;> simp [Builtin.append_, run_underlying ht, run_underlying hk, sizeOf, typeInfo, hi, hsrc.len, hc, hlc, storeCells]
end

/-- A row behind an append that grows. -/
theorem grow_born {μ : Mu} {h : Heap} {w : World} {nx : Nat} {e : TypeId} {s len n c : Nat} {z : Value} {old new : List V} {olds news : List Value} (hs : SR P μ h w) (hn : μ nx = none) (hsz : szT P e = some s) (hzs : z.cells.size = s)
    (ho : VRL μ old olds) (ho1 : ∀ v ∈ old, v.ok1 = true) (hol : old.length = len * s) (hw : VRL μ new news) (hw1 : ∀ v ∈ new, v.ok1 = true) (hwl : new.length = n * s) :
    let N := grownCap w (len + n) c e
    let w' := w.drew.alloc (.cells ((olds ++ news).toArray ++ Builtin.zeroCells z.cells (N - (len + n))) e)
    SR P (μ.set nx ⟨w.heap.size, 0, N⟩) (h.set nx (some (.arr true e (old ++ new)))) w' ∧ Tr μ w [] nx (nx + 1) (μ.set nx ⟨w.heap.size, 0, N⟩) w' ∧ len + n ≤ N := by
  intro N w'
  have hge : len + n ≤ N := grownCap_ge w (len + n) c e
  have hol' : olds.length = len * s := by rw [← hol, ho.length]
  have hwl' : news.length = n * s := by rw [← hwl, hw.length]
  have hgt : w'.heap[w.heap.size]? = some (.cells ((olds ++ news).toArray ++ Builtin.zeroCells z.cells (N - (len + n))) e (0, 0)) := heap_alloc_new w.drew _
  obtain ⟨g1, g2⟩ := row_born (P := P) (w' := w') (ty := e) (cap := N) hs hn (ho.append hw) (fun v hv => (List.mem_append.1 hv).elim (ho1 v) (hw1 v))
    (A := (olds ++ news).toArray ++ Builtin.zeroCells z.cells (N - (len + n))) (fr := (0, 0))
    (fun j v hj => by
      rw [Array.getElem?_append_left (by have := (List.getElem?_eq_some_iff.1 hj).1; simpa using this)]
      simpa using hj)
    (by
      rw [szT_cells hsz, Array.size_append, size_zeroCells, hzs]
      simp only [List.size_toArray, List.length_append, hol', hwl', ← Nat.add_mul]
      exact Nat.mul_le_mul_right _ (by omega))
    (Free.zero _) hgt (by simp [w']) (fun k hk => heap_alloc_old w.drew _ k hk) rfl rfl rfl
  exact ⟨g1, g2, hge⟩

theorem app_ok {μ : Mu} {h : Heap} {w : World} {nx s b : Nat} {t u ty e : TypeId} {zs : List V} {a x : Value} {vs : List V} {bs : List Box} {r : Res} (hs : SR P μ h w) (hn : r.nw ≠ [] → μ nx = none) (ht : P.underlying t = some (.slice e))
    (hk : (∃ e', P.underlying u = some (.slice e')) ∨ P.underlying u = some .string) (hsz : szT P e = some s) (hby : byT P e = some b) (hz : zeT P e = some zs) (hc : s ≠ 0 ∧ b ≠ 0 ∧ zs.length = s)
    (hv : VRL μ vs [a, x]) (hf : fetch h (LOp.rd (.app e s b) vs) = some bs) (h0 : sApp nx e s b vs bs = some r) :
    ∃ y w' μ', (Builtin.append_ #[t, u] ty #[a, x]).run P w = .ok y w' ∧ Gave P μ w h nx r y w' μ' := by
  obtain ⟨i, z, hi, hiz, hza, _⟩ := zeT_inv hz
  obtain ⟨hs0, hb0, hzl⟩ := hc
  have his := szT_inv hsz hi
  have hib := byT_inv hby hi
  have hzs : z.cells.size = s := by rw [← hzl, (absL_ok (μ := μ) hza).length]; simp
  obtain ⟨sv, xv, rfl, k1, k2⟩ := hv.inv2
  simp only [sApp, appD] at h0
  cases hnd : newsD s xv bs with
  | none => rw [hnd] at h0; cases h0
  | some p =>
    obtain ⟨n, new⟩ := p
    rw [hnd] at h0
    simp only at h0
    have hlast : ∀ id off len lb ex, xv = .sl id off len lb ex → ∃ b, bs.getLast? = some b ∧ h id = some b := by
      rintro id off len lb ex rfl
      cases sv <;> simp only [LOp.rd] at hf
      case sl =>
        obtain ⟨b1, b2, rfl, _, h2⟩ := fetch2 hf
        exact ⟨b2, rfl, h2⟩
      all_goals
        obtain ⟨b1, rfl, h1⟩ := fetch1 hf
        exact ⟨b1, rfl, h1⟩
    obtain ⟨news, hsrc, hw, hw1⟩ := newsD_ok (u := u) hs hk k2 hlast hnd
    have hwl : new.length = n * s := by rw [hw.length, hsrc.newsLen]
    have hsrc' : Src P i.size u x n news w := by rw [his]; exact hsrc
    have big : ∀ len, (len + n) * b ≤ 140737488355328 → ∀ c, c < len + n → ((len + n : Nat) : Int) ≤ 9223372036854775807 ∧ Builtin.nextslicecap (len + n) c * i.bytes ≤ 281474976710656 := by
      intro len hq c hlt
      have h1 : len + n ≤ (len + n) * b := Nat.le_mul_of_pos_right _ (by omega)
      refine ⟨by omega, ?_⟩
      rw [hib]
      have h2 : Builtin.nextslicecap (len + n) c * b ≤ (2 * (len + n)) * b := Nat.mul_le_mul_right _ (nextslicecap_le hlt)
      have h3 : (2 * (len + n)) * b = 2 * ((len + n) * b) := Nat.mul_assoc 2 _ _
      omega
    cases sv <;> simp only at h0 <;> try (cases h0; done)
    · -- a slice
      rename_i id off len lb ex
      obtain ⟨l, c, hl, rfl, g1, g2, g3, g4⟩ := k1.sl_inv
      split at h0
      · rename_i hn0
        cases h0
        exact ⟨_, w, μ, app_none ht hi hsrc' hn0 _ _ _ (by omega), Gave.pure hs k1⟩
      · rename_i hn0
        split at h0
        · rename_i hB
          have hbs : ∃ b0, bs.head? = some b0 ∧ h id = some b0 := by
            cases xv <;> simp only [LOp.rd] at hf
            case sl =>
              obtain ⟨b1, b2, rfl, h1, _⟩ := fetch2 hf
              exact ⟨b1, rfl, h1⟩
            all_goals
              obtain ⟨b1, rfl, h1⟩ := fetch1 hf
              exact ⟨b1, rfl, h1⟩
          obtain ⟨b0, hb1, hb2⟩ := hbs
          rw [hb1] at h0
          cases b0 with
          | map => simp at h0
          | arr rw_ ty' cs =>
            simp only at h0
            obtain ⟨m, e1, e2, e3⟩ := hs.box id _ hb2
            rw [hl] at e1
            cases e1
            have grow : ∀ old, cut cs off (len * s) = some old → c < len + n → ∃ olds, VRL μ old olds ∧ (∀ v ∈ old, v.ok1 = true) ∧ (Builtin.append_ #[t, u] ty #[.slice (some ⟨l.g, l.o + off, none⟩) len c, x]).run P w =
                .ok (.slice (some ⟨w.heap.size, 0, none⟩) (len + n) (grownCap w (len + n) c e)) (w.drew.alloc (.cells ((olds ++ news).toArray ++ Builtin.zeroCells z.cells (grownCap w (len + n) c e - (len + n))) e)) := by
              intro old hcut hlt
              obtain ⟨olds, q1, q2, q3, q4⟩ := e3.piece hcut
              refine ⟨olds, q1, q3, ?_⟩
              obtain ⟨z1, z2⟩ := big len hB c hlt
              refine run_append_grow_src w t u ty e i z ht hi hiz _ len c olds (run_firstCells_some w.drew i.size len _ len c olds (by rw [his]; exact q2) (fun j v hj => by rw [addr_add]; simpa using q4 j v hj)) x n news hsrc' hlt z1 z2
            split at h0
            · rename_i hex
              simp only [Option.map_eq_some_iff] at h0
              obtain ⟨old, hcut, rfl⟩ := h0
              replace hn := hn (by simp)
              have hcl := g3 hex.1
              obtain ⟨olds, q1, q2, q3⟩ := grow old hcut (by omega)
              obtain ⟨G1, G2, G3⟩ := grow_born (P := P) (z := z) (c := c) hs hn hsz hzs q1 q2 (cut_len hcut) hw hw1 hwl
              exact ⟨_, _, _, q3, ⟨_, Mu.set_same _ _ _, rfl, rfl, Nat.le_refl _, G3, fun hq => by simp at hq, fun _ => Nat.le_refl _⟩, G1, G2⟩
            · split at h0
              · rename_i hcond
                obtain ⟨rfl, rfl, hlen, hty⟩ := hcond
                rw [hty] at e3 hb2
                cases h0
                replace hn := hn (by simp)
                have hsub : SR P μ (h.set id none) w := hs.sub fun j b hj => by
                  by_cases hji : j = id
                  · subst hji; simp at hj
                  · rwa [Heap.set_ne _ _ hji] at hj
                by_cases hlt : c < len + n
                · have hcut : cut cs 0 (len * s) = some cs := by
                    unfold cut
                    rw [if_pos (by omega), ← hlen]
                    simp
                  obtain ⟨olds, q1, q2, q3⟩ := grow cs hcut hlt
                  obtain ⟨G1, G2, G3⟩ := grow_born (P := P) (z := z) (c := c) hsub hn hsz hzs q1 q2 hlen hw hw1 hwl
                  exact ⟨_, _, _, q3, ⟨_, Mu.set_same _ _ _, rfl, rfl, Nat.le_refl _, G3, fun hq => by simp at hq, fun _ => Nat.le_refl _⟩, G1, G2.more (by simp)⟩
                · -- in place
                  obtain ⟨hlo, vs, fr, hg, hfr, hcap⟩ := e3.2 rfl
                  rw [szT_cells hsz] at hcap
                  have hcc := g4 rfl
                  have hfit : (len + n) * s ≤ vs.size := Nat.le_trans (Nat.mul_le_mul_right _ (by omega)) hcap
                  rw [Nat.add_mul] at hfit
                  have hnl : news.length = n * s := hsrc.newsLen
                  obtain ⟨w', c', f1, f2, f3, f4, f5, f6, f7, f8, f9⟩ := run_storeCells (P := P) l.g e fr news w (len * s) 0 vs hg hfr (by omega) hsrc.one
                  have hrun : (Builtin.append_ #[t, u] ty #[.slice (some ⟨l.g, l.o + 0, none⟩) len c, x]).run P w = .ok (.slice (some ⟨l.g, l.o + 0, none⟩) (len + n) c) w' := by
                    have hle : len + n ≤ c := by omega
                    rcases hk with ⟨e', hk⟩ | hk <;> simp [Builtin.append_, run_underlying ht, run_underlying hk, sizeOf, typeInfo, hi, hsrc.len, hle, hsrc.cells, addr_add, his, hlo, f1]
                  have hne : ∀ j cb, (h.set id none) j = some cb → j ≠ id := by
                    rintro j cb hj rfl
                    simp at hj
                  have hap : ∀ j cb m, (h.set id none) j = some cb → μ j = some m → m.g ≠ l.g := by
                    intro j cb m hj hm
                    have hji := hne j cb hj
                    rw [Heap.set_ne _ _ hji] at hj
                    exact fun hq => hs.apart id j _ cb l m hb2 rfl hj (Ne.symm hji) hl hm hq.symm
                  have hnew : BR P (μ.set nx l) w' l (.arr true e (cs ++ new)) := by
                    refine BR.cells true f2 (by rw [f3]; exact hfr) hlo (fun j v hj => ?_) (by rw [f3, szT_cells hsz]; exact hcap)
                    have f4j := f4 j
                    simp only [Nat.add_zero] at f4j
                    by_cases hjl : j < cs.length
                    · rw [List.getElem?_append_left hjl] at hj
                      obtain ⟨o1, y, o2, o3⟩ := e3.1 j v hj
                      rw [hlo, Nat.zero_add, cell_of_row w l.g _ vs e fr hg] at o2
                      rw [if_neg (by omega)] at f4j
                      exact ⟨o1, y, by rw [f4j]; exact o2, VR.mono (Mu.ext _ hn) _ _ o3⟩
                    · rw [List.getElem?_append_right (by omega)] at hj
                      obtain ⟨y, o1, o2⟩ := hw.get _ hj
                      have hjn : j - cs.length < new.length := (List.getElem?_eq_some_iff.1 hj).1
                      rw [if_pos (by omega), ← hlen] at f4j
                      exact ⟨hw1 v (List.mem_of_getElem? hj), y, by rw [f4j]; exact o1, VR.mono (Mu.ext _ hn) _ _ o2⟩
                  have hnxid : nx ≠ id := by rintro rfl; rw [hl] at hn; cases hn
                  refine ⟨_, w', μ.set nx l, hrun, ⟨l, Mu.set_same _ _ _, by simp, rfl, Nat.le_refl _, by omega, fun hq => by simp at hq, fun _ => hcc⟩, ⟨?_, ?_, ?_⟩, ?_⟩
                  · obtain ⟨W, low⟩ := hs.low
                    have hlg := low.own id _ l hb2 rfl hl
                    refine ⟨W, low.start, by have := low.size; omega, fun k hk' => ?_, fun j cb m hj hr hm => ?_⟩
                    · rw [f5 k (by omega)]; exact low.same k hk'
                    · simp only [Heap.sets, Heap.adds] at hj
                      by_cases hjx : j = nx
                      · subst hjx
                        rw [Mu.set_same] at hm
                        cases hm
                        exact hlg
                      · rw [Heap.set_ne _ _ hjx] at hj
                        rw [Mu.set_ne _ _ hjx] at hm
                        have hjid := hne j cb hj
                        rw [Heap.set_ne _ _ hjid] at hj
                        exact low.own j cb m hj hr hm
                  · intro j cb hj
                    simp only [Heap.sets, Heap.adds] at hj
                    by_cases hjx : j = nx
                    · subst hjx
                      simp only [Heap.set_same, Option.some.injEq] at hj
                      subst hj
                      exact ⟨l, Mu.set_same _ _ _, by omega, hnew⟩
                    · rw [Heap.set_ne _ _ hjx] at hj
                      obtain ⟨m, o1, o2, o3⟩ := hsub.box j cb hj
                      exact ⟨m, Mu.ext _ hn _ _ o1, by omega, o3.keep (Mu.ext _ hn) (f5 _ (hap j cb m hj o1))⟩
                  · intro i1 j1 b1 c1 l1 m1 p1 p2 p3 p4 p5 p6
                    simp only [Heap.sets, Heap.adds] at p1 p3
                    by_cases hi1 : i1 = nx
                    · subst hi1
                      rw [Mu.set_same] at p5
                      cases p5
                      rw [Heap.set_ne _ _ (Ne.symm p4)] at p3
                      rw [Mu.set_ne _ _ (Ne.symm p4)] at p6
                      exact fun hq => hap j1 c1 m1 p3 p6 hq.symm
                    · rw [Heap.set_ne _ _ hi1] at p1
                      rw [Mu.set_ne _ _ hi1] at p5
                      by_cases hj1 : j1 = nx
                      · subst hj1
                        rw [Mu.set_same] at p6
                        cases p6
                        exact hap i1 b1 l1 p1 p5
                      · rw [Heap.set_ne _ _ hj1] at p3
                        rw [Mu.set_ne _ _ hj1] at p6
                        exact hsub.apart i1 j1 b1 c1 l1 m1 p1 p2 p3 p4 p5 p6
                  · refine ⟨Mu.ext _ hn, fun j m h1 h2 => ?_, fun j m h1 h2 => ?_, f7, f8, f9, by omega, fun k _ hq => f5 k fun he => hq ⟨id, by simp, l, hl, he.symm⟩⟩
                    · by_cases hj : j = nx
                      · simp; omega
                      · rw [Mu.set_ne _ _ hj, h2] at h1; cases h1
                    · by_cases hj : j = nx
                      · subst hj
                        rw [Mu.set_same] at h1
                        cases h1
                        exact .inr ⟨id, by simp, l, hl, rfl⟩
                      · rw [Mu.set_ne _ _ hj, h2] at h1; cases h1
              · cases h0
        · cases h0
    · -- nil
      obtain rfl := k1.sn_inv
      split at h0
      · rename_i hn0
        cases h0
        exact ⟨_, w, μ, app_none ht hi hsrc' hn0 none 0 0 (Nat.le_refl _), Gave.pure hs k1⟩
      · rename_i hn0
        split at h0
        · rename_i hB
          cases h0
          replace hn := hn (by simp)
          obtain ⟨z1, z2⟩ := big 0 (by simpa using hB) 0 (by omega)
          have q3 := run_append_grow_src (P := P) w t u ty e i z ht hi hiz none 0 0 [] (run_firstCells_none w.drew i.size 0 0 0) x n news hsrc' (by omega) z1 z2
          obtain ⟨G1, G2, G3⟩ := grow_born (P := P) (z := z) (c := 0) (len := 0) (old := []) (olds := []) hs hn hsz hzs trivial (by simp) (by simp) hw hw1 hwl
          exact ⟨_, _, _, q3, ⟨_, Mu.set_same _ _ _, rfl, by omega, Nat.le_refl _, by omega, fun hq => by simp at hq, fun _ => Nat.le_refl _⟩, G1, G2⟩
        · cases h0
    · -- an empty one
      obtain ⟨a0, c, rfl⟩ := k1.se_inv
      split at h0
      · rename_i hn0
        cases h0
        exact ⟨_, w, μ, app_none ht hi hsrc' hn0 (some a0) 0 c (by omega), Gave.pure hs k1⟩
      · cases h0
end Go.Dm
