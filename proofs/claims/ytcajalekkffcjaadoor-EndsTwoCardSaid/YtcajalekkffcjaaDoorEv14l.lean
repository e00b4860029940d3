/- The evaluator over a small code, and that what it finds of a call holds of the machine, part 14l. -/
import Derived.Test.YtcajalekkffcjaaDoorEv13l
import Derived.Test.YtcajalekkffcjaaDoorEv14
import Derived.Test.YtcajalekkffcjaaDoorEv10f
namespace Go.Ev
open Go Go.RowKit

variable {P : Program} {rec : Rec}

theorem fillV_congr {n : Nat} {ts ts' : List Value} {op : AOp} (hc : ∀ x ∈ op.opds, aev ts x = aev ts' x) : fillV n ts op = fillV n ts' op := by
  cases op <;> simp only [AOp.opds, List.mem_cons, List.not_mem_nil, or_false, forall_eq_or_imp, forall_eq] at hc <;> (try rfl)
  case box e size x => simp only [fillV, hc]
  case buildSlice e n s z ps => simp only [fillV, partsOk_congr ps _ hc]
  case makeSlice e bytes zero a c => simp only [fillV, hc]

section
variable {b : List Nat} {base : Nat} {l : List AO} {ts0 : List Value} {h0 : H} {K : List LS} {vs : List Value} {F : List (Nat × Blk)} (D : DrawL P rec b base l ts0 h0 K vs F)
include D

/-- **Whenever it comes up, an operation does what it does in the text's order.** -/
theorem DrawL.one {S : Nat → Bool} (hcl : ∀ i j, S j = true → bit b i j = true → S i = true) {j : Nat} {o : AO} {v : Value} (hj : l[j]? = some o) (hv : vs[j]? = some v) (hS : S j = false)
    (hready : ∀ i, bit b i j = true → S i = true) {h : H} (hh : HeapIs base l K F S h) :
    ∃ h', HeapIs base l K F (fun i => S i || i == j) h' ∧ puts l vs (fun i => S i || i == j) 0 ts0 = putL o.dst v (puts l vs S 0 ts0) ∧
      (opV P rec o (puts l vs S 0 ts0) h = some (v, h') ∨
        (wantedA o.guard (puts l vs S 0 ts0) = true ∧ isFill o.op = true ∧ h.get (base + j) = none ∧ base + j < h.next ∧ ∃ ob, fillV (base + j) (puts l vs S 0 ts0) o.op = some (v, ob) ∧ h' = fillH h (base + j) ob)) := by
  have hp := D.plain o (List.mem_of_getElem? hj)
  have hjlt := (List.getElem?_eq_some_iff.1 hj).1
  obtain ⟨s, s', g1, g2, g3, g4⟩ := D.step j o v hj hv
  obtain ⟨sj, hsj, hts⟩ := D.slots j (by omega)
  rw [g1] at hsj; cases hsj
  have hu := D.uniq
  have huj := D.uniq_at j (by omega) s g1
  have hlater : ∀ i x, j < i → l[i]? = some x → bit b j i = true → S i = false := fun i x _ _ hb => by
    cases hs : S i with
    | false => rfl
    | true => have := hcl j i hs hb; rw [hS] at this; cases this
  have hlook : ∀ t ∈ o.looks, (puts l vs S 0 ts0)[t]? = s.ts[t]? := fun t ht => by
    rw [hts]
    refine puts_slot l vs _ _ 0 ts0 ts0 (fun i x hi hd => ?_) rfl rfl
    simp only [Nat.zero_add]
    rcases Nat.lt_trichotomy i j with hlt | rfl | hgt
    · rw [blt_t hlt]
      rcases (D.pair i j x o hlt hi hj).1 with hb | ha
      · exact hready i hb
      · simp only [apartA, Bool.and_eq_true] at ha
        exact absurd ht (notIn_spec ha.1.1 hd)
    · rw [hS, blt_f (Nat.le_refl _)]
    · rw [blt_f (Nat.le_of_lt hgt)]
      rcases (D.pair j i o x hgt hj hi).1 with hb | ha
      · exact hlater i x hgt hi hb
      · simp only [apartA, Bool.and_eq_true] at ha
        exact absurd ht (notIn_spec ha.1.2 hd)
  have hwc : wantedA o.guard (puts l vs S 0 ts0) = wantedA o.guard s.ts := by
    unfold wantedA
    cases hg : o.guard with
    | none => rfl
    | some q =>
      obtain ⟨t, bb⟩ := q
      have := hlook t (by simp [AO.looks, hg])
      simp only [this]
  have hcongr : ∀ h, opV P rec o (puts l vs S 0 ts0) h = opV P rec o s.ts h := fun h => opV_congr hp hlook
  have hadd := puts_add (ts := ts0) hj hv hS (fun i o' hi hl hs t hd hd' => by
    rcases (D.pair j i o o' hi hj hl).1 with hb | ha
    · have := hlater i o' hi hl hb; rw [hs] at this; cases this
    · simp only [apartA, Bool.and_eq_true] at ha
      rw [hd, hd'] at ha
      simp at ha)
  have hlc := lcsS_add l S 0 j o hj (by simpa using hS)
  simp only [Nat.zero_add] at hlc
  -- the strong operations that have come up are the first ones
  have hfirst : ∀ i x, l[i]? = some x → strong x = true → S i = true → ∀ m, m ≤ l.length → LexS l m = lcsS l S 0 → i < m := by
    intro i x hi hx hsi m hm hL
    rcases Nat.lt_or_ge i m with h1 | h1
    · exact h1
    · exfalso
      -- then all strong ones ahead of i have come up, and i itself: more than there are ahead of m
      have e1 : LexS l m ≤ LexS l i := lcsS_mono _ _ _ _ fun k _ _ _ hk => by simp [Nat.blt_eq] at hk ⊢; omega
      have e2 : LexS l (i + 1) = LexS l i + 1 := by rw [D.lex_succ hi, hx]; rfl
      have e3 : LexS l (i + 1) ≤ lcsS l S 0 := lcsS_mono _ _ _ _ fun k y hk hy hb => by
        simp only [Nat.zero_add, Nat.blt_eq] at hb ⊢
        by_cases e : k = i
        · subst e; exact hsi
        · rcases (D.pair k i y x (by omega) hk hi).2 with hb' | hb' | hb'
          · exact hcl k i hsi hb'
          · rw [hy] at hb'; cases hb'
          · rw [hx] at hb'; cases hb'
      omega
  have hnone : ∀ m sm, m ≤ l.length → K[m]? = some sm → LexS l m = lcsS l S 0 → sm.h.get (base + j) = none := by
    intro m sm hm hsm hL
    cases hg : sm.h.get (base + j) with
    | none => rfl
    | some c =>
      exfalso
      obtain ⟨i, x, hi, hx, hst, hb⟩ := (D.hole m hm sm hsm).2 j hjlt (by rw [hg]; simp)
      have hi1 := D.back j i hb
      -- i has come up: it is strong, and ahead of m
      have hsi : S i = true := by
        cases hsi : S i with
        | true => rfl
        | false =>
          exfalso
          have e2 : LexS l (i + 1) = LexS l i + 1 := by rw [D.lex_succ hx, hst]; rfl
          have e1 : LexS l (i + 1) ≤ LexS l m := lcsS_mono _ _ _ _ fun k _ _ _ hk => by simp [Nat.blt_eq] at hk ⊢; omega
          have e3 : lcsS l S 0 ≤ LexS l i := lcsS_mono _ _ _ _ fun k y hk hy hbk => by
            simp only [Nat.zero_add, Nat.blt_eq] at hbk ⊢
            rcases Nat.lt_trichotomy k i with h1 | h1 | h1
            · exact h1
            · subst h1; rw [hbk] at hsi; cases hsi
            · exfalso
              rcases (D.pair i k x y h1 hx hk).2 with hb' | hb' | hb'
              · have := hcl i k hbk hb'; rw [hsi] at this; cases this
              · rw [hst] at hb'; cases hb'
              · rw [hy] at hb'; cases hb'
          omega
      have := hcl j i hsi hb
      rw [hS] at this; cases this
  -- an operation that is no filling leaves the plugging as it is
  have hplug : (∀ c, (j, c) ∉ F) → ∀ hx : H, ∀ i, (plugs (fun i => S i || i == j) base F hx).get i = (plugs S base F hx).get i := by
    intro hno hx i
    cases hg : (plugs S base F hx).get i with
    | some c => exact plugs_sub (q := fun i => S i || i == j) hu hu (fun k c hm hp => ⟨hm, by simp [hp]⟩) hg
    | none =>
      cases hg2 : (plugs (fun i => S i || i == j) base F hx).get i with
      | none => rfl
      | some c =>
        have := plugs_sub (q := S) hu hu (fun k c hm hp => ⟨hm, by
          simp only [Bool.or_eq_true, beq_iff_eq] at hp
          rcases hp with hp | rfl
          · exact hp
          · exact absurd hm (hno c)⟩) hg2
        rw [hg] at this; cases this
  have hnof : isFill o.op = false → ∀ c, (j, c) ∉ F := by
    intro hf c hm
    have h1 := ((D.made (m := j + 1) (by omega) g2 j c).2 ⟨hm, by omega⟩)
    rcases g4 with ⟨_, _, _, hF⟩ | ⟨_, hf', _⟩ | ⟨_, _, hF, _⟩
    · rw [hF] at h1; have := D.made_lt j (by omega) s g1 j c h1; omega
    · rw [hf] at hf'; cases hf'
    · rw [hF] at h1; have := D.made_lt j (by omega) s g1 j c h1; omega
  obtain ⟨m0, sm0, hm0, hsm0, hL0, hnx, hget⟩ := hh
  have hh : HeapIs base l K F S h := ⟨m0, sm0, hm0, hsm0, hL0, hnx, hget⟩
  -- quiet: nothing turns
  have stay : (∀ c, (j, c) ∉ F) → strong o = false → HeapIs base l K F (fun i => S i || i == j) h := by
    intro hno hq
    refine ⟨m0, sm0, hm0, hsm0, ?_, hnx, fun i => ?_⟩
    · rw [hlc, hq, hL0]; simp
    · rw [hget i, hplug hno]
  rcases g4 with ⟨hw, rfl, hhe, hF⟩ | ⟨hw, hf, ob, hfv, hhe, hF⟩ | ⟨hw, hf, hF, h2, hx, hhe⟩
  · -- not wanted
    have hno : ∀ c, (j, c) ∉ F := by
      intro c hm
      have h1 := ((D.made (m := j + 1) (by omega) g2 j c).2 ⟨hm, by omega⟩)
      rw [hF] at h1; have := D.made_lt j (by omega) s g1 j c h1; omega
    cases hst : strong o with
    | false =>
      refine ⟨h, stay hno hst, hadd, .inl ?_⟩
      unfold opV
      rw [if_neg (by rw [hwc, hw]; simp)]
    | true =>
      refine ⟨h, ⟨j + 1, s', by omega, g2, ?_, ?_⟩, hadd, .inl ?_⟩
      · have hk : lcsS l S 0 = LexS l j := lcsS_congr _ _ _ _ fun i x hi hl => by
          simp only [Nat.zero_add]
          rcases Nat.lt_trichotomy i j with hlt | rfl | hgt
          · rw [blt_t hlt]
            rcases (D.pair i j x o hlt hi hj).2 with hb | ha | ha
            · exact hready i hb
            · rw [hl] at ha; cases ha
            · rw [hst] at ha; cases ha
          · rw [hS, blt_f (Nat.le_refl _)]
          · rw [blt_f (Nat.le_of_lt hgt)]
            rcases (D.pair j i o x hgt hj hi).2 with hb | ha | ha
            · exact hlater i x hgt hi hb
            · rw [hst] at ha; cases ha
            · rw [hl] at ha; cases ha
        rw [D.lex_succ hj, hlc, hk, hst]
      · have hk : LexS l j = lcsS l S 0 := by
          refine (lcsS_congr _ _ _ _ fun i x hi hl => ?_).symm
          simp only [Nat.zero_add]
          rcases Nat.lt_trichotomy i j with hlt | rfl | hgt
          · rw [blt_t hlt]
            rcases (D.pair i j x o hlt hi hj).2 with hb | ha | ha
            · exact hready i hb
            · rw [hl] at ha; cases ha
            · rw [hst] at ha; cases ha
          · rw [hS, blt_f (Nat.le_refl _)]
          · rw [blt_f (Nat.le_of_lt hgt)]
            rcases (D.pair j i o x hgt hj hi).2 with hb | ha | ha
            · exact hlater i x hgt hi hb
            · rw [hst] at ha; cases ha
            · rw [hl] at ha; cases ha
        obtain ⟨e1, e2⟩ := D.heap_at hh (m := j) g1 hk
        rw [hhe]
        exact ⟨e1, fun i => by rw [e2 i, hplug hno]⟩
      · unfold opV
        rw [if_neg (by rw [hwc, hw]; simp)]
  · -- new memory
    have hfc : fillV (base + j) (puts l vs S 0 ts0) o.op = fillV (base + j) s.ts o.op := fillV_congr fun x hx => by
      cases x with
      | tmp t =>
        have := hlook t (by simp only [AO.looks, List.mem_append]; exact .inr (mem_tmpsOf hx))
        simp only [aev, List.getD_eq_getElem?_getD, this]
      | _ => rfl
    have hst : strong o = false := by simp [strong, hf]
    have hg0 := hnone m0 sm0 hm0 hsm0 hL0
    have hgn : h.get (base + j) = none := by
      rw [hget]
      cases hg : (plugs S base F sm0.h).get (base + j) with
      | none => rfl
      | some c =>
        rcases plugs_get hu hg with h1 | ⟨_, k, hk, _, hsk⟩
        · rw [hg0] at h1; cases h1
        · have : k = j := by omega
          subst this
          rw [hS] at hsk; cases hsk
    have hroom := (D.hole m0 hm0 sm0 hsm0).1
    refine ⟨fillH h (base + j) ob, ?_, hadd, .inr ⟨by rw [hwc]; exact hw, hf, hgn, by omega, ob, by rw [hfc]; exact hfv, rfl⟩⟩
    cases ob with
    | none =>
      have hno : ∀ c, (j, c) ∉ F := by
        intro c hm
        have h1 := ((D.made (m := j + 1) (by omega) g2 j c).2 ⟨hm, by omega⟩)
        rw [hF] at h1
        simp at h1
        have := D.made_lt j (by omega) s g1 j c h1; omega
      exact stay hno hst
    | some c =>
      have hmem : (j, c) ∈ F := by
        refine ((D.made (m := j + 1) (by omega) g2 j c).1 ?_).1
        rw [hF]; simp
      refine ⟨m0, sm0, hm0, hsm0, by rw [hlc, hst, hL0]; simp, hnx, fun i => ?_⟩
      by_cases e : i = base + j
      · subst e
        rw [plugs_get_made hu hmem (by simp) hg0]
        exact H.get_set_same _ _ _
      · have e1 : (fillH h (base + j) (some c)).get i = h.get i := H.get_set_ne h c (Ne.symm e)
        rw [e1, hget i]
        cases hg : (plugs S base F sm0.h).get i with
        | some d => exact (plugs_sub (q := fun i => S i || i == j) hu hu (fun k c hm hp => ⟨hm, by simp [hp]⟩) hg).symm
        | none =>
          cases hg2 : (plugs (fun i => S i || i == j) base F sm0.h).get i with
          | none => rfl
          | some d =>
            exfalso
            rcases plugs_get hu hg2 with h1 | ⟨hn, k, hk, hkm, hsk⟩
            · rw [plugs_get_some h1] at hg; cases hg
            · simp only [Bool.or_eq_true, beq_iff_eq] at hsk
              rcases hsk with hsk | rfl
              · subst hk
                rw [plugs_get_made hu hkm hsk hn] at hg; cases hg
              · exact e hk
  · -- the rest
    have hno := hnof hf
    have hanc : ∀ (F' : List (Nat × Blk)), Uniq F' → (∀ k c, (k, c) ∈ F' → bitOf b k j = true → (k, c) ∈ F) → ∀ (sm : LS), ∀ i c, (plugs (fun k => bitOf b k j) base F' sm.h).get i = some c → (plugs S base F sm.h).get i = some c :=
      fun F' hu' hF' sm i c hg => plugs_sub hu hu' (fun k c hm hb => ⟨hF' k c hm hb, hready k hb⟩) hg
    have hFj : ∀ k c, (k, c) ∈ s.F → bitOf b k j = true → (k, c) ∈ F := fun k c hm _ => ((D.made (m := j) (by omega) g1 k c).1 hm).1
    cases hq : loud o.op with
    | true =>
      have hst : strong o = true := by simp [strong, hq, hf]
      have hk : LexS l j = lcsS l S 0 := by
        refine (lcsS_congr _ _ _ _ fun i x hi hl => ?_).symm
        simp only [Nat.zero_add]
        rcases Nat.lt_trichotomy i j with hlt | rfl | hgt
        · rw [blt_t hlt]
          rcases (D.pair i j x o hlt hi hj).2 with hb | ha | ha
          · exact hready i hb
          · rw [hl] at ha; cases ha
          · rw [hst] at ha; cases ha
        · rw [hS, blt_f (Nat.le_refl _)]
        · rw [blt_f (Nat.le_of_lt hgt)]
          rcases (D.pair j i o x hgt hj hi).2 with hb | ha | ha
          · exact hlater i x hgt hi hb
          · rw [hst] at ha; cases ha
          · rw [hl] at ha; cases ha
      obtain ⟨e1, e2⟩ := D.heap_at hh (m := j) g1 hk
      have hroom := (D.hole j (by omega) s g1).1
      have hP : Plus (diffX (plugs (fun k => bitOf b k j) base s.F s.h) h) (plugs (fun k => bitOf b k j) base s.F s.h) h := by
        refine diff_plus (by rw [plugs_next, e1]) (fun i c hg => by rw [e2 i]; exact hanc s.F huj hFj s i c hg) (fun i hn hne => ?_)
        obtain ⟨c, hc⟩ := Option.ne_none_iff_exists'.1 hne
        rw [e2 i] at hc
        rw [plugs_next]
        rcases plugs_get hu hc with h1 | ⟨_, k, rfl, hkm, _⟩
        · rw [plugs_get_some h1] at hn; cases hn
        · have hkl : k < l.length := by
            obtain ⟨se, hse, hseF⟩ := D.fin
            rw [← hseF] at hkm
            exact D.made_lt _ (Nat.le_refl _) se hse k c hkm
          omega
      have hlow : ∀ i, i < P.globals.size → (diffX (plugs (fun k => bitOf b k j) base s.F s.h) h).f i = none := by
        intro i hi
        unfold diffX
        simp only
        split
        · rename_i hn
          cases hc : h.get i with
          | none => rfl
          | some c =>
            exfalso
            rw [e2 i] at hc
            rcases plugs_get hu hc with h1 | ⟨_, k, rfl, _, _⟩
            · rw [plugs_get_some h1] at hn; cases hn
            · have := D.glob; omega
        · rfl
      obtain ⟨h', hx', hP'⟩ := opV_plus D.mono hlow hP hx
      refine ⟨h', ⟨j + 1, s', by omega, g2, by rw [D.lex_succ hj, hlc, hk, hst], ?_⟩, hadd, .inl (by rw [hcongr]; exact hx')⟩
      rw [hq] at hhe
      simp only [cond_true] at hhe
      rw [hhe]
      refine ⟨hP'.1, fun i => ?_⟩
      rw [hplug hno]
      have hi := hP'.2.1 i
      have hkeep : ∀ k, (plugs (fun k => bitOf b k j) base s.F s.h).get k ≠ none → h2.get k ≠ none := fun k hk => hP'.2.2.1 k hk
      cases hg : h2.get i with
      | some c =>
        rw [plugs_get_some hg]
        split at hi
        · rw [hi.1] at hg; cases hg
        · rw [hi, hg]
      | none =>
        have hn0 : (plugs (fun k => bitOf b k j) base s.F s.h).get i = none := by
          cases hc : (plugs (fun k => bitOf b k j) base s.F s.h).get i with
          | none => rfl
          | some c => exact absurd hg (hkeep i (by rw [hc]; simp))
        have hX : (diffX (plugs (fun k => bitOf b k j) base s.F s.h) h).f i = h.get i := by
          unfold diffX; simp only [hn0]
        rw [hX] at hi
        have hs0 : s.h.get i = none := by
          cases hc : s.h.get i with
          | none => rfl
          | some c => rw [plugs_get_some hc] at hn0; cases hn0
        have htarget : h'.get i = h.get i := by
          cases hc : h.get i with
          | none => rw [hc] at hi; simp only at hi; rw [hi, hg]
          | some c => rw [hc] at hi; simp only at hi; exact hi.2.1
        rw [htarget, e2 i]
        cases hc : (plugs S base F s.h).get i with
        | some c =>
          rcases plugs_get hu hc with h1 | ⟨_, k, rfl, hkm, hsk⟩
          · rw [hs0] at h1; cases h1
          · exact (plugs_get_made hu hkm hsk hg).symm
        | none =>
          cases hc2 : (plugs S base F h2).get i with
          | none => rfl
          | some c =>
            exfalso
            rcases plugs_get hu hc2 with h1 | ⟨_, k, rfl, hkm, hsk⟩
            · rw [hg] at h1; cases h1
            · rw [plugs_get_made hu hkm hsk hs0] at hc; cases hc
    | false =>
      have hst : strong o = false := by simp [strong, hq]
      refine ⟨h, stay hno hst, hadd, .inl ?_⟩
      rw [hcongr]
      have hlow : ∀ (hq' : H), (∀ i c, hq'.get i = some c → h.get i = some c) → (∀ i, i < P.globals.size → hq'.get i = none → h.get i = none) → ∀ i, i < P.globals.size → (diffX hq' h).f i = none := by
        intro hq' _ hg i hi
        unfold diffX
        simp only
        split
        · rename_i hn; exact hg i hi hn
        · rfl
      unfold opV at hx ⊢
      rw [if_pos hw] at hx ⊢
      have key : aexec P s.ts (plugs (fun j_1 => bitOf b j_1 j) base s.F s.h) o.op = some (v, h2) → aexec P s.ts h o.op = some (v, h) := fun hx => by
        cases hn : needsHeap o.op with
        | false => exact aexec_any hq hn hx h
        | true =>
          have hload : ∀ hq' : H, (∀ p n cs, hq'.cells p n = some cs → h.cells p n = some cs) → (∀ v, sliceCells hq' v ≠ none → sliceCells h v = sliceCells hq' v) → (∀ i c, hq'.get i = some c → h.get i = some c) → aexec P s.ts hq' o.op = some (v, hq') → aexec P s.ts h o.op = some (v, h) := by
            intro hq' h1 h1' h2' h3
            cases hop : o.op <;> rw [hop] at hn h3 <;> simp only [needsHeap, Bool.false_eq_true] at hn <;> simp only [aexec] at h3 ⊢
            case lookup kt zero ok m k =>
              split at h3
              · rename_i es hes
                have hat : h.mapAt (aev s.ts m) = some es := by
                  unfold H.mapAt at hes ⊢
                  split at hes
                  · exact hes
                  · split at hes
                    · rename_i hg; rw [h2' _ _ hg]; exact hes
                    · cases hes
                  · cases hes
                rw [hat]
                simp only at h3 ⊢
                obtain ⟨y, hy, he⟩ := map_some_iff h3
                simp only [Prod.mk.injEq, and_true] at he
                rw [hy, ← he]; rfl
              · cases h3
            case load agg n a =>
              split at h3
              · split at h3
                · rename_i cs hcs
                  rw [h1 _ _ _ hcs]
                  cases agg with
                  | true => simp only [if_true, Option.some.injEq, Prod.mk.injEq, and_true] at h3 ⊢; exact h3
                  | false =>
                    simp only [Bool.false_eq_true, if_false] at h3 ⊢
                    obtain ⟨w, hw', he⟩ := map_some_iff h3
                    simp only [Prod.mk.injEq, and_true] at he
                    rw [hw', he]; rfl
                · cases h3
              · cases h3
            case bytesStr x =>
              split at h3
              · rename_i cs hcs
                rw [h1' _ (by rw [hcs]; simp), hcs]
                simp only
                obtain ⟨w, hw', he⟩ := map_some_iff h3
                simp only [Prod.mk.injEq, and_true] at he
                rw [hw', ← he]; rfl
              · cases h3
            case ptrUnsafe x =>
              split at h3
              · simp only [Option.some.injEq, Prod.mk.injEq, and_true] at h3 ⊢; exact h3
              · split at h3
                · rename_i e3 e4
                  rw [h2' _ _ e4, e3]
                  simp only
                  split at h3
                  · rename_i hc; rw [if_pos hc]; simp only [Option.some.injEq, Prod.mk.injEq, and_true] at h3 ⊢; exact h3
                  · cases h3
                · cases h3
              · cases h3
            case unsafePtr u x =>
              split at h3
              · simp only [Option.some.injEq, Prod.mk.injEq, and_true] at h3 ⊢; exact h3
              · split at h3
                · rename_i e3 e4
                  rw [h2' _ _ e4, e3]
                  simp only
                  split at h3
                  · rename_i hc; rw [if_pos hc]; simp only [Option.some.injEq, Prod.mk.injEq, and_true] at h3 ⊢; exact h3
                  · cases h3
                · cases h3
              · cases h3
          have hroom := (D.hole j (by omega) s g1).1
          have hsubs : ∀ (F' : List (Nat × Blk)) (hu' : Uniq F') (hF' : ∀ k c, (k, c) ∈ F' → bitOf b k j = true → (k, c) ∈ F) (sm : LS) (m : Nat), m ≤ l.length → K[m]? = some sm → (h.next = sm.h.next ∧ ∀ i, h.get i = (plugs S base F sm.h).get i) →
              Plus (diffX (plugs (fun k => bitOf b k j) base F' sm.h) h) (plugs (fun k => bitOf b k j) base F' sm.h) h := by
            intro F' hu' hF' sm m hm hsm he
            refine diff_plus (by rw [plugs_next, he.1]) (fun i c hg => by rw [he.2 i]; exact hanc F' hu' hF' sm i c hg) (fun i hn hne => ?_)
            obtain ⟨c, hc⟩ := Option.ne_none_iff_exists'.1 hne
            rw [he.2 i] at hc
            rw [plugs_next]
            have hr := (D.hole m hm sm hsm).1
            rcases plugs_get hu hc with h1 | ⟨_, k, rfl, hkm, _⟩
            · rw [plugs_get_some h1] at hn; cases hn
            · have hkl : k < l.length := by
                obtain ⟨se, hse, hseF⟩ := D.fin
                rw [← hseF] at hkm
                exact D.made_lt _ (Nat.le_refl _) se hse k c hkm
              omega
          have fin : ∀ hq' : H, Plus (diffX hq' h) hq' h → aexec P s.ts hq' o.op = some (v, hq') → aexec P s.ts h o.op = some (v, h) := by
            intro hq' hP h3
            refine hload hq' (fun p n cs hc => hP.cells hc) (fun v hv => ?_) (fun i c hc => hP.get hc) h3
            obtain ⟨x, hx⟩ := Option.ne_none_iff_exists'.1 hv
            rw [hx, hP.slc hx]
          have e0 := aexec_quiet hq hx
          subst e0
          by_cases hk : LexS l j = lcsS l S 0
          · exact fin _ (hsubs s.F huj hFj s j (by omega) g1 (D.heap_at hh g1 hk)) hx
          · obtain ⟨m', hmr, hmle, hLm'⟩ := D.rep m0 hm0
            obtain ⟨sm', hsm', _⟩ := D.slots m' (by omega)
            have hheap : sm0.h = sm'.h := D.heap_eq m' m0 sm' sm0 hmle hLm' hsm' hsm0
            have hlo : lcsS l (fun i => bit b i j) 0 ≤ lcsS l S 0 := lcsS_mono _ _ _ _ fun i _ _ _ hb => hready _ hb
            have hhi : lcsS l S 0 ≤ lcsS l (fun i => !(bit b j i)) 0 := lcsS_mono _ _ _ _ fun i _ _ _ hs => by
              simp only [Nat.zero_add] at hs ⊢
              cases hb : bit b j i with
              | false => rfl
              | true => have := hcl j i hs hb; rw [hS] at this; cases this
            have hmem : (j, m') ∈ checksAtL b l o j := by
              unfold checksAtL
              rw [hq, hn]
              simp only [Bool.not_true, Bool.or_self, Bool.false_eq_true, if_false, List.mem_map, List.mem_filter]
              refine ⟨m', ⟨hmr, ?_⟩, rfl⟩
              have e1 : lcsS l (fun j => Nat.blt j m') 0 = lcsS l S 0 := hLm'.trans hL0
              rw [e1]
              simp only [Bool.and_eq_true, Nat.ble_eq, Bool.not_eq_true']
              refine ⟨⟨hlo, hhi⟩, ?_⟩
              cases hbe : Nat.beq (lcsS l S 0) (lcsS l (fun i => Nat.blt i j) 0) with
              | false => rfl
              | true => exact absurd (Nat.eq_of_beq_eq_true hbe).symm hk
            have hck := D.checks j o hj _ hmem
            unfold checkL at hck
            simp only [hj, g1, hsm'] at hck
            rw [if_pos hw] at hck
            have hP := hsubs F hu (fun k c hm _ => hm) sm' m' (by omega) hsm' (by rw [← hheap]; exact ⟨hnx, hget⟩)
            have hanc2 : ∀ p n cs, (plugs (fun k => bitOf b k j) base s.F s.h).cells p n = some cs → (plugs (fun k => bitOf b k j) base F s.h).cells p n = some cs := by
              intro p n cs hc
              unfold H.cells at hc ⊢
              split at hc
              · rename_i xs hs' hb'
                obtain ⟨bk, hb1, hb2⟩ := Option.bind_eq_some_iff.1 hb'
                rw [hs', plugs_sub (q := fun k => bitOf b k j) hu huj (fun k c hm hb => ⟨hFj k c hm hb, hb⟩) hb1]
                simp only [Option.bind_some, hb2]
                exact hc
              · cases hc
            cases hop : o.op <;> rw [hop] at hck hx <;> simp only [Bool.false_eq_true] at hck
            rename_i agg n x
            simp only [aexec] at hx ⊢
            split at hck
            · rename_i p hpp
              rw [hpp] at hx ⊢
              simp only at hx ⊢
              unfold sameCells at hck
              split at hck
              · rename_i c1 c2 e1 e2
                have := eqVs_sound hck
                subst this
                rw [hP.cells e2]
                split at hx
                · rename_i cs hcs
                  have := hanc2 _ _ _ hcs
                  rw [e1] at this
                  cases this
                  cases agg with
                  | true => simp only [if_true, Option.some.injEq, Prod.mk.injEq, and_true] at hx ⊢; exact hx
                  | false =>
                    simp only [Bool.false_eq_true, if_false] at hx ⊢
                    obtain ⟨v', hv', he⟩ := map_some_iff hx
                    simp only [Prod.mk.injEq, and_true] at he
                    rw [hv', he]; rfl
                · cases hx
              · cases hck
            · cases hck
      cases hop : o.op <;> rw [hop] at hx key hq <;> simp only at hx ⊢ <;> first | exact key hx | (simp only [loud, Bool.true_eq_false] at hq; done) | skip
      obtain ⟨gf, rfl, hpf⟩ := D.pcalls o (List.mem_of_getElem? hj) _ _ hop
      split at hx
      · rename_i v' rc1 h1' hcall
        cases hx
        have := (D.pok _ _ _ _ _ _ hpf hcall).2 h
        simp only [aev] at this ⊢
        rw [this]
      · cases hx
end

end Go.Ev
