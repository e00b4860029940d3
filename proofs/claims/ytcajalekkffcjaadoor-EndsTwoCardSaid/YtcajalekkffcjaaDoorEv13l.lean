/- The evaluator over a small code, and that what it finds of a call holds of the machine, part 13l. -/
import Derived.Test.YtcajalekkffcjaaDoorEv13
import Derived.Test.YtcajalekkffcjaaDoorEv11m
namespace Go.Ev
open Go Go.RowKit

variable {P : Program} {rec : Rec}

/-! ### How many strong ones -/
theorem lcsS_congr : ∀ (l : List AO) (p q : Nat → Bool) (i : Nat), (∀ j o, l[j]? = some o → strong o = true → p (i + j) = q (i + j)) → lcsS l p i = lcsS l q i
  | [], _, _, _, _ => rfl
  | o :: r, p, q, i, h => by
    simp only [lcsS]
    rw [lcsS_congr r p q (i + 1) (fun j o' hj hl => by have := h (j + 1) o' (by simpa using hj) hl; rwa [show i + 1 + j = i + (j + 1) by omega])]
    cases hl : strong o with
    | false => simp
    | true => have := h 0 o rfl hl; simp only [Nat.add_zero] at this; rw [this]

theorem lcsS_mono : ∀ (l : List AO) (p q : Nat → Bool) (i : Nat), (∀ j o, l[j]? = some o → strong o = true → p (i + j) = true → q (i + j) = true) → lcsS l p i ≤ lcsS l q i
  | [], _, _, _, _ => Nat.le_refl _
  | o :: r, p, q, i, h => by
    simp only [lcsS]
    have ih := lcsS_mono r p q (i + 1) (fun j o' hj hl hp => by have := h (j + 1) o' (by simpa using hj) hl (by rwa [show i + (j + 1) = i + 1 + j by omega]); rwa [show i + 1 + j = i + (j + 1) by omega])
    cases hl : strong o with
    | false => simpa using ih
    | true =>
      have := h 0 o rfl hl
      simp only [Nat.add_zero] at this
      cases hp : p i with
      | false => simp; omega
      | true => rw [this hp]; simp; omega

theorem lcsS_add : ∀ (l : List AO) (p : Nat → Bool) (i j : Nat) (o : AO), l[j]? = some o → p (i + j) = false →
    lcsS l (fun m => p m || m == i + j) i = lcsS l p i + (if strong o then 1 else 0)
  | [], _, _, _, _, h, _ => by simp at h
  | o :: r, p, i, 0, o', h, hp => by
    simp only [List.getElem?_cons_zero, Option.some.injEq] at h
    subst h
    simp only [Nat.add_zero] at hp ⊢
    simp only [lcsS, hp, beq_self_eq_true, Bool.or_true, Bool.and_true]
    have : lcsS r (fun m => p m || m == i) (i + 1) = lcsS r p (i + 1) := lcsS_congr _ _ _ _ fun j o' _ _ => by
      have : (i + 1 + j == i) = false := by simp; omega
      simp [this]
    rw [this]
    cases strong o <;> simp [Nat.add_comm]
  | o :: r, p, i, j + 1, o', h, hp => by
    simp only [List.getElem?_cons_succ] at h
    have ih := lcsS_add r p (i + 1) j o' h (by rwa [show i + 1 + j = i + (j + 1) by omega])
    rw [show i + 1 + j = i + (j + 1) by omega] at ih
    simp only [lcsS, ih]
    have : (i == i + (j + 1)) = false := by simp
    simp only [this, Bool.or_false]
    omega

theorem mem_repsS : ∀ (l : List AO) (i j : Nat) (o : AO), l[j]? = some o → strong o = true → (i + j + 1) ∈ repsS l i
  | [], _, _, _, h, _ => by simp at h
  | o :: r, i, 0, o', h, hl => by
    simp only [List.getElem?_cons_zero, Option.some.injEq] at h
    subst h
    simp [repsS, hl]
  | o :: r, i, j + 1, o', h, hl => by
    simp only [List.getElem?_cons_succ] at h
    have := mem_repsS r (i + 1) j o' h hl
    rw [show i + 1 + j + 1 = i + (j + 1) + 1 by omega] at this
    simp only [repsS]
    split
    · exact List.mem_cons_of_mem _ this
    · exact this


/-! ### What was made -/
theorem plugs_next (p : Nat → Bool) (base : Nat) : ∀ (F : List (Nat × Blk)) (h : H), (plugs p base F h).next = h.next
  | [], _ => rfl
  | (j, b) :: F, h => by
    simp only [plugs]
    rw [plugs_next p base F]
    cases p j with
    | true => simp only [cond_true, plug]; split <;> rfl
    | false => rfl

theorem plug_get_some {h : H} {r i : Nat} {b c : Blk} (hg : h.get i = some c) : (plug h r b).get i = some c := by
  unfold plug
  split
  · rename_i hn
    have : r ≠ i := fun e => by subst e; rw [hn] at hg; cases hg
    rw [H.get_set_ne h b this]; exact hg
  · exact hg

theorem plugs_get_some {p : Nat → Bool} {base i : Nat} {c : Blk} : ∀ {F : List (Nat × Blk)} {h : H}, h.get i = some c → (plugs p base F h).get i = some c
  | [], _, hg => hg
  | (j, b) :: F, h, hg => by
    simp only [plugs]
    refine plugs_get_some ?_
    cases p j with
    | true => exact plug_get_some hg
    | false => exact hg

theorem plug_get_ne {h : H} {r i : Nat} {b : Blk} (hne : i ≠ r) : (plug h r b).get i = h.get i := by
  unfold plug
  split
  · exact H.get_set_ne h b (Ne.symm hne)
  · rfl

theorem plugs_get_other {p : Nat → Bool} {base i : Nat} : ∀ {F : List (Nat × Blk)} {h : H}, (∀ j b, (j, b) ∈ F → p j = true → i ≠ base + j) → (plugs p base F h).get i = h.get i
  | [], _, _ => rfl
  | (j, b) :: F, h, hne => by
    simp only [plugs]
    rw [plugs_get_other (fun j' b' hm hp => hne j' b' (List.mem_cons_of_mem _ hm) hp)]
    cases hp : p j with
    | true => exact plug_get_ne (hne j b (List.mem_cons_self ..) hp)
    | false => rfl

/-- No number twice. -/
def Uniq (F : List (Nat × Blk)) : Prop := ∀ j b b', (j, b) ∈ F → (j, b') ∈ F → b = b'

theorem plugs_get_made {p : Nat → Bool} {base j : Nat} {b : Blk} : ∀ {F : List (Nat × Blk)} {h : H}, Uniq F → (j, b) ∈ F → p j = true → h.get (base + j) = none → (plugs p base F h).get (base + j) = some b
  | (j', b') :: F, h, hu, hm, hp, hg => by
    simp only [plugs]
    by_cases e : j' = j
    · subst e
      have hb : b' = b := hu j' b' b (List.mem_cons_self ..) hm
      subst hb
      rw [hp]
      simp only [cond_true]
      have : (plug h (base + j') b').get (base + j') = some b' := by unfold plug; rw [hg]; exact H.get_set_same _ _ _
      exact plugs_get_some this
    · have hm' : (j, b) ∈ F := by
        rcases List.mem_cons.1 hm with h1 | h1
        · simp only [Prod.mk.injEq] at h1; exact absurd h1.1.symm e
        · exact h1
      refine plugs_get_made (fun j b b' h1 h2 => hu j b b' (List.mem_cons_of_mem _ h1) (List.mem_cons_of_mem _ h2)) hm' hp ?_
      cases p j' with
      | true => simp only [cond_true]; rw [plug_get_ne (by omega)]; exact hg
      | false => exact hg

/-- What lies there after the plugging. -/
theorem plugs_get {p : Nat → Bool} {base i : Nat} {F : List (Nat × Blk)} {h : H} (hu : Uniq F) {c : Blk} (hg : (plugs p base F h).get i = some c) :
    h.get i = some c ∨ (h.get i = none ∧ ∃ j, i = base + j ∧ (j, c) ∈ F ∧ p j = true) := by
  cases hh : h.get i with
  | some d => rw [plugs_get_some hh] at hg; exact .inl hg
  | none =>
    right
    by_cases he : ∃ j b, (j, b) ∈ F ∧ p j = true ∧ i = base + j
    · obtain ⟨j, b, h1, h2, rfl⟩ := he
      rw [plugs_get_made hu h1 h2 hh] at hg
      cases hg
      exact ⟨rfl, j, rfl, h1, h2⟩
    · rw [plugs_get_other (fun j b h1 h2 e => he ⟨j, b, h1, h2, e⟩), hh] at hg
      cases hg

/-! ### The trace -/
theorem stepL_parts {b : List Nat} {base i : Nat} {o : AO} {s s' : LS} (hs : stepL P rec b base i o s = some s') :
    ∃ v, s'.ts = putL o.dst v s.ts ∧
      ((wantedA o.guard s.ts = false ∧ v = undef ∧ s'.h = s.h ∧ s'.F = s.F) ∨
       (wantedA o.guard s.ts = true ∧ isFill o.op = true ∧ ∃ ob, fillV (base + i) s.ts o.op = some (v, ob) ∧ s'.h = s.h ∧ s'.F = s.F ++ (ob.toList.map fun b => (i, b))) ∨
       (wantedA o.guard s.ts = true ∧ isFill o.op = false ∧ s'.F = s.F ∧ ∃ h', opV P rec o s.ts (plugs (fun j => bitOf b j i) base s.F s.h) = some (v, h') ∧ s'.h = (bif loud o.op then h' else s.h))) := by
  unfold stepL at hs
  split at hs
  · rename_i hw
    cases hf : isFill o.op with
    | true =>
      rw [hf] at hs
      simp only [cond_true] at hs
      obtain ⟨x, h1, rfl⟩ := map_some_iff hs
      exact ⟨x.1, rfl, .inr (.inl ⟨hw, rfl, x.2, h1, rfl, rfl⟩)⟩
    | false =>
      rw [hf] at hs
      simp only [cond_false] at hs
      obtain ⟨x, h1, rfl⟩ := map_some_iff hs
      exact ⟨x.1, rfl, .inr (.inr ⟨hw, rfl, rfl, x.2, h1, rfl⟩)⟩
  · rename_i hw
    cases hs
    exact ⟨undef, rfl, .inl ⟨by simpa using hw, rfl, rfl, rfl⟩⟩

theorem traceL_spec {b : List Nat} {base : Nat} : ∀ (l : List AO) (i : Nat) (s : LS) (K : List LS), traceL P rec b base l i s = some K →
    K.length = l.length + 1 ∧ K[0]? = some s ∧ ∀ (j : Nat) (o : AO), l[j]? = some o → ∃ sj s', K[j]? = some sj ∧ K[j + 1]? = some s' ∧ stepL P rec b base (i + j) o sj = some s'
  | [], i, s, K, ht => by
    simp only [traceL, Option.some.injEq] at ht
    subst ht
    exact ⟨rfl, rfl, fun j o h => by simp at h⟩
  | o :: r, i, s, K, ht => by
    simp only [traceL] at ht
    split at ht
    · rename_i s' hs
      obtain ⟨K', hK', rfl⟩ := map_some_iff ht
      obtain ⟨h1, h2, h3⟩ := traceL_spec r (i + 1) s' K' hK'
      refine ⟨by simp [h1], rfl, fun j o' hj => ?_⟩
      cases j with
      | zero =>
        simp only [List.getElem?_cons_zero, Option.some.injEq] at hj
        subst hj
        exact ⟨s, s', rfl, by simpa using h2, hs⟩
      | succ j =>
        have := h3 j o' (by simpa using hj)
        rw [show i + 1 + j = i + (j + 1) by omega] at this
        simpa using this
    · cases ht

theorem lastL_get : ∀ (r : List LS) (s : LS), (s :: r)[r.length]? = some (lastL s r)
  | [], _ => rfl
  | x :: r, s => by simpa [lastL] using lastL_get r x

/-! ### One operation, whenever it comes up -/
structure DrawL (P : Program) (rec : Rec) (b : List Nat) (base : Nat) (l : List AO) (ts0 : List Value) (h0 : H) (K : List LS) (vs : List Value) (F : List (Nat × Blk)) : Prop where
  plain : ∀ o ∈ l, plainOp o.op = true
  pair : ∀ (i j : Nat) (x y : AO), i < j → l[i]? = some x → l[j]? = some y → (bit b i j = true ∨ apartA x y = true) ∧ (bit b i j = true ∨ strong x = false ∨ strong y = false)
  back : ∀ i j, bit b i j = true → i < j
  vlen : vs.length = l.length
  klen : K.length = l.length + 1
  start : K[0]? = some ⟨ts0, h0, []⟩
  room : base + l.length ≤ h0.next
  glob : P.globals.size ≤ base
  bare : ∀ i, base ≤ i → h0.get i = none
  step : ∀ (i : Nat) (o : AO) (v : Value), l[i]? = some o → vs[i]? = some v → ∃ s s', K[i]? = some s ∧ K[i + 1]? = some s' ∧ s'.ts = putL o.dst v s.ts ∧
      ((wantedA o.guard s.ts = false ∧ v = undef ∧ s'.h = s.h ∧ s'.F = s.F) ∨
       (wantedA o.guard s.ts = true ∧ isFill o.op = true ∧ ∃ ob, fillV (base + i) s.ts o.op = some (v, ob) ∧ s'.h = s.h ∧ s'.F = s.F ++ (ob.toList.map fun b => (i, b))) ∨
       (wantedA o.guard s.ts = true ∧ isFill o.op = false ∧ s'.F = s.F ∧ ∃ h', opV P rec o s.ts (plugs (fun j => bitOf b j i) base s.F s.h) = some (v, h') ∧ s'.h = (bif loud o.op then h' else s.h)))
  fin : ∃ s, K[l.length]? = some s ∧ s.F = F
  checks : ∀ (i : Nat) (o : AO), l[i]? = some o → ∀ c ∈ checksAtL b l o i, checkL b base l F K c = true
  pok : PureOK P rec
  mono : MonoR P.globals.size rec
  pcalls : ∀ o ∈ l, ∀ f args, o.op = .callP f args → ∃ g, f = .func g ∧ pureF P g = true

section
variable {b : List Nat} {base : Nat} {l : List AO} {ts0 : List Value} {h0 : H} {K : List LS} {vs : List Value} {F : List (Nat × Blk)} (D : DrawL P rec b base l ts0 h0 K vs F)
include D

def LexS (l : List AO) (m : Nat) : Nat := lcsS l (fun j => Nat.blt j m) 0

theorem DrawL.lex_succ {j : Nat} {o : AO} (hj : l[j]? = some o) : LexS l (j + 1) = LexS l j + (if strong o then 1 else 0) := by
  have _ := D
  unfold LexS
  have h1 := lcsS_add l (fun m => Nat.blt m j) 0 j o hj (by rw [Nat.zero_add]; exact blt_f (Nat.le_refl _))
  rw [← h1]
  refine lcsS_congr _ _ _ _ fun m _ _ _ => ?_
  simp only [Nat.zero_add]
  rw [Bool.eq_iff_iff]
  simp only [Nat.blt_eq, Bool.or_eq_true, beq_iff_eq]
  omega

theorem DrawL.val {i : Nat} {o : AO} (hi : l[i]? = some o) : ∃ v, vs[i]? = some v := by
  have := (List.getElem?_eq_some_iff.1 hi).1
  exact ⟨vs[i]'(by rw [D.vlen]; exact this), by simp⟩

/-- The slots ahead of place m, in the text's order. -/
theorem DrawL.slots : ∀ (m : Nat), m ≤ l.length → ∃ s, K[m]? = some s ∧ s.ts = puts l vs (fun j => Nat.blt j m) 0 ts0 := by
  intro m
  induction m with
  | zero =>
    intro _
    refine ⟨_, D.start, ?_⟩
    apply List.ext_getElem?
    intro t
    exact (puts_none l vs _ 0 ts0 (fun j o _ _ => by show Nat.blt _ 0 = false; exact blt_f (Nat.zero_le _))).symm
  | succ m ih =>
    intro hm
    obtain ⟨s, hs, hts⟩ := ih (by omega)
    have hl : l[m]? = some l[m] := by simp
    obtain ⟨v, hv⟩ := D.val hl
    obtain ⟨s1, s', g1, g2, g3, _⟩ := D.step m _ v hl hv
    rw [hs] at g1; cases g1
    refine ⟨s', g2, ?_⟩
    rw [g3, hts]
    rw [← puts_add (S := fun j => Nat.blt j m) hl hv (blt_f (Nat.le_refl _)) (fun i o' hi _ hs => by rw [blt_f (by omega)] at hs; cases hs)]
    refine puts_congr fun i _ => ?_
    rw [Bool.eq_iff_iff]
    simp only [Nat.blt_eq, Bool.or_eq_true, beq_iff_eq]
    omega

/-- What was made so far is made by earlier operations. -/
theorem DrawL.made_lt : ∀ (m : Nat), m ≤ l.length → ∀ s, K[m]? = some s → ∀ j c, (j, c) ∈ s.F → j < m := by
  intro m
  induction m with
  | zero =>
    intro _ s hs j c hm
    rw [D.start] at hs; cases hs; cases hm
  | succ m ih =>
    intro hm s hs j c hmem
    have hl : l[m]? = some l[m] := by simp
    obtain ⟨v, hv⟩ := D.val hl
    obtain ⟨s1, s', g1, g2, _, g4⟩ := D.step m _ v hl hv
    rw [hs] at g2; cases g2
    have ih' := ih (by omega) s1 g1
    rcases g4 with ⟨_, _, _, hF⟩ | ⟨_, _, ob, _, _, hF⟩ | ⟨_, _, hF, _⟩
    · rw [hF] at hmem; have := ih' j c hmem; omega
    · rw [hF, List.mem_append] at hmem
      rcases hmem with hmem | hmem
      · have := ih' j c hmem; omega
      · cases ob with
        | none => cases hmem
        | some bb => simp at hmem; omega
    · rw [hF] at hmem; have := ih' j c hmem; omega

theorem DrawL.made_step {m : Nat} {s s' : LS} (hm : m < l.length) (hs : K[m]? = some s) (hs' : K[m + 1]? = some s') : ∀ j c, (j, c) ∈ s'.F → j < m → (j, c) ∈ s.F := by
  intro j c hmem hlt
  have hl : l[m]? = some l[m] := by simp
  obtain ⟨v, hv⟩ := D.val hl
  obtain ⟨s1, s2, g1, g2, _, g4⟩ := D.step m _ v hl hv
  rw [hs] at g1; cases g1
  rw [hs'] at g2; cases g2
  rcases g4 with ⟨_, _, _, hF⟩ | ⟨_, _, ob, _, _, hF⟩ | ⟨_, _, hF, _⟩
  · rwa [hF] at hmem
  · rw [hF, List.mem_append] at hmem
    rcases hmem with hmem | hmem
    · exact hmem
    · cases ob with
      | none => cases hmem
      | some bb => simp at hmem; omega
  · rwa [hF] at hmem

theorem DrawL.made_grow {m : Nat} {s s' : LS} (hm : m < l.length) (hs : K[m]? = some s) (hs' : K[m + 1]? = some s') : ∀ j c, (j, c) ∈ s.F → (j, c) ∈ s'.F := by
  intro j c hmem
  have hl : l[m]? = some l[m] := by simp
  obtain ⟨v, hv⟩ := D.val hl
  obtain ⟨s1, s2, g1, g2, _, g4⟩ := D.step m _ v hl hv
  rw [hs] at g1; cases g1
  rw [hs'] at g2; cases g2
  rcases g4 with ⟨_, _, _, hF⟩ | ⟨_, _, ob, _, _, hF⟩ | ⟨_, _, hF, _⟩
  · rwa [hF]
  · rw [hF, List.mem_append]; exact .inl hmem
  · rwa [hF]

theorem DrawL.made_at : ∀ (n m : Nat), m + n = l.length → ∀ s, K[m]? = some s → ∀ j c, (j, c) ∈ s.F ↔ (j, c) ∈ F ∧ j < m := by
  intro n
  induction n with
  | zero =>
    intro m hm s hs j c
    obtain ⟨s', h1, h2⟩ := D.fin
    have : m = l.length := by omega
    subst this
    rw [hs] at h1; cases h1
    rw [← h2]
    exact ⟨fun h => ⟨h, D.made_lt _ (Nat.le_refl _) s hs j c h⟩, fun h => h.1⟩
  | succ n ih =>
    intro m hm s hs j c
    have hlt : m < l.length := by omega
    obtain ⟨s', hs', _⟩ := D.slots (m + 1) (by omega)
    have := ih (m + 1) (by omega) s' hs' j c
    constructor
    · intro h
      have h1 := (this.1 (D.made_grow hlt hs hs' j c h)).1
      exact ⟨h1, D.made_lt m (by omega) s hs j c h⟩
    · intro h
      exact D.made_step hlt hs hs' j c (this.2 ⟨h.1, by omega⟩) h.2

theorem DrawL.made {m : Nat} {s : LS} (hm : m ≤ l.length) (hs : K[m]? = some s) (j : Nat) (c : Blk) : (j, c) ∈ s.F ↔ (j, c) ∈ F ∧ j < m := D.made_at (l.length - m) m (by omega) s hs j c

theorem DrawL.uniq_at : ∀ (m : Nat), m ≤ l.length → ∀ s, K[m]? = some s → Uniq s.F := by
  intro m
  induction m with
  | zero =>
    intro _ s hs j c c' h1
    rw [D.start] at hs; cases hs; cases h1
  | succ m ih =>
    intro hm s hs j c c' h1 h2
    have hl : l[m]? = some l[m] := by simp
    obtain ⟨v, hv⟩ := D.val hl
    obtain ⟨s1, s', g1, g2, _, g4⟩ := D.step m _ v hl hv
    rw [hs] at g2; cases g2
    have ih' := ih (by omega) s1 g1
    have hlt := D.made_lt m (by omega) s1 g1
    rcases g4 with ⟨_, _, _, hF⟩ | ⟨_, _, ob, _, _, hF⟩ | ⟨_, _, hF, _⟩
    · rw [hF] at h1 h2; exact ih' j c c' h1 h2
    · rw [hF, List.mem_append] at h1 h2
      cases ob with
      | none =>
        rcases h1 with h1 | h1
        · rcases h2 with h2 | h2
          · exact ih' j c c' h1 h2
          · cases h2
        · cases h1
      | some bb =>
        simp only [Option.toList_some, List.map_cons, List.map_nil, List.mem_singleton, Prod.mk.injEq] at h1 h2
        rcases h1 with h1 | ⟨rfl, rfl⟩
        · rcases h2 with h2 | ⟨rfl, rfl⟩
          · exact ih' j c c' h1 h2
          · have := hlt _ _ h1; omega
        · rcases h2 with h2 | ⟨_, rfl⟩
          · have := hlt _ _ h2; omega
          · rfl
    · rw [hF] at h1 h2; exact ih' j c c' h1 h2

theorem DrawL.uniq : Uniq F := by
  obtain ⟨s, h1, h2⟩ := D.fin
  rw [← h2]
  exact D.uniq_at _ (Nat.le_refl _) s h1

/-- The heap hangs on the number of strong operations alone. -/
theorem DrawL.heap_eq : ∀ (m m' : Nat) (s s' : LS), m ≤ m' → LexS l m = LexS l m' → K[m]? = some s → K[m']? = some s' → s'.h = s.h := by
  intro m m'
  induction m' with
  | zero =>
    intro s s' hle _ h1 h2
    have : m = 0 := by omega
    subst this
    rw [h1] at h2; cases h2; rfl
  | succ m' ih =>
    intro s s' hle hL h1 h2
    by_cases he : m = m' + 1
    · subst he; rw [h1] at h2; cases h2; rfl
    · have hm' : m' < l.length := by
        have := (List.getElem?_eq_some_iff.1 h2).1
        rw [D.klen] at this; omega
      have hl : l[m']? = some l[m'] := by simp
      have hs := D.lex_succ hl
      have hmono : LexS l m ≤ LexS l m' := lcsS_mono _ _ _ _ fun j _ _ _ hp => by simp [Nat.blt_eq] at hp ⊢; omega
      have hq : strong l[m'] = false := by
        cases hq : strong l[m'] with
        | false => rfl
        | true => rw [hq] at hs; simp at hs; omega
      rw [hq] at hs
      obtain ⟨v, hv⟩ := D.val hl
      obtain ⟨s1, s2, g1, g2, _, g4⟩ := D.step m' _ v hl hv
      rw [h2] at g2; cases g2
      have e1 := ih s s1 (by omega) (by simp at hs; omega) h1 g1
      rw [← e1]
      rcases g4 with ⟨_, _, hh, _⟩ | ⟨_, _, ob, _, hh, _⟩ | ⟨_, hf, _, h', _, hh⟩
      · exact hh
      · exact hh
      · have : loud l[m'].op = false := by
          simp only [strong, hf, Bool.not_false, Bool.and_true] at hq
          exact hq
        rw [this] at hh; exact hh

omit D in
/-- Holes below the heap's end are filled by strong operations alone, and with what comes ahead of them. -/
theorem opV_hole {o : AO} {ts : List Value} {h h' : H} {v : Value} (hm : MonoR P.globals.size rec) {r : Nat} (hg : P.globals.size ≤ r) (hlt : r < h.next) (hn : h.get r = none) (hx : opV P rec o ts h = some (v, h')) : h'.get r = none ∧ r < h'.next := by
  have p : Plus ⟨fun i => if i = r then some .dead else none, fun _ => False, 0⟩ h (h.set r .dead) := by
    refine ⟨rfl, fun i => ?_, fun i hd => hd.elim, Nat.zero_le _⟩
    by_cases e : i = r
    · subst e
      simp only [if_true]
      exact ⟨hn, H.get_set_same _ _ _, hlt⟩
    · simp only [if_neg e]
      exact H.get_set_ne h _ (Ne.symm e)
  obtain ⟨h2', _, q⟩ := opV_plus hm (X := ⟨fun i => if i = r then some .dead else none, fun _ => False, 0⟩) (fun i hi => by simp only; rw [if_neg (by omega)]) p hx
  have := q.2.1 r
  simp only [if_true] at this
  exact ⟨this.1, this.2.2⟩

omit D in
theorem opV_keep {o : AO} {ts : List Value} {h h' : H} {v : Value} (hm : MonoR P.globals.size rec) {r : Nat} (hn : h.get r ≠ none) (hx : opV P rec o ts h = some (v, h')) : h'.get r ≠ none := by
  have p : Plus ⟨fun _ => none, fun i => i = r, 0⟩ h h := ⟨rfl, fun i => rfl, fun i hd => by rw [show i = r from hd]; exact hn, Nat.zero_le _⟩
  obtain ⟨h2', _, q⟩ := opV_plus hm (X := ⟨fun _ => none, fun i => i = r, 0⟩) (fun i _ => rfl) p hx
  exact q.2.2.1 r rfl

omit D in
theorem opV_next {o : AO} {ts : List Value} {h h' : H} {v : Value} (hm : MonoR P.globals.size rec) (hx : opV P rec o ts h = some (v, h')) : h.next ≤ h'.next := by
  have p : Plus ⟨fun _ => none, fun _ => False, h.next⟩ h h := ⟨rfl, fun i => rfl, fun i hd => hd.elim, Nat.le_refl _⟩
  obtain ⟨h2', _, q⟩ := opV_plus hm (X := ⟨fun _ => none, fun _ => False, h.next⟩) (fun i _ => rfl) p hx
  exact q.2.2.2

theorem DrawL.hole : ∀ (m : Nat), m ≤ l.length → ∀ s, K[m]? = some s → base + l.length ≤ s.h.next ∧ ∀ j, j < l.length → s.h.get (base + j) ≠ none → ∃ i o, i < m ∧ l[i]? = some o ∧ strong o = true ∧ bit b j i = true := by
  intro m
  induction m with
  | zero =>
    intro _ s hs
    rw [D.start] at hs; cases hs
    exact ⟨D.room, fun j hj hne => absurd (D.bare _ (by omega)) hne⟩
  | succ m ih =>
    intro hm s hs
    have hl : l[m]? = some l[m] := by simp
    obtain ⟨v, hv⟩ := D.val hl
    obtain ⟨s1, s', g1, g2, _, g4⟩ := D.step m _ v hl hv
    rw [hs] at g2; cases g2
    obtain ⟨i1, i2⟩ := ih (by omega) s1 g1
    have same : s.h = s1.h → base + l.length ≤ s.h.next ∧ ∀ j, j < l.length → s.h.get (base + j) ≠ none → ∃ i o, i < m + 1 ∧ l[i]? = some o ∧ strong o = true ∧ bit b j i = true := by
      intro e
      rw [e]
      exact ⟨i1, fun j hj hne => by obtain ⟨i, o, h1, h2⟩ := i2 j hj hne; exact ⟨i, o, by omega, h2⟩⟩
    rcases g4 with ⟨_, _, hh, _⟩ | ⟨_, _, ob, _, hh, _⟩ | ⟨_, hf, _, h', hx, hh⟩
    · exact same hh
    · exact same hh
    · cases hq : loud l[m].op with
      | false => rw [hq] at hh; exact same hh
      | true =>
        rw [hq] at hh
        simp only [cond_true] at hh
        have hst : strong l[m] = true := by simp [strong, hq, hf]
        have hnx := plugs_next (fun j => bitOf b j m) base s1.F s1.h
        have hole : ∀ r, P.globals.size ≤ r → r < s1.h.next → (plugs (fun j => bitOf b j m) base s1.F s1.h).get r = none → h'.get r = none ∧ r < h'.next := fun r hg hlt hn => opV_hole (P := P) (rec := rec) D.mono hg (by rw [hnx]; exact hlt) hn hx
        refine ⟨?_, fun j hj hne => ?_⟩
        · rw [hh]
          have := opV_next (P := P) (rec := rec) D.mono hx
          rw [hnx] at this
          omega
        · rw [hh] at hne
          by_cases hn : (plugs (fun j => bitOf b j m) base s1.F s1.h).get (base + j) = none
          · exact absurd (hole (base + j) (by have := D.glob; omega) (by omega) hn).1 hne
          · obtain ⟨c, hc⟩ := Option.ne_none_iff_exists'.1 hn
            rcases plugs_get (D.uniq_at m (by omega) s1 g1) hc with h1 | ⟨_, j', he, _, hb⟩
            · obtain ⟨i, o, k1, k2⟩ := i2 j hj (by rw [h1]; simp)
              exact ⟨i, o, by omega, k2⟩
            · have : j' = j := by omega
              subst this
              exact ⟨m, l[m], by omega, hl, hst, hb⟩


/-- What the heap is where the operations of S have come up: whatever the order. -/
def HeapIs (base : Nat) (l : List AO) (K : List LS) (F : List (Nat × Blk)) (S : Nat → Bool) (h : H) : Prop :=
  ∃ m s, m ≤ l.length ∧ K[m]? = some s ∧ LexS l m = lcsS l S 0 ∧ h.next = s.h.next ∧ ∀ i, h.get i = (plugs S base F s.h).get i

theorem DrawL.heap_at {S : Nat → Bool} {h : H} (hh : HeapIs base l K F S h) {m : Nat} {s : LS} (hs : K[m]? = some s) (hL : LexS l m = lcsS l S 0) : h.next = s.h.next ∧ ∀ i, h.get i = (plugs S base F s.h).get i := by
  obtain ⟨m', s', h1, h2, h3, h4, h5⟩ := hh
  have : s'.h = s.h := by
    rcases Nat.le_total m m' with hle | hle
    · exact D.heap_eq m m' s s' hle (by omega) hs h2
    · exact (D.heap_eq m' m s' s hle (by omega) h2 hs).symm
  rw [← this]; exact ⟨h4, h5⟩

theorem DrawL.rep : ∀ (m : Nat), m ≤ l.length → ∃ m' ∈ 0 :: repsS l 0, m' ≤ m ∧ LexS l m' = LexS l m := by
  intro m
  induction m with
  | zero => intro _; exact ⟨0, by simp, Nat.le_refl _, rfl⟩
  | succ m ih =>
    intro hm
    have hl : l[m]? = some l[m] := by simp
    cases hq : strong l[m] with
    | true =>
      have := mem_repsS l 0 m _ hl hq
      exact ⟨m + 1, by rw [Nat.zero_add] at this; exact List.mem_cons_of_mem _ this, Nat.le_refl _, rfl⟩
    | false =>
      obtain ⟨m', h1, h2, h3⟩ := ih (by omega)
      have hs := D.lex_succ hl
      rw [hq] at hs
      exact ⟨m', h1, by omega, by rw [h3, hs]; simp⟩

omit D in
/-- Plugging less leaves less. -/
theorem plugs_sub {p q : Nat → Bool} {F' : List (Nat × Blk)} {hh : H} (hu : Uniq F) (hu' : Uniq F') (hF : ∀ j c, (j, c) ∈ F' → p j = true → (j, c) ∈ F ∧ q j = true) {i : Nat} {c : Blk} (hg : (plugs p base F' hh).get i = some c) : (plugs q base F hh).get i = some c := by
  rcases plugs_get hu' hg with h1 | ⟨hn, j, rfl, hm, hp⟩
  · exact plugs_get_some h1
  · obtain ⟨h1, h2⟩ := hF j c hm hp
    exact plugs_get_made hu h1 h2 hn

/-- What lies in one heap and not in the other. -/
noncomputable def diffX (h h2 : H) : XD := ⟨fun i => match h.get i with | none => h2.get i | some _ => none, fun i => h.get i ≠ none, 0⟩

omit D in
theorem diff_plus {h h2 : H} (hn : h2.next = h.next) (hs : ∀ i c, h.get i = some c → h2.get i = some c) (ht : ∀ i, h.get i = none → h2.get i ≠ none → i < h.next) : Plus (diffX h h2) h h2 := by
  refine ⟨hn, fun i => ?_, fun i hd => hd, Nat.zero_le _⟩
  unfold diffX
  cases hg : h.get i with
  | some c =>
    simp only [hg]
    exact hs i c hg
  | none =>
    simp only [hg]
    cases hg2 : h2.get i with
    | none => simp
    | some c => simp only; exact ⟨trivial, trivial, ht i hg (by rw [hg2]; simp)⟩

end

end Go.Ev
