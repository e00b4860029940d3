/- The evaluator over a small code, and that what it finds of a call holds of the machine, part 11. -/
import Derived.Test.YtcajalekkffcjaaDoorEv10
namespace Go.Ev
open Go Go.RowKit

variable {P : Program} {rec : Rec}

theorem eqV_sound {a b : Value} (h : eqV a b = true) : a = b := by
  unfold eqV at h
  split at h
  · rw [beq_iff_eq.1 h]
  · simp only [Bool.and_eq_true, beq_iff_eq] at h; rw [h.1, h.2]
  · rename_i s t
    have := beq_iff_eq.1 h
    obtain ⟨⟨s⟩⟩ := s; obtain ⟨⟨t⟩⟩ := t
    simp only at this; rw [this]
  · rw [beq_iff_eq.1 h]
  · simp only [Bool.and_eq_true, beq_iff_eq] at h; rw [h.1.1, h.1.2, h.2]
  · rw [beq_iff_eq.1 h]
  · rfl
  · rfl
  · rename_i f a b g c d
    simp only [Bool.and_eq_true, beq_iff_eq, List.isEmpty_iff] at h
    obtain ⟨⟨⟨⟨rfl, h1⟩, h2⟩, h3⟩, h4⟩ := h
    obtain ⟨a⟩ := a; obtain ⟨b⟩ := b; obtain ⟨c⟩ := c; obtain ⟨d⟩ := d
    simp only at h1 h2 h3 h4
    subst h1 h2 h3 h4; rfl
  · cases h

theorem eqVs_sound : ∀ {l m : List Value}, eqVs l m = true → l = m
  | [], [], _ => rfl
  | a :: l, b :: m, h => by
    simp only [eqVs, Bool.and_eq_true] at h
    rw [eqV_sound h.1, eqVs_sound h.2]
  | [], _ :: _, h => by cases h
  | _ :: _, [], h => by cases h

/-! ### Congruence -/
section
variable {ts ts' : List Value} {h : H}

theorem partsOk_congr : ∀ (ps : List (Nat × Nat × Operand)) (len : Nat), (∀ x ∈ ps.map (·.2.2), aev ts x = aev ts' x) → partsOk ts len ps = partsOk ts' len ps
  | [], _, _ => rfl
  | (off, size, x) :: ps, len, hc => by
    have h1 : aev ts x = aev ts' x := hc x (by simp)
    simp only [partsOk, h1, partsOk_congr ps len (fun y hy => hc y (by simp only [List.map_cons, List.mem_cons]; exact .inr hy))]

theorem bound_congr {d : Nat} : ∀ {o : Option Operand}, (∀ x ∈ o.toList, aev ts x = aev ts' x) → bound ts d o = bound ts' d o
  | none, _ => rfl
  | some x, hc => by simp only [bound, hc x (by simp)]

theorem map_congr_aev {l : List Operand} (hc : ∀ x ∈ l, aev ts x = aev ts' x) : l.map (aev ts) = l.map (aev ts') := List.map_congr_left hc

theorem aexec_congr {op : AOp} (hp : plainOp op = true) (hc : ∀ x ∈ op.opds, aev ts x = aev ts' x) : aexec P ts h op = aexec P ts' h op := by
  cases op <;> simp only [AOp.opds, List.mem_cons, List.not_mem_nil, or_false, forall_eq_or_imp, forall_eq] at hc <;>
    (try (simp only [aexec, hc]; done)) <;> (try rfl)
  case build z ps => simp only [aexec, partsOk_congr ps _ hc]
  case buildSlice e n s z ps => simp only [aexec, partsOk_congr ps _ hc]
  case gen o =>
    simp only [plainOp] at hp
    have hns : ∀ cs b, o.op ≠ .select cs b := fun cs b e => by rw [e] at hp; cases hp
    have he : execOp (aev ts) o = execOp (aev ts') o := execOp_congr o hns fun x hx => hc x (by simpa using hx)
    have ha : (o.op.operands.all fun x => closedV (aev ts x)) = (o.op.operands.all fun x => closedV (aev ts' x)) := by
      rw [← Array.all_toList, ← Array.all_toList]
      have : ∀ (l : List Operand), (∀ x ∈ l, aev ts x = aev ts' x) → (l.all fun x => closedV (aev ts x)) = l.all fun x => closedV (aev ts' x) := by
        intro l
        induction l with
        | nil => intro _; rfl
        | cons x l ih => intro hl; simp only [List.all_cons, hl x (by simp), ih fun y hy => hl y (by simp [hy])]
      exact this _ hc
    simp only [aexec, he, ha]
  case sliceSl s x lo hi =>
    have h1 := hc.1
    have h2 : bound ts 0 lo = bound ts' 0 lo := bound_congr fun y hy => hc.2 y (by simp at hy ⊢; exact .inl hy)
    have h3 : ∀ d, bound ts d hi = bound ts' d hi := fun d => bound_congr fun y hy => hc.2 y (by simp at hy ⊢; exact .inr hy)
    simp only [aexec, h1, h2, h3]
  case slice3 s x lo hi mx =>
    have h1 := hc.1
    have h2 : bound ts 0 lo = bound ts' 0 lo := bound_congr fun y hy => hc.2 y (by simp at hy ⊢; exact .inl hy)
    have h3 : ∀ d, bound ts d hi = bound ts' d hi := fun d => bound_congr fun y hy => hc.2 y (by simp at hy ⊢; exact .inr (.inl hy))
    have h4 : ∀ d, bound ts d (some mx) = bound ts' d (some mx) := fun d => bound_congr fun y hy => hc.2 y (by simp at hy ⊢; exact .inr (.inr hy))
    simp only [aexec, h1, h2, h3, h4]
  case sliceArr n s x lo hi =>
    have h1 := hc.1
    have h2 : bound ts 0 lo = bound ts' 0 lo := bound_congr fun y hy => hc.2 y (by simp at hy ⊢; exact .inl hy)
    have h3 : ∀ d, bound ts d hi = bound ts' d hi := fun d => bound_congr fun y hy => hc.2 y (by simp at hy ⊢; exact .inr hy)
    simp only [aexec, h1, h2, h3]
  case mkFunc f a b =>
    have h1 := map_congr_aev (l := a) fun x hx => hc x (by simp [hx])
    have h2 := map_congr_aev (l := b) fun x hx => hc x (by simp [hx])
    simp only [aexec, h1, h2]
  case noEscape args =>
    have h1 := map_congr_aev (l := args) hc
    simp only [aexec, h1]

theorem mem_tmpsOf {t : Tmp} : ∀ {l : List Operand}, Operand.tmp t ∈ l → t ∈ tmpsOf l
  | x :: l, hm => by
    rcases List.mem_cons.1 hm with rfl | hm
    · simp [tmpsOf]
    · have := mem_tmpsOf hm
      cases x <;> simp [tmpsOf, this]

theorem opV_congr {o : AO} (hp : plainOp o.op = true) (hc : ∀ t ∈ o.looks, ts[t]? = ts'[t]?) : opV P rec o ts h = opV P rec o ts' h := by
  have hev : ∀ x ∈ o.op.opds, aev ts x = aev ts' x := fun x hx => by
    cases x with
    | tmp t =>
      have := hc t (by simp only [AO.looks, List.mem_append]; exact .inr (mem_tmpsOf hx))
      simp only [aev, List.getD_eq_getElem?_getD, this]
    | _ => rfl
  have hw : wantedA o.guard ts = wantedA o.guard ts' := by
    unfold wantedA
    cases hg : o.guard with
    | none => rfl
    | some p =>
      obtain ⟨t, b⟩ := p
      have := hc t (by simp [AO.looks, hg])
      simp only [this]
  unfold opV
  rw [hw]
  split
  · have hx := aexec_congr (P := P) (h := h) hp hev
    cases hop : o.op with
    | call f args =>
      rw [hop] at hev
      have h1 : aev ts f = aev ts' f := hev f (by simp [AOp.opds])
      have h2 := map_congr_aev (l := args) fun x hx => hev x (by simp [AOp.opds, hx])
      simp only [h1, h2]
    | callP f args =>
      rw [hop] at hev
      have h1 : aev ts f = aev ts' f := hev f (by simp [AOp.opds])
      have h2 := map_congr_aev (l := args) fun x hx => hev x (by simp [AOp.opds, hx])
      simp only [h1, h2]
    | _ => rw [hop] at hx; simpa using hx
  · rfl

/-! ### Quiet operations -/
theorem aexec_quiet {op : AOp} (hl : loud op = false) {v : Value} {h' : H} (hx : aexec P ts h op = some (v, h')) : h' = h := by
  cases op <;> simp only [loud, Bool.true_eq_false] at hl <;> simp only [aexec] at hx <;> (try (cases hx; done))
  all_goals
    first
    | (simp only [Option.some.injEq, Prod.mk.injEq] at hx; exact hx.2.symm)
    | skip
  all_goals (repeat' (split at hx)) <;> first
    | (cases hx; done)
    | (cases hx; rfl)
    | (simp only [Option.some.injEq, Prod.mk.injEq] at hx; exact hx.2.symm)
    | (obtain ⟨_, _, he⟩ := map_some_iff hx; simp only [Prod.mk.injEq] at he; exact he.2.symm)

theorem aexec_any' {op : AOp} (hl : loud op = false) (hn : needsHeap op = false) : ∃ g : Option Value, ∀ h, aexec P ts h op = g.map fun v => (v, h) := by
  refine ⟨(aexec P ts ⟨0, .leaf⟩ op).map (·.1), fun h => ?_⟩
  cases op <;> simp only [loud, needsHeap, Bool.true_eq_false] at hl hn <;> simp only [aexec] <;> (try (rfl)) <;> (repeat' split) <;> first | rfl | (simp [Option.map_map]; done) | (simp [Option.map_map, Function.comp_def]; done)

theorem aexec_any {op : AOp} (hl : loud op = false) (hn : needsHeap op = false) {v : Value} {h1 : H} (hx : aexec P ts h op = some (v, h1)) (h2 : H) : aexec P ts h2 op = some (v, h2) := by
  obtain ⟨g, hg⟩ := aexec_any' (P := P) (ts := ts) hl hn
  rw [hg] at hx ⊢
  obtain ⟨v', rfl, he⟩ := map_some_iff hx
  cases he
  rfl
end

end Go.Ev
