/- The evaluator over a small code, and that what it finds of a call holds of the machine, part 16p. -/
import Derived.Test.YtcajalekkffcjaaDoorEv15
namespace Go.Ev
open Go Go.RowKit

variable {P : Program} {rec : Rec}

def numOp : AOp → Bool
  | .move _ | .pick _ _ _ | .ibin _ _ _ => true
  | _ => false

theorem pureOp_num {o : Oper} (h : pureOp P o = true) {ao : AOp} (hc : compOp P o = some ao) : numOp ao = true := by
  obtain ⟨dst, op, ty, pos, after, guard⟩ := o
  cases op <;> simp only [pureOp, Bool.false_eq_true] at h
  case move x => simp only [compOp, Option.some.injEq] at hc; subst hc; rfl
  case assign x => simp only [compOp, Option.some.injEq] at hc; subst hc; rfl
  case pick c a b => simp only [compOp, Option.some.injEq] at hc; subst hc; rfl
  case binOp op t x y r =>
    split at h
    · rename_i k hu
      simp only [compOp, hu, Option.some.injEq] at hc
      subst hc; rfl
    · cases h

/-- What a piece of code comes to does not hang on the heap. -/
def Hfree (a : AAct) (F : H → Option (AExit × AAct × H)) : Prop :=
  ∃ r : Option (AExit × AAct), (∀ h, F h = r.map fun p => (p.1, p.2, h)) ∧ ∀ p, r = some p → p.2.defers = a.defers ∧ p.2.rc = a.rc

theorem evOp_num {o : AO} (hn : numOp o.op = true) (a : AAct) : ∃ r : Option Value, ∀ h, evOp P rec o a h = r.map fun v => Step.on (a.put o.dst v) h := by
  by_cases hw : wantedA o.guard a.tmps = true
  · have hl : loud o.op = false := by cases hop : o.op <;> rw [hop] at hn <;> first | rfl | cases hn
    have hh : needsHeap o.op = false := by cases hop : o.op <;> rw [hop] at hn <;> first | rfl | cases hn
    obtain ⟨g, hg⟩ := aexec_any' (P := P) (ts := a.tmps) hl hh
    refine ⟨g, fun h => ?_⟩
    have h1 := hg h
    unfold evOp
    rw [if_pos hw]
    cases hop : o.op <;> rw [hop] at hn h1 <;> simp only [numOp, Bool.false_eq_true] at hn <;> simp only [h1] <;> cases g <;> rfl
  · refine ⟨some undef, fun h => ?_⟩
    unfold evOp
    rw [if_neg hw]; rfl

theorem evOps_num : ∀ (l : List AO), (l.all fun o => numOp o.op) = true → ∀ a, Hfree a (evOps P rec l a)
  | [], _, a => ⟨some (.normal, a), fun _ => rfl, fun p hp => by cases hp; exact ⟨rfl, rfl⟩⟩
  | o :: l, hl, a => by
    simp only [List.all_cons, Bool.and_eq_true] at hl
    obtain ⟨r, hr⟩ := evOp_num (P := P) (rec := rec) hl.1 a
    cases r with
    | none => exact ⟨none, fun h => by simp only [evOps, hr]; rfl, fun p hp => by cases hp⟩
    | some v =>
      obtain ⟨r2, h2, h3⟩ := evOps_num l hl.2 (a.put o.dst v)
      exact ⟨r2, fun h => by simp only [evOps, hr, Option.map_some]; exact h2 h, fun p hp => h3 p hp⟩

theorem compL_num {ops : Array Oper} : ∀ (r : List Oper) (l : List AO), compL P ops r = some l → (r.all (pureOp P)) = true → (l.all fun o => numOp o.op) = true
  | [], l, h, _ => by simp only [compL, Option.some.injEq] at h; subst h; rfl
  | x :: r, l, h, hp => by
    obtain ⟨ao, m, rfl, h1, h2⟩ := compL_cons h
    simp only [List.all_cons, Bool.and_eq_true] at hp ⊢
    exact ⟨pureOp_num hp.1 (compO_parts h1).1, compL_num r m h2 hp.2⟩

theorem evC_pure : ∀ (c : Code), pureSrc P c = true → ∀ a, Hfree a (evC P rec (compC P c) a) := by
  intro c
  induction c with
  | skip => intro _ a; exact ⟨some (.normal, a), fun _ => rfl, fun p hp => by cases hp; exact ⟨rfl, rfl⟩⟩
  | exit id => intro _ a; exact ⟨some (.exit id, a), fun _ => rfl, fun p hp => by cases hp; exact ⟨rfl, rfl⟩⟩
  | ret => intro _ a; exact ⟨some (.ret, a), fun _ => rfl, fun p hp => by cases hp; exact ⟨rfl, rfl⟩⟩
  | region id ops draw =>
    intro h a
    simp only [pureSrc, Bool.and_eq_true, Bool.not_eq_true'] at h
    obtain ⟨rfl, hall⟩ := h
    simp only [compC, compReg]
    cases hl : compL P ops ops.toList with
    | none => exact ⟨none, fun _ => rfl, fun p hp => by cases hp⟩
    | some l => exact evOps_num l (compL_num _ _ hl hall) a
  | seq x y ihx ihy =>
    intro h a
    simp only [pureSrc, Bool.and_eq_true] at h
    obtain ⟨r, h1, h2⟩ := ihx h.1 a
    cases r with
    | none => exact ⟨none, fun hh => by simp only [compC, evC, h1]; rfl, fun p hp => by cases hp⟩
    | some p =>
      obtain ⟨x', a'⟩ := p
      obtain ⟨e1, e2⟩ := h2 _ rfl
      cases x' with
      | normal =>
        obtain ⟨r2, h3, h4⟩ := ihy h.2 a'
        exact ⟨r2, fun hh => by simp only [compC, evC, h1, Option.map_some]; exact h3 hh, fun p hp => by
          obtain ⟨f1, f2⟩ := h4 p hp
          exact ⟨f1.trans e1, f2.trans e2⟩⟩
      | exit id' => exact ⟨some (.exit id', a'), fun hh => by simp only [compC, evC, h1, Option.map_some], fun p hp => by cases hp; exact ⟨e1, e2⟩⟩
      | ret => exact ⟨some (.ret, a'), fun hh => by simp only [compC, evC, h1, Option.map_some], fun p hp => by cases hp; exact ⟨e1, e2⟩⟩
      | panic v => exact ⟨some (.panic v, a'), fun hh => by simp only [compC, evC, h1, Option.map_some], fun p hp => by cases hp; exact ⟨e1, e2⟩⟩
  | cond c x y ihx ihy =>
    intro h a
    simp only [pureSrc, Bool.and_eq_true] at h
    simp only [compC]
    cases opdOk P c with
    | false => exact ⟨none, fun _ => rfl, fun p hp => by cases hp⟩
    | true =>
      simp only [cond_true]
      obtain ⟨r1, h1, h2⟩ := ihx h.1 a
      obtain ⟨r2, h3, h4⟩ := ihy h.2 a
      cases hv : aev a.tmps c with
      | bool t =>
        cases t with
        | true => exact ⟨r1, fun hh => by simp only [evC, hv]; exact h1 hh, h2⟩
        | false => exact ⟨r2, fun hh => by simp only [evC, hv]; exact h3 hh, h4⟩
      | _ => exact ⟨none, fun hh => by simp only [evC, hv]; rfl, fun p hp => by cases hp⟩
  | block id x ih =>
    intro h a
    simp only [pureSrc] at h
    obtain ⟨r, h1, h2⟩ := ih h a
    cases r with
    | none => exact ⟨none, fun hh => by simp only [compC, evC, h1]; rfl, fun p hp => by cases hp⟩
    | some p =>
      obtain ⟨x', a'⟩ := p
      obtain ⟨e1, e2⟩ := h2 _ rfl
      cases x' with
      | exit id' =>
        by_cases hid : id' = id
        · exact ⟨some (.normal, a'), fun hh => by simp only [compC, evC, h1, Option.map_some, if_pos hid], fun p hp => by cases hp; exact ⟨e1, e2⟩⟩
        · exact ⟨some (.exit id', a'), fun hh => by simp only [compC, evC, h1, Option.map_some, if_neg hid], fun p hp => by cases hp; exact ⟨e1, e2⟩⟩
      | normal => exact ⟨some (.normal, a'), fun hh => by simp only [compC, evC, h1, Option.map_some], fun p hp => by cases hp; exact ⟨e1, e2⟩⟩
      | ret => exact ⟨some (.ret, a'), fun hh => by simp only [compC, evC, h1, Option.map_some], fun p hp => by cases hp; exact ⟨e1, e2⟩⟩
      | panic v => exact ⟨some (.panic v, a'), fun hh => by simp only [compC, evC, h1, Option.map_some], fun p hp => by cases hp; exact ⟨e1, e2⟩⟩
  | _ => intro h; simp [pureSrc] at h

end Go.Ev
