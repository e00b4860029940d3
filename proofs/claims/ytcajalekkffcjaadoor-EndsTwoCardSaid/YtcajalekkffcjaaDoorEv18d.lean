/- The evaluator over a small code, and that what it finds of a call holds of the machine, part 18d. -/
import Derived.Test.YtcajalekkffcjaaDoorEv18c
namespace Go.Ev
open Go
/-! ### Functions -/
noncomputable def resAF (h : H) (ts : List Value) : List ARV → Option (List Value)
  | [] => some []
  | .tmp t :: r => if isBad (getN t ts) then none else (resAF h ts r).map (getN t ts :: ·)
  | .cell t agg n :: r => match getN t ts with
    | .pointer (some p) => match h.cellsF p n with
      | some cs => match (if agg then some (.agg cs.toArray) else one cs), resAF h ts r with
        | some v, some l => some (v :: l)
        | _, _ => none
      | none => none
    | _ => none

theorem resAF_eq (h : H) (ts : List Value) : ∀ l, resAF h ts l = resA h ts l
  | [] => rfl
  | .tmp t :: r => by simp only [resAF, resA, getN_eq, resAF_eq h ts r]
  | .cell t agg n :: r => by simp only [resAF, resA, getN_eq, cellsF_eq, resAF_eq h ts r]; rfl

noncomputable def finK (r : Option (Option Value × H)) (fn : AFn) (a : AAct) : Option (ARes × RC × H) :=
  match r with
  | some (none, h') => (resAF h' a.tmps fn.results).map fun l => (.ret (tupleOf l), a.rc, h')
  | some (some v, h') => some (.panic v, a.rc, h')
  | none => none

noncomputable def finF (rec : Rec) (fn : AFn) (r : Option (AExit × AAct × H)) : Option (ARes × RC × H) :=
  match r with
  | some (x, a, h) => match leftBy x with
    | none => none
    | some m => finK (unwindA rec a.defers m h) fn a
  | none => none

noncomputable def startF (fn : AFn) (ts : List Value) (rc : RC) : AAct := ⟨appF ts (repF (fn.ntmps - ts.length)), [], rc, false⟩

noncomputable def callG (P : Program) (rec : Rec) (o : Option AFn) (first captured : Array Value) (args : List Value) (rc : RC) (h : H) : Option (ARes × RC × H) :=
  match o with
  | some fn => finF rec fn ((cloC P fn.body).run rec (startF fn (appF (appF first.toList args) captured.toList) rc) h)
  | none => none

noncomputable def callF (P : Program) (rec : Rec) (T : Nat → Option AFn) (f : Value) (args : List Value) (rc : RC) (h : H) : Option (ARes × RC × H) :=
  match f with
  | .func (.func g) first captured => callG P rec (T g) first captured args rc h
  | .func (.yield l) first captured => callA P rec T (.func (.yield l) first captured) args rc h
  | _ => none

theorem callF_eq (P : Program) (rec : Rec) (T : Nat → Option AFn) (f : Value) (args : List Value) (rc : RC) (h : H) : callF P rec T f args rc h = callA P rec T f args rc h := by
  cases f with
  | func fn first captured =>
    cases fn with
    | func g =>
      simp only [callF, callA, callG]
      cases T g with
      | none => rfl
      | some fn =>
        have e : startF fn (appF (appF first.toList args) captured.toList) rc = startA fn (first.toList ++ args ++ captured.toList) rc := by
          simp only [startF, startA, appF_eq, repF_eq]
        simp only [e, cloC_eq, finF]
        cases evC P rec fn.body (startA fn (first.toList ++ args ++ captured.toList) rc) h with
        | none => rfl
        | some y =>
          obtain ⟨x, a, h'⟩ := y
          simp only [finishA, finK, resAF_eq]
          rfl
    | _ => rfl
  | _ => rfl

noncomputable def evF (P : Program) (T : Nat → Option AFn) : Nat → Rec := fun n =>
  Nat.rec ⟨fun _ _ _ _ => none, fun _ _ _ => none⟩ (fun _ ih => ⟨fun f args rc h => callF P ih T f args rc h, fun c a h => (cloC P (.loop c)).run ih a h⟩) n

theorem evF_eq (P : Program) (T : Nat → Option AFn) : ∀ n, evF P T n = ev P T n
  | 0 => rfl
  | n + 1 => by
    show (⟨fun f args rc h => callF P (evF P T n) T f args rc h, fun c a h => (cloC P (.loop c)).run (evF P T n) a h⟩ : Rec) = _
    rw [evF_eq P T n]
    simp only [callF_eq, cloC_eq]
    rfl

end Go.Ev
