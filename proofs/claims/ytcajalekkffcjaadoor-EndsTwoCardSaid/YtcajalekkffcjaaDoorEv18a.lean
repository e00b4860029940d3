/- The evaluator over a small code, and that what it finds of a call holds of the machine, part 18a. -/
import Derived.Test.YtcajalekkffcjaaDoorEv17
namespace Go.Ev
open Go

noncomputable def appF (l m : List Value) : List Value := List.rec m (fun a _ ih => a :: ih) l
theorem appF_eq : ∀ l m : List Value, appF l m = l ++ m
  | [], _ => rfl
  | a :: l, m => congrArg (a :: ·) (appF_eq l m)
noncomputable def repF : Nat → List Value := fun n => Nat.rec [] (fun _ ih => undef :: ih) n
theorem repF_eq : ∀ n, repF n = List.replicate n undef
  | 0 => rfl
  | n + 1 => congrArg (undef :: ·) (repF_eq n)

/-! ### Operations -/
def isB (v : Value) (b : Bool) : Bool :=
  match v with
  | .bool c => c == b
  | _ => false

theorem wantedA_isB (t : Tmp) (b : Bool) (ts : List Value) : wantedA (some (t, b)) ts = isB (getN t ts) b := by
  rw [getN_eq, List.getD_eq_getElem?_getD]
  simp only [wantedA, isB]
  cases ts[t]? with
  | none => rfl
  | some v => cases v <;> rfl

structure OClo where
  run : Rec → AAct → H → Option Step

noncomputable def opCall (r : Option (ARes × RC × H)) (dst : Option Tmp) (a : AAct) : Option Step :=
  match r with
  | some (.ret v, _, h') => some (.on (a.putF dst v) h')
  | some (.panic v, _, h') => some (.panic v a h')
  | none => none

noncomputable def opPlain (r : Option (Value × H)) (dst : Option Tmp) (a : AAct) : Option Step :=
  match r with
  | some (v, h') => some (.on (a.putF dst v) h')
  | none => none

noncomputable def cloO (P : Program) (dst : Option Tmp) (op : AOp) : OClo :=
  match op with
  | .call f args => ⟨fun rec a h => opCall (rec.call (av a.tmps f) (args.map (av a.tmps)) .unk h) dst a⟩
  | .callP f args => ⟨fun rec a h => opCall (rec.call (av a.tmps f) (args.map (av a.tmps)) .unk h) dst a⟩
  | .defer f args => ⟨fun rec a h => evOp P rec { dst, guard := none, op := .defer f args } a h⟩
  | .recover => ⟨fun rec a h => evOp P rec { dst, guard := none, op := .recover } a h⟩
  | .panic x => ⟨fun rec a h => evOp P rec { dst, guard := none, op := .panic x } a h⟩
  | op => ⟨fun _ a h => opPlain ((cloP P op).run (av a.tmps) h) dst a⟩

theorem cloO_eq (P : Program) (rec : Rec) (dst : Option Tmp) (op : AOp) (a : AAct) (h : H) : (cloO P dst op).run rec a h = evOp P rec { dst, guard := none, op } a h := by
  cases op <;> simp only [cloO, evOp, wantedA, if_true, opCall, opPlain, av_eq, cloP_eq, putF_eq] <;> rfl

noncomputable def opG (c : Bool) (o : OClo) (dst : Option Tmp) (rec : Rec) (a : AAct) (h : H) : Option Step :=
  match c with
  | true => o.run rec a h
  | false => some (.on (a.putF dst undef) h)

noncomputable def cloAO (P : Program) (o : AO) : OClo :=
  match o with
  | ⟨dst, none, op⟩ => cloO P dst op
  | ⟨dst, some (t, b), op⟩ => ⟨fun rec a h => opG (isB (getN t a.tmps) b) (cloO P dst op) dst rec a h⟩

theorem cloAO_eq (P : Program) (rec : Rec) (o : AO) (a : AAct) (h : H) : (cloAO P o).run rec a h = evOp P rec o a h := by
  obtain ⟨dst, g, op⟩ := o
  cases g with
  | none => exact cloO_eq P rec dst op a h
  | some x =>
    obtain ⟨t, b⟩ := x
    show opG (isB (getN t a.tmps) b) (cloO P dst op) dst rec a h = _
    rw [← wantedA_isB]
    have h1 := cloO_eq P rec dst op a h
    unfold evOp at h1 ⊢
    simp only [wantedA, if_true] at h1
    cases hw : wantedA (some (t, b)) a.tmps with
    | true => simp only [opG, if_true]; exact h1
    | false => simp only [opG, Bool.false_eq_true, if_false, putF_eq]

structure CClo where
  run : Rec → AAct → H → Option (AExit × AAct × H)

noncomputable def opsK (s : Option Step) (r : CClo) (rec : Rec) : Option (AExit × AAct × H) :=
  match s with
  | some (.on a' h') => r.run rec a' h'
  | some (.panic v a' h') => some (.panic v, a', h')
  | none => none

noncomputable def cloOps (P : Program) (l : List AO) : CClo := List.rec ⟨fun _ a h => some (.normal, a, h)⟩ (fun o _ ih => ⟨fun rec a h => opsK ((cloAO P o).run rec a h) ih rec⟩) l

theorem cloOps_eq (P : Program) (rec : Rec) : ∀ (l : List AO) (a : AAct) (h : H), (cloOps P l).run rec a h = evOps P rec l a h
  | [], _, _ => rfl
  | o :: r, a, h => by
    show opsK ((cloAO P o).run rec a h) (cloOps P r) rec = _
    rw [cloAO_eq]
    simp only [evOps, opsK]
    cases evOp P rec o a h with
    | none => rfl
    | some s => cases s with
      | on a' h' => exact cloOps_eq P rec r a' h'
      | panic v a' h' => rfl


end Go.Ev
