/- The evaluator over a small code, and that what it finds of a call holds of the machine, part 18b. -/
import Derived.Test.YtcajalekkffcjaaDoorEv18a
namespace Go.Ev
open Go
/-! ### Regions that draw -/
structure VOClo where
  run : Rec → List Value → H → Option (Value × H)

noncomputable def vCall (r : Option (ARes × RC × H)) : Option (Value × H) :=
  match r with
  | some (.ret v, _, h') => some (v, h')
  | _ => none

noncomputable def cloVO (P : Program) (op : AOp) : VOClo :=
  match op with
  | .call f args => ⟨fun rec ts h => vCall (rec.call (av ts f) (args.map (av ts)) .unk h)⟩
  | .callP f args => ⟨fun rec ts h => vCall (rec.call (av ts f) (args.map (av ts)) .unk h)⟩
  | op => ⟨fun _ ts h => (cloP P op).run (av ts) h⟩

noncomputable def vG (c : Bool) (o : VOClo) (rec : Rec) (ts : List Value) (h : H) : Option (Value × H) :=
  match c with
  | true => o.run rec ts h
  | false => some (undef, h)

noncomputable def cloVA (P : Program) (o : AO) : VOClo :=
  match o with
  | ⟨_, none, op⟩ => cloVO P op
  | ⟨_, some (t, b), op⟩ => ⟨fun rec ts h => vG (isB (getN t ts) b) (cloVO P op) rec ts h⟩

theorem cloVO_eq (P : Program) (rec : Rec) (dst : Option Tmp) (op : AOp) (ts : List Value) (h : H) : (cloVO P op).run rec ts h = opV P rec { dst, guard := none, op } ts h := by
  cases op <;> simp only [cloVO, opV, wantedA, if_true, vCall, av_eq, cloP_eq] <;> rfl

theorem cloVA_eq (P : Program) (rec : Rec) (o : AO) (ts : List Value) (h : H) : (cloVA P o).run rec ts h = opV P rec o ts h := by
  obtain ⟨dst, g, op⟩ := o
  cases g with
  | none => exact cloVO_eq P rec dst op ts h
  | some x =>
    obtain ⟨t, b⟩ := x
    show vG (isB (getN t ts) b) (cloVO P op) rec ts h = _
    rw [← wantedA_isB]
    have h1 := cloVO_eq P rec dst op ts h
    unfold opV at h1 ⊢
    simp only [wantedA, if_true] at h1
    cases hw : wantedA (some (t, b)) ts with
    | true => simp only [vG, if_true]; exact h1
    | false => simp only [vG, Bool.false_eq_true, if_false]

structure TClo where
  run : Rec → List Value → H → Option (List (List Value × H))

noncomputable def trK (r : Option (Value × H)) (dst : Option Tmp) (k : TClo) (rec : Rec) (ts : List Value) (h : H) : Option (List (List Value × H)) :=
  match r with
  | some (v, h') => (k.run rec (putLF dst v ts) h').map ((ts, h) :: ·)
  | none => none

noncomputable def cloTr (P : Program) (l : List AO) : TClo := List.rec ⟨fun _ ts h => some [(ts, h)]⟩ (fun o _ ih => ⟨fun rec ts h => trK ((cloVA P o).run rec ts h) o.dst ih rec ts h⟩) l

theorem cloTr_eq (P : Program) (rec : Rec) : ∀ (l : List AO) (ts : List Value) (h : H), (cloTr P l).run rec ts h = trace P rec l ts h
  | [], _, _ => rfl
  | o :: r, ts, h => by
    show trK ((cloVA P o).run rec ts h) o.dst (cloTr P r) rec ts h = _
    rw [cloVA_eq]
    simp only [trace, trK]
    cases opV P rec o ts h with
    | none => rfl
    | some s =>
      obtain ⟨v, h'⟩ := s
      simp only [putLF_eq, cloTr_eq P rec r]

noncomputable def regK (P : Program) (rec : Rec) (r : Option (List (List Value × H))) (ops : List AO) (checks : List (Nat × Nat)) (cuts : Cuts) (a : AAct) (h : H) : Option (AExit × AAct × H) :=
  match r with
  | some G => if checks.all (checkG ops G) then (match G[ops.length]? with
      | some (ts, h') => some (.normal, { a with tmps := ts }, h')
      | none => none) else none
  | none => cutGo P rec ops a h cuts


end Go.Ev
