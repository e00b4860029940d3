/- The evaluator over a small code, and that what it finds of a call holds of the machine, part 18c. -/
import Derived.Test.YtcajalekkffcjaaDoorEv18b
namespace Go.Ev
open Go
/-! ### Code -/
noncomputable def seqK (r : Option (AExit × AAct × H)) (y : CClo) (rec : Rec) : Option (AExit × AAct × H) :=
  match r with
  | some (.normal, a', h') => y.run rec a' h'
  | r => r

noncomputable def condK (v : Value) (x y : CClo) (rec : Rec) (a : AAct) (h : H) : Option (AExit × AAct × H) :=
  match v with
  | .bool true => x.run rec a h
  | .bool false => y.run rec a h
  | _ => none

noncomputable def blockK (id : Nat) (r : Option (AExit × AAct × H)) : Option (AExit × AAct × H) :=
  match r with
  | some (.exit id', a', h') => if id' = id then some (.normal, a', h') else some (.exit id', a', h')
  | r => r

noncomputable def loopK (c : AC) (r : Option (AExit × AAct × H)) (rec : Rec) : Option (AExit × AAct × H) :=
  match r with
  | some (.normal, a', h') => rec.loop c a' h'
  | r => r

noncomputable def cloC (P : Program) (c : AC) : CClo :=
  AC.rec (motive := fun _ => CClo)
    ⟨fun _ a h => some (.normal, a, h)⟩
    (fun ops => cloOps P ops)
    (fun ops checks cuts => ⟨fun rec a h => regK P rec ((cloTr P ops).run rec a.tmps h) ops checks cuts a h⟩)
    (fun b ops checks => ⟨fun rec a h => evRegL P rec b ops checks a h⟩)
    (fun _ _ x y => ⟨fun rec a h => seqK (x.run rec a h) y rec⟩)
    (fun c _ _ x y => ⟨fun rec a h => condK (av a.tmps c) x y rec a h⟩)
    (fun id _ x => ⟨fun rec a h => blockK id (x.run rec a h)⟩)
    (fun c x => ⟨fun rec a h => loopK c (x.run rec a h) rec⟩)
    (fun f ps as bd _ _ => ⟨fun rec a h => evC P rec (.rangeFunc f ps as bd) a h⟩)
    (fun id => ⟨fun _ a h => some (.exit id, a, h)⟩)
    ⟨fun _ a h => some (.ret, a, h)⟩
    ⟨fun _ _ _ => none⟩ c

theorem cloC_eq (P : Program) (rec : Rec) (c : AC) : ∀ (a : AAct) (h : H), (cloC P c).run rec a h = evC P rec c a h := by
  induction c with
  | skip => intro a h; rfl
  | reg ops => intro a h; exact cloOps_eq P rec ops a h
  | regD ops checks cuts =>
    intro a h
    show regK P rec ((cloTr P ops).run rec a.tmps h) ops checks cuts a h = _
    rw [cloTr_eq]; rfl
  | regL b ops checks => intro a h; rfl
  | seq x y ihx ihy =>
    intro a h
    show seqK ((cloC P x).run rec a h) (cloC P y) rec = _
    rw [ihx]
    simp only [evC, seqK]
    split
    · rename_i a' h' he; rw [ihy]; simp only [he]
    · rename_i hne
      split
      · rename_i a' h' he; exact absurd he (hne a' h')
      · rfl
  | cond c x y ihx ihy =>
    intro a h
    show condK (av a.tmps c) (cloC P x) (cloC P y) rec a h = _
    rw [av_eq]
    simp only [evC, condK, ihx, ihy]
    rfl
  | block id x ih =>
    intro a h
    show blockK id ((cloC P x).run rec a h) = _
    rw [ih]; rfl
  | loop c ih =>
    intro a h
    show loopK c ((cloC P c).run rec a h) rec = _
    rw [ih]; rfl
  | rangeFunc f ps as bd _ _ => intro a h; rfl
  | exit id => intro a h; rfl
  | ret => intro a h; rfl
  | stuck => intro a h; rfl


end Go.Ev
