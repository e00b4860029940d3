/- The evaluator over a small code, and that what it finds of a call holds of the machine, part 16p. -/
import Derived.Test.YtcajalekkffcjaaDoorEv15
namespace Go.Ev
open Go Go.RowKit
variable {P:Program} {rec:Rec}
def Dp:j8->Bool
 | .move _ | .pick _ _ _ | .lp _ _ _=>true
 |_=>false
theorem E4 {o:Oper} (h:Cc P o=true) {ao:j8} (hc:dQ P o=some ao):Dp ao=true:=by
 obtain ⟨dst,op,ty,pos,after,guard⟩:=o
 cases op<;>simp only [Cc,Bool.false_eq_true] at h
 case move x=>simp only [dQ,Option.some.injEq] at hc;subst hc;rfl
 case assign x=>simp only [dQ,Option.some.injEq] at hc;subst hc;rfl
 case pick c a b=>simp only [dQ,Option.some.injEq] at hc;subst hc;rfl
 case binOp op t x y r=>
  split at h
  ·rename_i k hu
   simp only [dQ,hu,Option.some.injEq] at hc
   subst hc;rfl
  ·cases h
def Ma (a:aD) (F:H->Option (aM × aD × H)):Prop:=
 ∃r:Option (aM × aD),(∀h,F h=r.map fun p=>(p.1,p.2,h))/\∀p,r=some p->p.2.defers=a.defers/\p.2.rc=a.rc
theorem I8 {o:AO} (hn:Dp o.op=true) (a:aD):∃r:Option Value,∀h,cG P rec o a h=r.map fun v=>Step.on (a.put o.dst v) h:=by
 by_cases hw:aq o.guard a.tmps=true
 ·have hl:ew o.op=false:=by cases hop:o.op<;>rw [hop] at hn<;>first |rfl |cases hn
  have hh:eJ o.op=false:=by cases hop:o.op<;>rw [hop] at hn<;>first |rfl |cases hn
  obtain ⟨g,hg⟩:=yz (P:=P) (ts:=a.tmps) hl hh
  refine ⟨g,fun h=>?_⟩
  have h1:=hg h
  unfold cG
  rw [if_pos hw]
  cases hop:o.op<;>rw [hop] at hn h1<;>simp only [Dp,Bool.false_eq_true] at hn<;>simp only [h1]<;>cases g<;>rfl
 ·refine ⟨some undef,fun h=>?_⟩
  unfold cG
  rw [if_neg hw];rfl
theorem Ba:∀(l:List AO),(l.all fun o=>Dp o.op)=true->∀a,Ma a (eW P rec l a)
 | [],_,a=>⟨some (.normal,a),fun _=>rfl,fun p hp=>by cases hp;exact ⟨rfl,rfl⟩⟩
 |o :: l,hl,a=>by
  simp only [List.all_cons,Bool.and_eq_true] at hl
  obtain ⟨r,hr⟩:=I8 (P:=P) (rec:=rec) hl.1 a
  cases r with
  |none=>exact ⟨none,fun h=>by simp only [eW,hr];rfl,fun p hp=>by cases hp⟩
  |some v=>
   obtain ⟨r2,h2,h3⟩:=Ba l hl.2 (a.put o.dst v)
   exact ⟨r2,fun h=>by simp only [eW,hr,Option.map_some];exact h2 h,fun p hp=>h3 p hp⟩
theorem Bb {ops:Array Oper}:∀(r:List Oper) (l:List AO),iS P ops r=some l->(r.all (Cc P))=true->(l.all fun o=>Dp o.op)=true
 | [],l,h,_=>by simp only [iS,Option.some.injEq] at h;subst h;rfl
 |x :: r,l,h,hp=>by
  obtain ⟨ao,m,rfl,h1,h2⟩:=oG h
  simp only [List.all_cons,Bool.and_eq_true] at hp ⊢
  exact ⟨E4 hp.1 (mU h1).1,Bb r m h2 hp.2⟩
theorem I7:∀(c:Code),iK P c=true->∀a,Ma a (cT P rec (cl P c) a):=by
 intro c
 induction c with
 |skip=>intro _ a;exact ⟨some (.normal,a),fun _=>rfl,fun p hp=>by cases hp;exact ⟨rfl,rfl⟩⟩
 |exit id=>intro _ a;exact ⟨some (.exit id,a),fun _=>rfl,fun p hp=>by cases hp;exact ⟨rfl,rfl⟩⟩
 |ret=>intro _ a;exact ⟨some (.ret,a),fun _=>rfl,fun p hp=>by cases hp;exact ⟨rfl,rfl⟩⟩
 |region id ops draw=>
  intro h a
  simp only [iK,Bool.and_eq_true,Bool.not_eq_true'] at h
  obtain ⟨rfl,hall⟩:=h
  simp only [cl,Ca]
  cases hl:iS P ops ops.toList with
  |none=>exact ⟨none,fun _=>rfl,fun p hp=>by cases hp⟩
  |some l=>exact Ba l (Bb _ _ hl hall) a
 |seq x y ihx ihy=>
  intro h a
  simp only [iK,Bool.and_eq_true] at h
  obtain ⟨r,h1,h2⟩:=ihx h.1 a
  cases r with
  |none=>exact ⟨none,fun hh=>by simp only [cl,cT,h1];rfl,fun p hp=>by cases hp⟩
  |some p=>
   obtain ⟨x',a'⟩:=p
   obtain ⟨e1,e2⟩:=h2 _ rfl
   cases x' with
   |normal=>
    obtain ⟨r2,h3,h4⟩:=ihy h.2 a'
    exact ⟨r2,fun hh=>by simp only [cl,cT,h1,Option.map_some];exact h3 hh,fun p hp=>by
     obtain ⟨f1,f2⟩:=h4 p hp
     exact ⟨f1.trans e1,f2.trans e2⟩⟩
   |exit id'=>exact ⟨some (.exit id',a'),fun hh=>by simp only [cl,cT,h1,Option.map_some],fun p hp=>by cases hp;exact ⟨e1,e2⟩⟩
   |ret=>exact ⟨some (.ret,a'),fun hh=>by simp only [cl,cT,h1,Option.map_some],fun p hp=>by cases hp;exact ⟨e1,e2⟩⟩
   |panic v=>exact ⟨some (.panic v,a'),fun hh=>by simp only [cl,cT,h1,Option.map_some],fun p hp=>by cases hp;exact ⟨e1,e2⟩⟩
 |cond c x y ihx ihy=>
  intro h a
  simp only [iK,Bool.and_eq_true] at h
  simp only [cl]
  cases uq P c with
  |false=>exact ⟨none,fun _=>rfl,fun p hp=>by cases hp⟩
  |true=>
   simp only [cond_true]
   obtain ⟨r1,h1,h2⟩:=ihx h.1 a
   obtain ⟨r2,h3,h4⟩:=ihy h.2 a
   cases hv:aj a.tmps c with
   |bool t=>
    cases t with
    |true=>exact ⟨r1,fun hh=>by simp only [cT,hv];exact h1 hh,h2⟩
    |false=>exact ⟨r2,fun hh=>by simp only [cT,hv];exact h3 hh,h4⟩
   |_=>exact ⟨none,fun hh=>by simp only [cT,hv];rfl,fun p hp=>by cases hp⟩
 |block id x ih=>
  intro h a
  simp only [iK] at h
  obtain ⟨r,h1,h2⟩:=ih h a
  cases r with
  |none=>exact ⟨none,fun hh=>by simp only [cl,cT,h1];rfl,fun p hp=>by cases hp⟩
  |some p=>
   obtain ⟨x',a'⟩:=p
   obtain ⟨e1,e2⟩:=h2 _ rfl
   cases x' with
   |exit id'=>
    by_cases hid:id'=id
    ·exact ⟨some (.normal,a'),fun hh=>by simp only [cl,cT,h1,Option.map_some,if_pos hid],fun p hp=>by cases hp;exact ⟨e1,e2⟩⟩
    ·exact ⟨some (.exit id',a'),fun hh=>by simp only [cl,cT,h1,Option.map_some,if_neg hid],fun p hp=>by cases hp;exact ⟨e1,e2⟩⟩
   |normal=>exact ⟨some (.normal,a'),fun hh=>by simp only [cl,cT,h1,Option.map_some],fun p hp=>by cases hp;exact ⟨e1,e2⟩⟩
   |ret=>exact ⟨some (.ret,a'),fun hh=>by simp only [cl,cT,h1,Option.map_some],fun p hp=>by cases hp;exact ⟨e1,e2⟩⟩
   |panic v=>exact ⟨some (.panic v,a'),fun hh=>by simp only [cl,cT,h1,Option.map_some],fun p hp=>by cases hp;exact ⟨e1,e2⟩⟩
 |_=>intro h;simp [iK] at h
end Go.Ev
