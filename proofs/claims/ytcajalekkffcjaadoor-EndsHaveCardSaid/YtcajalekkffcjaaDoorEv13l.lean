/- The evaluator over a small code, and that what it finds of a call holds of the machine, part 13l. -/
import Derived.Test.YtcajalekkffcjaaDoorEv13
import Derived.Test.YtcajalekkffcjaaDoorEv11m
namespace Go.Ev
open Go Go.RowKit
variable {P:Program} {rec:Rec}
theorem gW:∀(l:List AO) (p q:Nat->Bool) (i:Nat),(∀j o,l[j]?=some o->cL o=true->p (i+j)=q (i+j))->gr l p i=gr l q i
 | [],_,_,_,_=>rfl
 |o :: r,p,q,i,h=>by
  simp only [gr]
  rw [gW r p q (i+1) (fun j o' hj hl=>by have:=h (j+1) o' (by simpa using hj) hl;rwa [show i+1+j=i+(j+1) by omega])]
  cases hl:cL o with
  |false=>simp
  |true=>have:=h 0 o rfl hl;simp only [Nat.add_zero] at this;rw [this]
theorem iU:∀(l:List AO) (p q:Nat->Bool) (i:Nat),(∀j o,l[j]?=some o->cL o=true->p (i+j)=true->q (i+j)=true)->gr l p i<=gr l q i
 | [],_,_,_,_=>Nat.le_refl _
 |o :: r,p,q,i,h=>by
  simp only [gr]
  have ih:=iU r p q (i+1) (fun j o' hj hl hp=>by have:=h (j+1) o' (by simpa using hj) hl (by rwa [show i+(j+1)=i+1+j by omega]);rwa [show i+1+j=i+(j+1) by omega])
  cases hl:cL o with
  |false=>simpa using ih
  |true=>
   have:=h 0 o rfl hl
   simp only [Nat.add_zero] at this
   cases hp:p i with
   |false=>simp;omega
   |true=>rw [this hp];simp;omega
theorem yE:∀(l:List AO) (p:Nat->Bool) (i j:Nat) (o:AO),l[j]?=some o->p (i+j)=false->
  gr l (fun m=>p m || m == i+j) i=gr l p i+(if cL o then 1 else 0)
 | [],_,_,_,_,h,_=>by simp at h
 |o :: r,p,i,0,o',h,hp=>by
  simp only [List.getElem?_cons_zero,Option.some.injEq] at h
  subst h
  simp only [Nat.add_zero] at hp ⊢
  simp only [gr,hp,beq_self_eq_true,Bool.or_true,Bool.and_true]
  have:gr r (fun m=>p m || m == i) (i+1)=gr r p (i+1):=gW _ _ _ _ fun j o' _ _=>by
   have:(i+1+j == i)=false:=by simp;omega
   simp [this]
  rw [this]
  cases cL o<;>simp [Nat.add_comm]
 |o :: r,p,i,j+1,o',h,hp=>by
  simp only [List.getElem?_cons_succ] at h
  have ih:=yE r p (i+1) j o' h (by rwa [show i+1+j=i+(j+1) by omega])
  rw [show i+1+j=i+(j+1) by omega] at ih
  simp only [gr,ih]
  have:(i == i+(j+1))=false:=by simp
  simp only [this,Bool.or_false]
  omega
theorem A8:∀(l:List AO) (i j:Nat) (o:AO),l[j]?=some o->cL o=true->(i+j+1)∈yF l i
 | [],_,_,_,h,_=>by simp at h
 |o :: r,i,0,o',h,hl=>by
  simp only [List.getElem?_cons_zero,Option.some.injEq] at h
  subst h
  simp [yF,hl]
 |o :: r,i,j+1,o',h,hl=>by
  simp only [List.getElem?_cons_succ] at h
  have:=A8 r (i+1) j o' h hl
  rw [show i+1+j+1=i+(j+1)+1 by omega] at this
  simp only [yF]
  split
  ·exact List.mem_cons_of_mem _ this
  ·exact this
theorem iN (p:Nat->Bool) (base:Nat):∀(F:List (Nat × eo)) (h:H),(br p base F h).next=h.next
 | [],_=>rfl
 |(j,b) :: F,h=>by
  simp only [br]
  rw [iN p base F]
  cases p j with
  |true=>simp only [cond_true,jc];split<;>rfl
  |false=>rfl
theorem AA {h:H} {r i:Nat} {b c:eo} (hg:h.get i=some c):(jc h r b).get i=some c:=by
 unfold jc
 split
 ·rename_i hn
  have:r≠i:=fun e=>by subst e;rw [hn] at hg;cases hg
  rw [H.ah h b this];exact hg
 ·exact hg
theorem cH {p:Nat->Bool} {base i:Nat} {c:eo}:∀{F:List (Nat × eo)} {h:H},h.get i=some c->(br p base F h).get i=some c
 | [],_,hg=>hg
 |(j,b) :: F,h,hg=>by
  simp only [br]
  refine cH ?_
  cases p j with
  |true=>exact AA hg
  |false=>exact hg
theorem wH {h:H} {r i:Nat} {b:eo} (hne:i≠r):(jc h r b).get i=h.get i:=by
 unfold jc
 split
 ·exact H.ah h b (Ne.symm hne)
 ·rfl
theorem kS {p:Nat->Bool} {base i:Nat}:∀{F:List (Nat × eo)} {h:H},(∀j b,(j,b)∈F->p j=true->i≠base+j)->(br p base F h).get i=h.get i
 | [],_,_=>rfl
 |(j,b) :: F,h,hne=>by
  simp only [br]
  rw [kS (fun j' b' hm hp=>hne j' b' (List.mem_cons_of_mem _ hm) hp)]
  cases hp:p j with
  |true=>exact wH (hne j b (List.mem_cons_self ..) hp)
  |false=>rfl
def De (F:List (Nat × eo)):Prop:=∀j b b',(j,b)∈F->(j,b')∈F->b=b'
theorem eO {p:Nat->Bool} {base j:Nat} {b:eo}:∀{F:List (Nat × eo)} {h:H},De F->(j,b)∈F->p j=true->h.get (base+j)=none->(br p base F h).get (base+j)=some b
 |(j',b') :: F,h,hu,hm,hp,hg=>by
  simp only [br]
  by_cases e:j'=j
  ·subst e
   have hb:b'=b:=hu j' b' b (List.mem_cons_self ..) hm
   subst hb
   rw [hp]
   simp only [cond_true]
   have:(jc h (base+j') b').get (base+j')=some b':=by unfold jc;rw [hg];exact H.an _ _ _
   exact cH this
  ·have hm':(j,b)∈F:=by
    rcases List.mem_cons.1 hm with h1 |h1
    ·simp only [Prod.mk.injEq] at h1;exact absurd h1.1.symm e
    ·exact h1
   refine eO (fun j b b' h1 h2=>hu j b b' (List.mem_cons_of_mem _ h1) (List.mem_cons_of_mem _ h2)) hm' hp ?_
   cases p j' with
   |true=>simp only [cond_true];rw [wH (by omega)];exact hg
   |false=>exact hg
theorem ig {p:Nat->Bool} {base i:Nat} {F:List (Nat × eo)} {h:H} (hu:De F) {c:eo} (hg:(br p base F h).get i=some c):
  h.get i=some c\/(h.get i=none/\∃j,i=base+j/\(j,c)∈F/\p j=true):=by
 cases hh:h.get i with
 |some d=>rw [cH hh] at hg;exact .inl hg
 |none=>
  right
  by_cases he:∃j b,(j,b)∈F/\p j=true/\i=base+j
  ·obtain ⟨j,b,h1,h2,rfl⟩:=he
   rw [eO hu h1 h2 hh] at hg
   cases hg
   exact ⟨rfl,j,rfl,h1,h2⟩
  ·rw [kS (fun j b h1 h2 e=>he ⟨j,b,h1,h2,e⟩),hh] at hg
   cases hg
theorem Df {b:List Nat} {base i:Nat} {o:AO} {s s':LS} (hs:gq P rec b base i o s=some s'):
  ∃v,s'.ts=dB o.dst v s.ts/\
   ((aq o.guard s.ts=false/\v=undef/\s'.h=s.h/\s'.F=s.F)\/
    (aq o.guard s.ts=true/\fV o.op=true/\∃ob,eN (base+i) s.ts o.op=some (v,ob)/\s'.h=s.h/\s'.F=s.F++(ob.toList.map fun b=>(i,b)))\/
    (aq o.guard s.ts=true/\fV o.op=false/\s'.F=s.F/\∃h',iE P rec o s.ts (br (fun j=>dW b j i) base s.F s.h)=some (v,h')/\s'.h=(bif ew o.op then h' else s.h))):=by
 unfold gq at hs
 split at hs
 ·rename_i hw
  cases hf:fV o.op with
  |true=>
   rw [hf] at hs
   simp only [cond_true] at hs
   obtain ⟨x,h1,rfl⟩:=aa hs
   exact ⟨x.1,rfl,.inr (.inl ⟨hw,rfl,x.2,h1,rfl,rfl⟩)⟩
  |false=>
   rw [hf] at hs
   simp only [cond_false] at hs
   obtain ⟨x,h1,rfl⟩:=aa hs
   exact ⟨x.1,rfl,.inr (.inr ⟨hw,rfl,rfl,x.2,h1,rfl⟩)⟩
 ·rename_i hw
  cases hs
  exact ⟨undef,rfl,.inl ⟨by simpa using hw,rfl,rfl,rfl⟩⟩
theorem wI {b:List Nat} {base:Nat}:∀(l:List AO) (i:Nat) (s:LS) (K:List LS),dz P rec b base l i s=some K->
  K.length=l.length+1/\K[0]?=some s/\∀(j:Nat) (o:AO),l[j]?=some o->∃sj s',K[j]?=some sj/\K[j+1]?=some s'/\gq P rec b base (i+j) o sj=some s'
 | [],i,s,K,ht=>by
   simp only [dz,Option.some.injEq] at ht
   subst ht
   exact ⟨rfl,rfl,fun j o h=>by simp at h⟩
 |o :: r,i,s,K,ht=>by
  simp only [dz] at ht
  split at ht
  ·rename_i s' hs
   obtain ⟨K',hK',rfl⟩:=aa ht
   obtain ⟨h1,h2,h3⟩:=wI r (i+1) s' K' hK'
   refine ⟨by simp [h1],rfl,fun j o' hj=>?_⟩
   cases j with
   |zero=>
    simp only [List.getElem?_cons_zero,Option.some.injEq] at hj
    subst hj
    exact ⟨s,s',rfl,by simpa using h2,hs⟩
   |succ j=>
    have:=h3 j o' (by simpa using hj)
    rw [show i+1+j=i+(j+1) by omega] at this
    simpa using this
  ·cases ht
theorem vB:∀(r:List LS) (s:LS),(s :: r)[r.length]?=some (nP s r)
 | [],_=>rfl
 |x :: r,s=>by simpa [nP] using vB r x
structure jg (P:Program) (rec:Rec) (b:List Nat) (base:Nat) (l:List AO) (ts0:List Value) (h0:H) (K:List LS) (vs:List Value) (F:List (Nat × eo)):Prop where
 plain:∀o∈l,fW o.op=true
 pair:∀(i j:Nat) (x y:AO),i < j->l[i]?=some x->l[j]?=some y->(bit b i j=true\/kR x y=true)/\(bit b i j=true\/cL x=false\/cL y=false)
 back:∀i j,bit b i j=true->i < j
 Ho:vs.length=l.length
 NH:K.length=l.length+1
 start:K[0]?=some ⟨ts0,h0,[]⟩
 room:base+l.length<=h0.next
 dU:P.globals.size<=base
 bare:∀i,base<=i->h0.get i=none
 step:∀(i:Nat) (o:AO) (v:Value),l[i]?=some o->vs[i]?=some v->∃s s',K[i]?=some s/\K[i+1]?=some s'/\s'.ts=dB o.dst v s.ts/\
   ((aq o.guard s.ts=false/\v=undef/\s'.h=s.h/\s'.F=s.F)\/
    (aq o.guard s.ts=true/\fV o.op=true/\∃ob,eN (base+i) s.ts o.op=some (v,ob)/\s'.h=s.h/\s'.F=s.F++(ob.toList.map fun b=>(i,b)))\/
    (aq o.guard s.ts=true/\fV o.op=false/\s'.F=s.F/\∃h',iE P rec o s.ts (br (fun j=>dW b j i) base s.F s.h)=some (v,h')/\s'.h=(bif ew o.op then h' else s.h)))
 fin:∃s,K[l.length]?=some s/\s.F=F
 aC:∀(i:Nat) (o:AO),l[i]?=some o->∀c∈nR b l o i,oL b base l F K c=true
 ME:ET P rec
 mono:A2 P.globals.size rec
 s4:∀o∈l,∀f args,o.op= .dA f args->∃g,f= .func g/\mT P g=true
section
variable {b:List Nat} {base:Nat} {l:List AO} {ts0:List Value} {h0:H} {K:List LS} {vs:List Value} {F:List (Nat × eo)} (D:jg P rec b base l ts0 h0 K vs F)
include D
def jh (l:List AO) (m:Nat):Nat:=gr l (fun j=>Nat.blt j m) 0
theorem jg.iG {j:Nat} {o:AO} (hj:l[j]?=some o):jh l (j+1)=jh l j+(if cL o then 1 else 0):=by
 have _:=D
 unfold jh
 have h1:=yE l (fun m=>Nat.blt m j) 0 j o hj (by rw [Nat.zero_add];exact gK (Nat.le_refl _))
 rw [← h1]
 refine gW _ _ _ _ fun m _ _ _=>?_
 simp only [Nat.zero_add]
 rw [Bool.eq_iff_iff]
 simp only [Nat.blt_eq,Bool.or_eq_true,beq_iff_eq]
 omega
theorem jg.val {i:Nat} {o:AO} (hi:l[i]?=some o):∃v,vs[i]?=some v:=by
 have:=(List.getElem?_eq_some_iff.1 hi).1
 exact ⟨vs[i]'(by rw [D.Ho];exact this),by simp⟩
theorem jg.slots:∀(m:Nat),m<=l.length->∃s,K[m]?=some s/\s.ts=bP l vs (fun j=>Nat.blt j m) 0 ts0:=by
 intro m
 induction m with
 |zero=>
  intro _
  refine ⟨_,D.start,?_⟩
  apply List.ext_getElem?
  intro t
  exact (jP l vs _ 0 ts0 (fun j o _ _=>by show Nat.blt _ 0=false;exact gK (Nat.zero_le _))).symm
 |succ m ih=>
  intro hm
  obtain ⟨s,hs,hts⟩:=ih (by omega)
  have hl:l[m]?=some l[m]:=by simp
  obtain ⟨v,hv⟩:=D.val hl
  obtain ⟨s1,s',g1,g2,g3,_⟩:=D.step m _ v hl hv
  rw [hs] at g1;cases g1
  refine ⟨s',g2,?_⟩
  rw [g3,hts]
  rw [← uk (S:=fun j=>Nat.blt j m) hl hv (gK (Nat.le_refl _)) (fun i o' hi _ hs=>by rw [gK (by omega)] at hs;cases hs)]
  refine oM fun i _=>?_
  rw [Bool.eq_iff_iff]
  simp only [Nat.blt_eq,Bool.or_eq_true,beq_iff_eq]
  omega
theorem jg.ki:∀(m:Nat),m<=l.length->∀s,K[m]?=some s->∀j c,(j,c)∈s.F->j < m:=by
 intro m
 induction m with
 |zero=>
  intro _ s hs j c hm
  rw [D.start] at hs;cases hs;cases hm
 |succ m ih=>
  intro hm s hs j c hmem
  have hl:l[m]?=some l[m]:=by simp
  obtain ⟨v,hv⟩:=D.val hl
  obtain ⟨s1,s',g1,g2,_,g4⟩:=D.step m _ v hl hv
  rw [hs] at g2;cases g2
  have ih':=ih (by omega) s1 g1
  rcases g4 with ⟨_,_,_,hF⟩ |⟨_,_,ob,_,_,hF⟩ |⟨_,_,hF,_⟩
  ·rw [hF] at hmem;have:=ih' j c hmem;omega
  ·rw [hF,List.mem_append] at hmem
   rcases hmem with hmem |hmem
   ·have:=ih' j c hmem;omega
   ·cases ob with
    |none=>cases hmem
    |some bb=>simp at hmem;omega
  ·rw [hF] at hmem;have:=ih' j c hmem;omega
theorem jg.Hp {m:Nat} {s s':LS} (hm:m < l.length) (hs:K[m]?=some s) (hs':K[m+1]?=some s'):∀j c,(j,c)∈s'.F->j < m->(j,c)∈s.F:=by
 intro j c hmem hlt
 have hl:l[m]?=some l[m]:=by simp
 obtain ⟨v,hv⟩:=D.val hl
 obtain ⟨s1,s2,g1,g2,_,g4⟩:=D.step m _ v hl hv
 rw [hs] at g1;cases g1
 rw [hs'] at g2;cases g2
 rcases g4 with ⟨_,_,_,hF⟩ |⟨_,_,ob,_,_,hF⟩ |⟨_,_,hF,_⟩
 ·rwa [hF] at hmem
 ·rw [hF,List.mem_append] at hmem
  rcases hmem with hmem |hmem
  ·exact hmem
  ·cases ob with
   |none=>cases hmem
   |some bb=>simp at hmem;omega
 ·rwa [hF] at hmem
theorem jg.Hq {m:Nat} {s s':LS} (hm:m < l.length) (hs:K[m]?=some s) (hs':K[m+1]?=some s'):∀j c,(j,c)∈s.F->(j,c)∈s'.F:=by
 intro j c hmem
 have hl:l[m]?=some l[m]:=by simp
 obtain ⟨v,hv⟩:=D.val hl
 obtain ⟨s1,s2,g1,g2,_,g4⟩:=D.step m _ v hl hv
 rw [hs] at g1;cases g1
 rw [hs'] at g2;cases g2
 rcases g4 with ⟨_,_,_,hF⟩ |⟨_,_,ob,_,_,hF⟩ |⟨_,_,hF,_⟩
 ·rwa [hF]
 ·rw [hF,List.mem_append];exact .inl hmem
 ·rwa [hF]
theorem jg.K5:∀(n m:Nat),m+n=l.length->∀s,K[m]?=some s->∀j c,(j,c)∈s.F↔(j,c)∈F/\j < m:=by
 intro n
 induction n with
 |zero=>
  intro m hm s hs j c
  obtain ⟨s',h1,h2⟩:=D.fin
  have:m=l.length:=by omega
  subst this
  rw [hs] at h1;cases h1
  rw [← h2]
  exact ⟨fun h=>⟨h,D.ki _ (Nat.le_refl _) s hs j c h⟩,fun h=>h.1⟩
 |succ n ih=>
  intro m hm s hs j c
  have hlt:m < l.length:=by omega
  obtain ⟨s',hs',_⟩:=D.slots (m+1) (by omega)
  have:=ih (m+1) (by omega) s' hs' j c
  constructor
  ·intro h
   have h1:=(this.1 (D.Hq hlt hs hs' j c h)).1
   exact ⟨h1,D.ki m (by omega) s hs j c h⟩
  ·intro h
   exact D.Hp hlt hs hs' j c (this.2 ⟨h.1,by omega⟩) h.2
theorem jg.made {m:Nat} {s:LS} (hm:m<=l.length) (hs:K[m]?=some s) (j:Nat) (c:eo):(j,c)∈s.F↔(j,c)∈F/\j < m:=D.K5 (l.length - m) m (by omega) s hs j c
theorem jg.B7:∀(m:Nat),m<=l.length->∀s,K[m]?=some s->De s.F:=by
 intro m
 induction m with
 |zero=>
  intro _ s hs j c c' h1
  rw [D.start] at hs;cases hs;cases h1
 |succ m ih=>
  intro hm s hs j c c' h1 h2
  have hl:l[m]?=some l[m]:=by simp
  obtain ⟨v,hv⟩:=D.val hl
  obtain ⟨s1,s',g1,g2,_,g4⟩:=D.step m _ v hl hv
  rw [hs] at g2;cases g2
  have ih':=ih (by omega) s1 g1
  have hlt:=D.ki m (by omega) s1 g1
  rcases g4 with ⟨_,_,_,hF⟩ |⟨_,_,ob,_,_,hF⟩ |⟨_,_,hF,_⟩
  ·rw [hF] at h1 h2;exact ih' j c c' h1 h2
  ·rw [hF,List.mem_append] at h1 h2
   cases ob with
   |none=>
    rcases h1 with h1 |h1
    ·rcases h2 with h2 |h2
     ·exact ih' j c c' h1 h2
     ·cases h2
    ·cases h1
   |some bb=>
    simp only [Option.toList_some,List.map_cons,List.map_nil,List.mem_singleton,Prod.mk.injEq] at h1 h2
    rcases h1 with h1 |⟨rfl,rfl⟩
    ·rcases h2 with h2 |⟨rfl,rfl⟩
     ·exact ih' j c c' h1 h2
     ·have:=hlt _ _ h1;omega
    ·rcases h2 with h2 |⟨_,rfl⟩
     ·have:=hlt _ _ h2;omega
     ·rfl
  ·rw [hF] at h1 h2;exact ih' j c c' h1 h2
theorem jg.uniq:De F:=by
 obtain ⟨s,h1,h2⟩:=D.fin
 rw [← h2]
 exact D.B7 _ (Nat.le_refl _) s h1
theorem jg.oO:∀(m m':Nat) (s s':LS),m<=m'->jh l m=jh l m'->K[m]?=some s->K[m']?=some s'->s'.h=s.h:=by
 intro m m'
 induction m' with
 |zero=>
  intro s s' hle _ h1 h2
  have:m=0:=by omega
  subst this
  rw [h1] at h2;cases h2;rfl
 |succ m' ih=>
  intro s s' hle hL h1 h2
  by_cases he:m=m'+1
  ·subst he;rw [h1] at h2;cases h2;rfl
  ·have hm':m' < l.length:=by
    have:=(List.getElem?_eq_some_iff.1 h2).1
    rw [D.NH] at this;omega
   have hl:l[m']?=some l[m']:=by simp
   have hs:=D.iG hl
   have hmono:jh l m<=jh l m':=iU _ _ _ _ fun j _ _ _ hp=>by simp [Nat.blt_eq] at hp ⊢;omega
   have hq:cL l[m']=false:=by
    cases hq:cL l[m'] with
    |false=>rfl
    |true=>rw [hq] at hs;simp at hs;omega
   rw [hq] at hs
   obtain ⟨v,hv⟩:=D.val hl
   obtain ⟨s1,s2,g1,g2,_,g4⟩:=D.step m' _ v hl hv
   rw [h2] at g2;cases g2
   have e1:=ih s s1 (by omega) (by simp at hs;omega) h1 g1
   rw [← e1]
   rcases g4 with ⟨_,_,hh,_⟩ |⟨_,_,ob,_,hh,_⟩ |⟨_,hf,_,h',_,hh⟩
   ·exact hh
   ·exact hh
   ·have:ew l[m'].op=false:=by
     simp only [cL,hf,Bool.not_false,Bool.and_true] at hq
     exact hq
    rw [this] at hh;exact hh
omit D in
theorem IX {o:AO} {ts:List Value} {h h':H} {v:Value} (hm:A2 P.globals.size rec) {r:Nat} (hg:P.globals.size<=r) (hlt:r < h.next) (hn:h.get r=none) (hx:iE P rec o ts h=some (v,h')):h'.get r=none/\r < h'.next:=by
 have p:bS ⟨fun i=>if i=r then some .dead else none,fun _=>False,0⟩ h (h.set r .dead):=by
  refine ⟨rfl,fun i=>?_,fun i hd=>hd.elim,Nat.zero_le _⟩
  by_cases e:i=r
  ·subst e
   simp only [if_true]
   exact ⟨hn,H.an _ _ _,hlt⟩
  ·simp only [if_neg e]
   exact H.ah h _ (Ne.symm e)
 obtain ⟨h2',_,q⟩:=qu hm (X:=⟨fun i=>if i=r then some .dead else none,fun _=>False,0⟩) (fun i hi=>by simp only;rw [if_neg (by omega)]) p hx
 have:=q.2.1 r
 simp only [if_true] at this
 exact ⟨this.1,this.2.2⟩
omit D in
theorem IY {o:AO} {ts:List Value} {h h':H} {v:Value} (hm:A2 P.globals.size rec) (hx:iE P rec o ts h=some (v,h')):h.next<=h'.next:=by
 have p:bS ⟨fun _=>none,fun _=>False,h.next⟩ h h:=⟨rfl,fun i=>rfl,fun i hd=>hd.elim,Nat.le_refl _⟩
 obtain ⟨h2',_,q⟩:=qu hm (X:=⟨fun _=>none,fun _=>False,h.next⟩) (fun i _=>rfl) p hx
 exact q.2.2.2
theorem jg.hole:∀(m:Nat),m<=l.length->∀s,K[m]?=some s->base+l.length<=s.h.next/\∀j,j < l.length->s.h.get (base+j)≠none->∃i o,i < m/\l[i]?=some o/\cL o=true/\bit b j i=true:=by
 intro m
 induction m with
 |zero=>
  intro _ s hs
  rw [D.start] at hs;cases hs
  exact ⟨D.room,fun j hj hne=>absurd (D.bare _ (by omega)) hne⟩
 |succ m ih=>
  intro hm s hs
  have hl:l[m]?=some l[m]:=by simp
  obtain ⟨v,hv⟩:=D.val hl
  obtain ⟨s1,s',g1,g2,_,g4⟩:=D.step m _ v hl hv
  rw [hs] at g2;cases g2
  obtain ⟨i1,i2⟩:=ih (by omega) s1 g1
  have same:s.h=s1.h->base+l.length<=s.h.next/\∀j,j < l.length->s.h.get (base+j)≠none->∃i o,i < m+1/\l[i]?=some o/\cL o=true/\bit b j i=true:=by
   intro e
   rw [e]
   exact ⟨i1,fun j hj hne=>by obtain ⟨i,o,h1,h2⟩:=i2 j hj hne;exact ⟨i,o,by omega,h2⟩⟩
  rcases g4 with ⟨_,_,hh,_⟩ |⟨_,_,ob,_,hh,_⟩ |⟨_,hf,_,h',hx,hh⟩
  ·exact same hh
  ·exact same hh
  ·cases hq:ew l[m].op with
   |false=>rw [hq] at hh;exact same hh
   |true=>
    rw [hq] at hh
    simp only [cond_true] at hh
    have hst:cL l[m]=true:=by simp [cL,hq,hf]
    have hnx:=iN (fun j=>dW b j m) base s1.F s1.h
    have hole:∀r,P.globals.size<=r->r < s1.h.next->(br (fun j=>dW b j m) base s1.F s1.h).get r=none->h'.get r=none/\r < h'.next:=fun r hg hlt hn=>IX (P:=P) (rec:=rec) D.mono hg (by rw [hnx];exact hlt) hn hx
    refine ⟨?_,fun j hj hne=>?_⟩
    ·rw [hh]
     have:=IY (P:=P) (rec:=rec) D.mono hx
     rw [hnx] at this
     omega
    ·rw [hh] at hne
     by_cases hn:(br (fun j=>dW b j m) base s1.F s1.h).get (base+j)=none
     ·exact absurd (hole (base+j) (by have:=D.dU;omega) (by omega) hn).1 hne
     ·obtain ⟨c,hc⟩:=Option.ne_none_iff_exists'.1 hn
      rcases ig (D.B7 m (by omega) s1 g1) hc with h1 |⟨_,j',he,_,hb⟩
      ·obtain ⟨i,o,k1,k2⟩:=i2 j hj (by rw [h1];simp)
       exact ⟨i,o,by omega,k2⟩
      ·have:j'=j:=by omega
       subst this
       exact ⟨m,l[m],by omega,hl,hst,hb⟩
def vC (base:Nat) (l:List AO) (K:List LS) (F:List (Nat × eo)) (S:Nat->Bool) (h:H):Prop:=
 ∃m s,m<=l.length/\K[m]?=some s/\jh l m=gr l S 0/\h.next=s.h.next/\∀i,h.get i=(br S base F s.h).get i
theorem jg.xZ {S:Nat->Bool} {h:H} (hh:vC base l K F S h) {m:Nat} {s:LS} (hs:K[m]?=some s) (hL:jh l m=gr l S 0):h.next=s.h.next/\∀i,h.get i=(br S base F s.h).get i:=by
 obtain ⟨m',s',h1,h2,h3,h4,h5⟩:=hh
 have:s'.h=s.h:=by
  rcases Nat.le_total m m' with hle |hle
  ·exact D.oO m m' s s' hle (by omega) hs h2
  ·exact (D.oO m' m s' s hle (by omega) h2 hs).symm
 rw [← this];exact ⟨h4,h5⟩
theorem jg.rep:∀(m:Nat),m<=l.length->∃m'∈0 :: yF l 0,m'<=m/\jh l m'=jh l m:=by
 intro m
 induction m with
 |zero=>intro _;exact ⟨0,by simp,Nat.le_refl _,rfl⟩
 |succ m ih=>
  intro hm
  have hl:l[m]?=some l[m]:=by simp
  cases hq:cL l[m] with
  |true=>
   have:=A8 l 0 m _ hl hq
   exact ⟨m+1,by rw [Nat.zero_add] at this;exact List.mem_cons_of_mem _ this,Nat.le_refl _,rfl⟩
  |false=>
   obtain ⟨m',h1,h2,h3⟩:=ih (by omega)
   have hs:=D.iG hl
   rw [hq] at hs
   exact ⟨m',h1,by omega,by rw [h3,hs];simp⟩
omit D in
theorem jQ {p q:Nat->Bool} {F':List (Nat × eo)} {hh:H} (hu:De F) (hu':De F') (hF:∀j c,(j,c)∈F'->p j=true->(j,c)∈F/\q j=true) {i:Nat} {c:eo} (hg:(br p base F' hh).get i=some c):(br q base F hh).get i=some c:=by
 rcases ig hu' hg with h1 |⟨hn,j,rfl,hm,hp⟩
 ·exact cH h1
 ·obtain ⟨h1,h2⟩:=hF j c hm hp
  exact eO hu h1 h2 hn
noncomputable def qz (h h2:H):XD:=⟨fun i=>match h.get i with |none=>h2.get i |some _=>none,fun i=>h.get i≠none,0⟩
omit D in
theorem A9 {h h2:H} (hn:h2.next=h.next) (hs:∀i c,h.get i=some c->h2.get i=some c) (ht:∀i,h.get i=none->h2.get i≠none->i < h.next):bS (qz h h2) h h2:=by
 refine ⟨hn,fun i=>?_,fun i hd=>hd,Nat.zero_le _⟩
 unfold qz
 cases hg:h.get i with
 |some c=>
  simp only [hg]
  exact hs i c hg
 |none=>
  simp only [hg]
  cases hg2:h2.get i with
  |none=>simp
  |some c=>simp only;exact ⟨trivial,trivial,ht i hg (by rw [hg2];simp)⟩
end
end Go.Ev
