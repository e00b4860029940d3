/- The evaluator over a small code, and that what it finds of a call holds of the machine, part 12. -/
import Derived.Test.YtcajalekkffcjaaDoorEv11
namespace Go.Ev
open Go Go.RowKit
variable {P:Program} {rec:Rec}
def bP:List AO->List Value->(Nat->Bool)->Nat->List Value->List Value
 |o :: r,v :: vs,S,i,ts=>bP r vs S (i+1) (bif S i then dB o.dst v ts else ts)
 |_,_,_,_,ts=>ts
theorem mX (d:Option Tmp) (v:Value) (ts:List Value):(dB d v ts).length=ts.length:=by cases d<;>simp [dB]
theorem kC:∀(r:List AO) (vs:List Value) (S:Nat->Bool) (i:Nat) (ts:List Value),(bP r vs S i ts).length=ts.length
 | [],_,_,_,_=>by simp [bP]
 |_ :: _,[],_,_,_=>by simp [bP]
 |o :: r,v :: vs,S,i,ts=>by
  simp only [bP,kC r]
  cases S i<;>simp [mX]
theorem mY {d:Option Tmp} {v:Value} {ts:List Value} {t:Nat} (h:d≠some t):(dB d v ts)[t]?=ts[t]?:=by
 cases d with
 |none=>rfl
 |some d=>
  have:d≠t:=fun e=>h (by rw [e])
  simp [dB,List.getElem?_set_ne this]
theorem lP {t:Nat}:∀(r:List AO) (vs:List Value) (S S':Nat->Bool) (i:Nat) (ts ts':List Value),
  (∀j o,r[j]?=some o->o.dst=some t->S (i+j)=S' (i+j))->ts[t]?=ts'[t]?->ts.length=ts'.length->(bP r vs S i ts)[t]?=(bP r vs S' i ts')[t]?
 | [],_,_,_,_,_,_,_,h,_=>by simpa [bP] using h
 |_ :: _,[],_,_,_,_,_,_,h,_=>by simpa [bP] using h
 |o :: r,v :: vs,S,S',i,ts,ts',hw,h,hl=>by
  simp only [bP]
  refine lP r vs S S' (i+1) _ _ (fun j o' hj hd=>?_) ?_ ?_
  ·have:=hw (j+1) o' (by simpa using hj) hd
   rwa [show i+1+j=i+(j+1) by omega]
  ·by_cases hd:o.dst=some t
   ·have h0:S i=S' i:=by have:=hw 0 o rfl hd;simpa using this
    rw [← h0]
    cases S i with
    |false=>exact h
    |true=>
     simp only [cond_true,hd,dB,List.getElem?_set_self',h]
   ·have h1:(bif S i then dB o.dst v ts else ts)[t]?=ts[t]?:=by cases S i<;>simp [mY hd]
    have h2:(bif S' i then dB o.dst v ts' else ts')[t]?=ts'[t]?:=by cases S' i<;>simp [mY hd]
    rw [h1,h2,h]
  ·cases S i<;>cases S' i<;>simp [mX,hl]
theorem jP {t:Nat}:∀(r:List AO) (vs:List Value) (S:Nat->Bool) (i:Nat) (ts:List Value),
  (∀j o,r[j]?=some o->o.dst=some t->S (i+j)=false)->(bP r vs S i ts)[t]?=ts[t]?
 | [],_,_,_,_,_=>by simp [bP]
 |_ :: _,[],_,_,_,_=>by simp [bP]
 |o :: r,v :: vs,S,i,ts,hw=>by
  simp only [bP]
  rw [jP r vs S (i+1) _ (fun j o' hj hd=>by have:=hw (j+1) o' (by simpa using hj) hd;rwa [show i+1+j=i+(j+1) by omega])]
  by_cases hd:o.dst=some t
  ·have h0:S i=false:=by have:=hw 0 o rfl hd;simpa using this
   simp [h0]
  ·cases S i<;>simp [mY hd]
theorem A7 {t:Nat}:∀(r:List AO) (vs:List Value) (S:Nat->Bool) (i:Nat) (ts:List Value) (j:Nat) (o:AO) (v:Value),r[j]?=some o->vs[j]?=some v->o.dst=some t->S (i+j)=true->
  (∀j' o',j < j'->r[j']?=some o'->o'.dst=some t->S (i+j')=false)->t < ts.length->(bP r vs S i ts)[t]?=some v
 | [],_,_,_,_,_,_,_,h,_,_,_,_,_=>by simp at h
 |_ :: _,[],_,_,_,_,_,_,_,h,_,_,_,_=>by simp at h
 |o :: r,v :: vs,S,i,ts,0,o',v',h1,h2,hd,hS,hlast,hlt=>by
  simp only [List.getElem?_cons_zero,Option.some.injEq] at h1 h2
  subst h1 h2
  simp only [Nat.add_zero] at hS
  simp only [bP,hS,cond_true]
  rw [jP r vs S (i+1) _ (fun j o' hj hd'=>by have:=hlast (j+1) o' (by omega) (by simpa using hj) hd';rwa [show i+1+j=i+(j+1) by omega])]
  simp [hd,dB,hlt]
 |o :: r,v :: vs,S,i,ts,j+1,o',v',h1,h2,hd,hS,hlast,hlt=>by
  simp only [List.getElem?_cons_succ] at h1 h2
  simp only [bP]
  refine A7 r vs S (i+1) _ j o' v' h1 h2 hd (by rwa [show i+1+j=i+(j+1) by omega]) (fun j' o2 hjj hj' hd'=>?_) ?_
  ·have:=hlast (j'+1) o2 (by omega) (by simpa using hj') hd'
   rwa [show i+1+j'=i+(j'+1) by omega]
  ·cases S i<;>simp [mX,hlt]
theorem uk {l:List AO} {vs:List Value} {S:Nat->Bool} {ts:List Value} {j:Nat} {o:AO} {v:Value} (hj:l[j]?=some o) (hv:vs[j]?=some v) (hS:S j=false)
  (hlast:∀i o',j < i->l[i]?=some o'->S i=true->∀t,o.dst=some t->o'.dst≠some t):
  bP l vs (fun i=>S i || i == j) 0 ts=dB o.dst v (bP l vs S 0 ts):=by
 apply List.ext_getElem?
 intro t
 by_cases hd:o.dst=some t
 ·rw [hd]
  by_cases hlt:t < ts.length
  ·rw [A7 l vs _ 0 ts j o v hj hv hd (by simp) (fun j' o' hjj hj' hd'=>?_) hlt]
   ·simp [dB,kC,hlt]
   ·simp only [Nat.zero_add,Bool.or_eq_false_iff,beq_eq_false_iff_ne]
    refine ⟨?_,by omega⟩
    cases hs:S j' with
    |false=>rfl
    |true=>exact absurd hd' (hlast j' o' hjj hj' hs t hd)
  ·rw [List.getElem?_eq_none (by rw [kC];omega),List.getElem?_eq_none (by rw [mX,kC];omega)]
 ·rw [mY hd]
  refine lP l vs _ _ 0 ts ts (fun i o' hi hd'=>?_) rfl rfl
  simp only [Nat.zero_add]
  by_cases hij:i=j
  ·subst hij;rw [hj] at hi;cases hi;exact absurd hd' hd
  ·simp [hij]
theorem oM {l:List AO} {vs:List Value} {S S':Nat->Bool} {ts:List Value} (hS:∀i,i < l.length->S i=S' i):bP l vs S 0 ts=bP l vs S' 0 ts:=by
 apply List.ext_getElem?
 intro t
 refine lP l vs _ _ 0 ts ts (fun i o hi _=>?_) rfl rfl
 simp only [Nat.zero_add]
 exact hS i (List.getElem?_eq_some_iff.1 hi).1
theorem cZ:∀(l:List AO) (ts:List Value) (h:H) (G:List (List Value × H)),trace P rec l ts h=some G->
  ∃vs:List Value,vs.length=l.length/\G.length=l.length+1/\G[0]?=some (ts,h)/\
   ∀(i:Nat) (o:AO) (v:Value),l[i]?=some o->vs[i]?=some v->∃tsi hi h',G[i]?=some (tsi,hi)/\iE P rec o tsi hi=some (v,h')/\G[i+1]?=some (dB o.dst v tsi,h')
 | [],ts,h,G,ht=>by
   simp only [trace,Option.some.injEq] at ht
   subst ht
   exact ⟨[],rfl,rfl,rfl,fun i o v hi=>by simp at hi⟩
 |o :: r,ts,h,G,ht=>by
  simp only [trace] at ht
  split at ht
  ·rename_i v h' hv
   obtain ⟨G',hG',rfl⟩:=aa ht
   obtain ⟨vs,h1,h2,h3,h4⟩:=cZ r _ h' G' hG'
   refine ⟨v :: vs,by simp [h1],by simp [h2],rfl,fun i o' v' hi hvi=>?_⟩
   cases i with
   |zero=>
    simp only [List.getElem?_cons_zero,Option.some.injEq] at hi hvi
    subst hi hvi
    exact ⟨ts,h,h',rfl,hv,by simpa using h3⟩
   |succ i=>simpa using h4 i o' v' (by simpa using hi) (by simpa using hvi)
  ·cases ht
theorem iT:∀(l:List AO) (p q:Nat->Bool) (i:Nat),(∀j o,l[j]?=some o->ew o.op=true->p (i+j)=q (i+j))->lcs l p i=lcs l q i
 | [],_,_,_,_=>rfl
 |o :: r,p,q,i,h=>by
  simp only [lcs]
  rw [iT r p q (i+1) (fun j o' hj hl=>by have:=h (j+1) o' (by simpa using hj) hl;rwa [show i+1+j=i+(j+1) by omega])]
  cases hl:ew o.op with
  |false=>simp
  |true=>have:=h 0 o rfl hl;simp only [Nat.add_zero] at this;rw [this]
theorem um:∀(l:List AO) (p q:Nat->Bool) (i:Nat),(∀j o,l[j]?=some o->ew o.op=true->p (i+j)=true->q (i+j)=true)->lcs l p i<=lcs l q i
 | [],_,_,_,_=>Nat.le_refl _
 |o :: r,p,q,i,h=>by
  simp only [lcs]
  have ih:=um r p q (i+1) (fun j o' hj hl hp=>by have:=h (j+1) o' (by simpa using hj) hl (by rwa [show i+(j+1)=i+1+j by omega]);rwa [show i+1+j=i+(j+1) by omega])
  cases hl:ew o.op with
  |false=>simpa using ih
  |true=>
   have:=h 0 o rfl hl
   simp only [Nat.add_zero] at this
   cases hp:p i with
   |false=>simp;omega
   |true=>rw [this hp];simp;omega
theorem B5:∀(l:List AO) (p:Nat->Bool) (i j:Nat) (o:AO),l[j]?=some o->p (i+j)=false->
  lcs l (fun m=>p m || m == i+j) i=lcs l p i+(if ew o.op then 1 else 0)
 | [],_,_,_,_,h,_=>by simp at h
 |o :: r,p,i,0,o',h,hp=>by
  simp only [List.getElem?_cons_zero,Option.some.injEq] at h
  subst h
  simp only [Nat.add_zero] at hp ⊢
  simp only [lcs,hp,beq_self_eq_true,Bool.or_true,Bool.and_true]
  have:lcs r (fun m=>p m || m == i) (i+1)=lcs r p (i+1):=iT _ _ _ _ fun j o' _ _=>by
   have:(i+1+j == i)=false:=by simp;omega
   simp [this]
  rw [this]
  cases ew o.op<;>simp [Nat.add_comm]
 |o :: r,p,i,j+1,o',h,hp=>by
  simp only [List.getElem?_cons_succ] at h
  have ih:=B5 r p (i+1) j o' h (by rwa [show i+1+j=i+(j+1) by omega])
  rw [show i+1+j=i+(j+1) by omega] at ih
  simp only [lcs,ih]
  have:(i == i+(j+1))=false:=by simp
  simp only [this,Bool.or_false]
  omega
theorem Dd:∀(l:List AO) (i j:Nat) (o:AO),l[j]?=some o->ew o.op=true->(i+j+1)∈EY l i
 | [],_,_,_,h,_=>by simp at h
 |o :: r,i,0,o',h,hl=>by
  simp only [List.getElem?_cons_zero,Option.some.injEq] at h
  subst h
  simp [EY,hl]
 |o :: r,i,j+1,o',h,hl=>by
  simp only [List.getElem?_cons_succ] at h
  have:=Dd r (i+1) j o' h hl
  rw [show i+1+j+1=i+(j+1)+1 by omega] at this
  simp only [EY]
  split
  ·exact List.mem_cons_of_mem _ this
  ·exact this
end Go.Ev
