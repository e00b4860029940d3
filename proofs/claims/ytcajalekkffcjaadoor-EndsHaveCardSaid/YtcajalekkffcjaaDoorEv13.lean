/- The evaluator over a small code, and that what it finds of a call holds of the machine, part 13. -/
import Derived.Test.YtcajalekkffcjaaDoorEv12
namespace Go.Ev
open Go Go.RowKit
variable {P:Program} {rec:Rec}
theorem nQ {i j:Nat} (h:i < j):Nat.blt i j=true:=by simpa [Nat.blt_eq] using h
theorem gK {i j:Nat} (h:j<=i):Nat.blt i j=false:=by
 cases hb:Nat.blt i j with
 |false=>rfl
 |true=>rw [Nat.blt_eq] at hb;omega
theorem qx:∀(ops:List Oper) (acc:List Nat),(ez ops acc).length=acc.length+ops.length
 | [],acc=>by simp [ez]
 |o :: r,acc=>by simp [ez,qx r];omega
theorem oN:∀(ops:List Oper) (acc:List Nat) (j:Nat),j < acc.length->(ez ops acc)[j]?=acc[j]?
 | [],_,_,_=>rfl
 |o :: r,acc,j,h=>by
  simp only [ez]
  rw [oN r _ j (by simp;omega),List.getElem?_append_left h]
theorem vw {acc:List Nat} {i:Nat}:∀(es:List Edge),(B6 acc es).testBit i=true->∃e∈es,Region.binds .any e=true/\(i=e.on\/(acc.getD e.on 0).testBit i=true)
 | [],h=>by simp [B6] at h
 |e :: r,h=>by
  simp only [B6] at h
  split at h
  ·rename_i hb
   simp only [Nat.testBit_or,Bool.or_eq_true] at h
   rcases h with h |h |h
   ·refine ⟨e,by simp,hb,.inl ?_⟩
    rw [Nat.testBit_two_pow] at h
    have:=of_decide_eq_true h
    exact this.symm
   ·exact ⟨e,by simp,hb,.inr h⟩
   ·obtain ⟨e',he',hh⟩:=vw r h
    exact ⟨e',by simp [he'],hh⟩
  ·obtain ⟨e',he',hh⟩:=vw r h
   exact ⟨e',by simp [he'],hh⟩
theorem lQ:∀(ops:List Oper) (acc:List Nat),ic ops acc.length=true->∀(j:Nat) (o:Oper) (i:Nat),ops[j]?=some o->bit (ez ops acc) i (acc.length+j)=true->
  ∃e∈o.after,Region.binds .any e=true/\e.on < acc.length+j/\(i=e.on\/bit (ez ops acc) i e.on=true)
 | [],_,_,_,_,_,h,_=>by simp at h
 |o :: r,acc,he,0,o',i,h,hb=>by
  simp only [List.getElem?_cons_zero,Option.some.injEq] at h
  subst h
  simp only [ic,Bool.and_eq_true,List.all_eq_true,Bool.or_eq_true,Bool.not_eq_true'] at he
  have hg:(ez (o :: r) acc)[acc.length]?=some (B6 acc o.after.toList):=by
   simp only [ez]
   rw [oN r _ _ (by simp)]
   simp
  simp only [Nat.add_zero] at hb ⊢
  simp only [bit,List.getD_eq_getElem?_getD,hg,Option.getD_some] at hb
  obtain ⟨e,hem,hbi,hh⟩:=vw _ hb
  have hlt:e.on < acc.length:=by
   rcases he.1 e hem with h1 |h1
   ·rw [hbi] at h1;cases h1
   ·simpa [Nat.blt_eq] using h1
  refine ⟨e,by simpa using hem,hbi,hlt,?_⟩
  rcases hh with hh |hh
  ·exact .inl hh
  ·refine .inr ?_
   simp only [bit,List.getD_eq_getElem?_getD,ez]
   rw [oN r _ _ (by simp;omega),List.getElem?_append_left hlt]
   simpa [List.getD_eq_getElem?_getD] using hh
 |o :: r,acc,he,j+1,o',i,h,hb=>by
  simp only [List.getElem?_cons_succ] at h
  simp only [ic,Bool.and_eq_true] at he
  have hl:(acc++[B6 acc o.after.toList]).length=acc.length+1:=by simp
  have:=lQ r (acc++[B6 acc o.after.toList]) (by rw [hl];exact he.2) j o' i h (by rw [hl];simp only [ez] at hb;rwa [show acc.length+1+j=acc.length+(j+1) by omega])
  rw [hl] at this
  obtain ⟨e,h1,h2,h3,h4⟩:=this
  exact ⟨e,h1,h2,by omega,h4⟩
theorem mc {p:Nat->AO->Nat->AO->Bool}:∀(l:List AO) (k:Nat),pairs p l k=true->∀(i j:Nat) (x y:AO),i < j->l[i]?=some x->l[j]?=some y->p (k+i) x (k+j) y=true
 | [],_,_,_,_,_,_,_,h,_=>by simp at h
 |o :: r,k,hp,i,j,x,y,hij,hi,hj=>by
  simp only [pairs,Bool.and_eq_true] at hp
  cases i with
  |succ i=>
   cases j with
   |zero=>omega
   |succ j=>
    have:=mc r (k+1) hp.2 i j x y (by omega) (by simpa using hi) (by simpa using hj)
    rwa [show k+1+i=k+(i+1) by omega,show k+1+j=k+(j+1) by omega] at this
  |zero=>
   simp only [List.getElem?_cons_zero,Option.some.injEq] at hi
   subst hi
   cases j with
   |zero=>omega
   |succ j=>
    have key:∀(r:List AO) (m:Nat),pairs.xY p k o r m=true->∀(j:Nat) (y:AO),r[j]?=some y->p k o (m+j) y=true:=by
     intro r
     induction r with
     |nil=>intro m _ j y h;simp at h
     |cons q r ih=>
      intro m hm j y h
      simp only [pairs.xY,Bool.and_eq_true] at hm
      cases j with
      |zero=>simp only [List.getElem?_cons_zero,Option.some.injEq] at h;subst h;simpa using hm.1
      |succ j=>
       have:=ih (m+1) hm.2 j y (by simpa using h)
       rwa [show m+1+j=m+(j+1) by omega] at this
    have:=key r (k+1) hp.1 j y (by simpa using hj)
    rwa [show k+1+j=k+(j+1) by omega] at this
theorem me {d:Option Tmp} {l:List Tmp} (h:Gf d l=true) {t:Tmp} (hd:d=some t):t ∉ l:=by
 subst hd
 simpa [Gf] using h
structure vz (P:Program) (rec:Rec) (b:List Nat) (l:List AO) (ts0:List Value) (h0:H) (G:List (List Value × H)) (vs:List Value):Prop where
 plain:∀o∈l,fW o.op=true
 pair:∀(i j:Nat) (x y:AO),i < j->l[i]?=some x->l[j]?=some y->(bit b i j=true\/kR x y=true)/\(bit b i j=true\/ew x.op=false\/ew y.op=false)
 Ho:vs.length=l.length
 MD:G.length=l.length+1
 start:G[0]?=some (ts0,h0)
 step:∀(i:Nat) (o:AO) (v:Value),l[i]?=some o->vs[i]?=some v->∃tsi hi h',G[i]?=some (tsi,hi)/\iE P rec o tsi hi=some (v,h')/\G[i+1]?=some (dB o.dst v tsi,h')
 aC:∀(i:Nat) (o:AO),l[i]?=some o->∀c∈qy b l o i,gG l G c=true
 ME:ET P rec
 s4:∀o∈l,∀f args,o.op= .dA f args->∃g,f= .func g/\mT P g=true
section
variable {b:List Nat} {l:List AO} {ts0:List Value} {h0:H} {G:List (List Value × H)} {vs:List Value} (D:vz P rec b l ts0 h0 G vs)
include D
def Lex (l:List AO) (m:Nat):Nat:=lcs l (fun j=>Nat.blt j m) 0
theorem vz.iG {j:Nat} {o:AO} (hj:l[j]?=some o):Lex l (j+1)=Lex l j+(if ew o.op then 1 else 0):=by
 have _:=D
 unfold Lex
 have h1:=B5 l (fun m=>Nat.blt m j) 0 j o hj (by rw [Nat.zero_add];exact gK (Nat.le_refl _))
 rw [← h1]
 refine iT _ _ _ _ fun m _ _ _=>?_
 simp only [Nat.zero_add]
 rw [Bool.eq_iff_iff]
 simp only [Nat.blt_eq,Bool.or_eq_true,beq_iff_eq]
 omega
theorem vz.val {i:Nat} {o:AO} (hi:l[i]?=some o):∃v,vs[i]?=some v:=by
 have:=(List.getElem?_eq_some_iff.1 hi).1
 exact ⟨vs[i]'(by rw [D.Ho];exact this),by simp⟩
theorem vz.quiet {j:Nat} {o:AO} {ts ts':List Value} {h h':H} (hj:l[j]?=some o) (hq:ew o.op=false) (h1:G[j]?=some (ts,h)) (h2:G[j+1]?=some (ts',h')):h'=h:=by
 obtain ⟨v,hv⟩:=D.val hj
 obtain ⟨tsi,hi,h3,g1,g2,g3⟩:=D.step j o v hj hv
 rw [h1] at g1;cases g1
 rw [h2] at g3;cases g3
 unfold iE at g2
 split at g2
 ·cases hop:o.op<;>rw [hop] at g2 hq<;>simp only [ew,Bool.true_eq_false] at hq<;>simp only at g2<;>first
   |exact mW (by rfl) g2
   |skip
  obtain ⟨gf,rfl,hpf⟩:=D.s4 o (List.mem_of_getElem? hj) _ _ hop
  split at g2
  ·rename_i v' rc1 h1' hcall
   cases g2
   exact (D.ME _ _ _ _ _ _ hpf hcall).1
  ·cases g2
 ·cases g2;rfl
theorem vz.slots:∀(m:Nat),m<=l.length->∃h,G[m]?=some (bP l vs (fun j=>Nat.blt j m) 0 ts0,h):=by
 intro m
 induction m with
 |zero=>
  intro _
  refine ⟨h0,?_⟩
  rw [D.start]
  have:bP l vs (fun j=>Nat.blt j 0) 0 ts0=ts0:=by
   apply List.ext_getElem?
   intro t
   exact jP l vs _ 0 ts0 (fun j o _ _=>gK (Nat.zero_le _))
  rw [this]
 |succ m ih=>
  intro hm
  obtain ⟨h,hg⟩:=ih (by omega)
  have hl:l[m]?=some l[m]:=by simp
  obtain ⟨v,hv⟩:=D.val hl
  obtain ⟨tsi,hi,h3,g1,g2,g3⟩:=D.step m _ v hl hv
  rw [hg] at g1;cases g1
  have e:dB l[m].dst v (bP l vs (fun j=>Nat.blt j m) 0 ts0)=bP l vs (fun j=>Nat.blt j (m+1)) 0 ts0:=by
   rw [← uk (S:=fun j=>Nat.blt j m) hl hv (gK (Nat.le_refl _)) (fun i o' hi _ hs=>by rw [gK (by omega)] at hs;cases hs)]
   refine oM fun i _=>?_
   rw [Bool.eq_iff_iff]
   simp only [Nat.blt_eq,Bool.or_eq_true,beq_iff_eq]
   omega
  exact ⟨h3,by rw [g3,e]⟩
theorem vz.oO:∀(m m':Nat) (ts ts':List Value) (h h':H),m<=m'->Lex l m=Lex l m'->G[m]?=some (ts,h)->G[m']?=some (ts',h')->h'=h:=by
 intro m m'
 induction m' with
 |zero=>
  intro ts ts' h h' hle _ h1 h2
  have:m=0:=by omega
  subst this
  rw [h1] at h2;cases h2;rfl
 |succ m' ih=>
  intro ts ts' h h' hle hL h1 h2
  by_cases he:m=m'+1
  ·subst he;rw [h1] at h2;cases h2;rfl
  ·have hm':m' < l.length:=by
    have:=(List.getElem?_eq_some_iff.1 h2).1
    rw [D.MD] at this;omega
   have hl:l[m']?=some l[m']:=by simp
   have hs:=D.iG hl
   have hmono:Lex l m<=Lex l m':=um _ _ _ _ fun j _ _ _ hp=>by simp [Nat.blt_eq] at hp ⊢;omega
   have hq:ew l[m'].op=false:=by
    cases hq:ew l[m'].op with
    |false=>rfl
    |true=>rw [hq] at hs;simp at hs;omega
   rw [hq] at hs
   obtain ⟨h3,hg⟩:=D.slots m' (by omega)
   have:=D.quiet hl hq hg h2
   rw [this]
   exact ih ts _ h h3 (by omega) (by simp at hs;omega) h1 hg
def vA (l:List AO) (G:List (List Value × H)) (k:Nat) (h:H):Prop:=∃m ts,m<=l.length/\Lex l m=k/\G[m]?=some (ts,h)
theorem vz.rG {k:Nat} {h h':H} (h1:vA l G k h) (h2:vA l G k h'):h'=h:=by
 obtain ⟨m,ts,hm,hL,hg⟩:=h1
 obtain ⟨m',ts',hm',hL',hg'⟩:=h2
 rcases Nat.le_total m m' with hle |hle
 ·exact D.oO m m' ts ts' h h' hle (by omega) hg hg'
 ·exact (D.oO m' m ts' ts h' h hle (by omega) hg' hg).symm
theorem vz.rep:∀(m:Nat),m<=l.length->∃m'∈0 :: EY l 0,m'<=m/\Lex l m'=Lex l m:=by
 intro m
 induction m with
 |zero=>intro _;exact ⟨0,by simp,Nat.le_refl _,rfl⟩
 |succ m ih=>
  intro hm
  have hl:l[m]?=some l[m]:=by simp
  cases hq:ew l[m].op with
  |true=>
   have:=Dd l 0 m _ hl hq
   exact ⟨m+1,by rw [Nat.zero_add] at this;exact List.mem_cons_of_mem _ this,Nat.le_refl _,rfl⟩
  |false=>
   obtain ⟨m',h1,h2,h3⟩:=ih (by omega)
   have hs:=D.iG hl
   rw [hq] at hs
   exact ⟨m',h1,by omega,by rw [h3,hs];simp⟩
theorem vz.one {S:Nat->Bool} (hcl:∀i j,S j=true->bit b i j=true->S i=true) {j:Nat} {o:AO} {v:Value} (hj:l[j]?=some o) (hv:vs[j]?=some v) (hS:S j=false)
  (hready:∀i,bit b i j=true->S i=true) {h:H} (hh:vA l G (lcs l S 0) h):
  ∃h',iE P rec o (bP l vs S 0 ts0) h=some (v,h')/\vA l G (lcs l (fun i=>S i || i == j) 0) h'/\
   bP l vs (fun i=>S i || i == j) 0 ts0=dB o.dst v (bP l vs S 0 ts0):=by
 have hp:=D.plain o (List.mem_of_getElem? hj)
 have hjlt:=(List.getElem?_eq_some_iff.1 hj).1
 obtain ⟨tsj,hj0,hj1,g1,g2,g3⟩:=D.step j o v hj hv
 obtain ⟨hjs,hgs⟩:=D.slots j (by omega)
 rw [hgs] at g1
 simp only [Option.some.injEq,Prod.mk.injEq] at g1
 obtain ⟨rfl,rfl⟩:=g1
 have hlater:∀i x,j < i->l[i]?=some x->bit b j i=true->S i=false:=fun i x _ _ hb=>by
  cases hs:S i with
  |false=>rfl
  |true=>have:=hcl j i hs hb;rw [hS] at this;cases this
 have hlook:∀t∈o.looks,(bP l vs S 0 ts0)[t]?=(bP l vs (fun i=>Nat.blt i j) 0 ts0)[t]?:=fun t ht=>by
  refine lP l vs _ _ 0 ts0 ts0 (fun i x hi hd=>?_) rfl rfl
  simp only [Nat.zero_add]
  rcases Nat.lt_trichotomy i j with hlt |rfl |hgt
  ·rw [nQ hlt]
   rcases (D.pair i j x o hlt hi hj).1 with hb |ha
   ·exact hready i hb
   ·simp only [kR,Bool.and_eq_true] at ha
    exact absurd ht (me ha.1.1 hd)
  ·rw [hS,gK (Nat.le_refl _)]
  ·rw [gK (Nat.le_of_lt hgt)]
   rcases (D.pair j i o x hgt hj hi).1 with hb |ha
   ·exact hlater i x hgt hi hb
   ·simp only [kR,Bool.and_eq_true] at ha
    exact absurd ht (me ha.1.2 hd)
 have hcongr:∀h,iE P rec o (bP l vs S 0 ts0) h=iE P rec o (bP l vs (fun i=>Nat.blt i j) 0 ts0) h:=fun h=>A5 hp hlook
 have hadd:=uk (ts:=ts0) hj hv hS (fun i o' hi hl hs t hd hd'=>by
  rcases (D.pair j i o o' hi hj hl).1 with hb |ha
  ·have:=hlater i o' hi hl hb;rw [hs] at this;cases this
  ·simp only [kR,Bool.and_eq_true] at ha
   rw [hd,hd'] at ha
   simp at ha)
 have hlc:=B5 l S 0 j o hj (by simpa using hS)
 simp only [Nat.zero_add] at hlc
 cases hq:ew o.op with
 |true=>
  have hk:lcs l S 0=Lex l j:=iT _ _ _ _ fun i x hi hl=>by
   simp only [Nat.zero_add]
   rcases Nat.lt_trichotomy i j with hlt |rfl |hgt
   ·rw [nQ hlt]
    rcases (D.pair i j x o hlt hi hj).2 with hb |ha |ha
    ·exact hready i hb
    ·rw [hl] at ha;cases ha
    ·rw [hq] at ha;cases ha
   ·rw [hS,gK (Nat.le_refl _)]
   ·rw [gK (Nat.le_of_lt hgt)]
    rcases (D.pair j i o x hgt hj hi).2 with hb |ha |ha
    ·exact hlater i x hgt hi hb
    ·rw [hq] at ha;cases ha
    ·rw [hl] at ha;cases ha
  have hheap:h=hjs:=D.rG ⟨j,_,by omega,rfl,hgs⟩ (by rw [hk] at hh;exact hh)
  subst hheap
  refine ⟨hj1,by rw [hcongr];exact g2,⟨j+1,_,by omega,?_,g3⟩,hadd⟩
  rw [hlc,hk,hq,D.iG hj,hq]
 |false=>
  have hq1:hj1=hjs:=D.quiet hj hq hgs g3
  subst hq1
  rw [hq] at hlc
  simp only [Bool.false_eq_true,if_false,Nat.add_zero] at hlc
  refine ⟨h,?_,by rw [hlc];exact hh,hadd⟩
  rw [hcongr]
  have key:∀(hw:aq o.guard (bP l vs (fun i=>Nat.blt i j) 0 ts0)=true),af P (bP l vs (fun i=>Nat.blt i j) 0 ts0) hj1 o.op=some (v,hj1)->
    af P (bP l vs (fun i=>Nat.blt i j) 0 ts0) h o.op=some (v,h):=fun hw hx=>by
   cases hn:eJ o.op with
   |false=>exact rE hq hn hx h
   |true=>
    by_cases hk:lcs l S 0=Lex l j
    ·have:h=hj1:=D.rG ⟨j,_,by omega,rfl,hgs⟩ (by rw [hk] at hh;exact hh)
     rw [this];exact hx
    ·obtain ⟨m,tsm,hm,hLm,hgm⟩:=hh
     obtain ⟨m',hmr,hmle,hLm'⟩:=D.rep m hm
     obtain ⟨hm2,hgm2⟩:=D.slots m' (by omega)
     have hheap:h=hm2:=D.oO m' m _ _ hm2 h hmle hLm' hgm2 hgm
     have hlo:lcs l (fun i=>bit b i j) 0<=lcs l S 0:=um _ _ _ _ fun i _ _ _ hb=>hready _ hb
     have hhi:lcs l S 0<=lcs l (fun i=>!(bit b j i)) 0:=um _ _ _ _ fun i _ _ _ hs=>by
      simp only [Nat.zero_add] at hs ⊢
      cases hb:bit b j i with
      |false=>rfl
      |true=>have:=hcl j i hs hb;rw [hS] at this;cases this
     have hmem:(j,m')∈qy b l o j:=by
      unfold qy
      rw [hq,hn]
      simp only [Bool.not_true,Bool.or_self,Bool.false_eq_true,if_false,List.mem_map,List.mem_filter]
      refine ⟨m',⟨hmr,?_⟩,rfl⟩
      have e1:lcs l (fun j=>Nat.blt j m') 0=lcs l S 0:=hLm'.trans hLm
      rw [e1]
      simp only [Bool.and_eq_true,Nat.ble_eq,Bool.not_eq_true']
      refine ⟨⟨hlo,hhi⟩,?_⟩
      cases hbe:Nat.beq (lcs l S 0) (lcs l (fun i=>Nat.blt i j) 0) with
      |false=>rfl
      |true=>exact absurd (Nat.eq_of_beq_eq_true hbe) hk
     have hck:=D.aC j o hj _ hmem
     unfold gG at hck
     simp only [hj,hgs,hgm2] at hck
     rw [if_pos hw] at hck
     cases hop:o.op<;>rw [hop] at hck hx<;>simp only [Bool.false_eq_true] at hck
     rename_i agg n x
     simp only [af] at hx ⊢
     split at hck
     ·rename_i p hp
      rw [hp] at hx ⊢
      simp only at hx ⊢
      unfold c8 at hck
      split at hck
      ·rename_i c1 c2 e1 e2
       have:=jN hck
       subst this
       rw [hheap,e2]
       rw [e1] at hx
       simp only at hx ⊢
       cases agg with
       |true=>simp only [if_true,Option.some.injEq,Prod.mk.injEq,and_true] at hx ⊢;exact hx
       |false=>
        simp only [Bool.false_eq_true,if_false] at hx ⊢
        obtain ⟨v',hv',he⟩:=aa hx
        simp only [Prod.mk.injEq,and_true] at he
        rw [hv',he];rfl
      ·cases hck
     ·cases hck
  unfold iE at g2 ⊢
  split at g2
  ·rename_i hw
   rw [if_pos hw]
   cases hop:o.op<;>rw [hop] at g2 key<;>simp only at g2 ⊢<;>first |exact key hw g2 |(rw [hop] at hq;cases hq;done) |skip
   obtain ⟨gf,rfl,hpf⟩:=D.s4 o (List.mem_of_getElem? hj) _ _ hop
   split at g2
   ·rename_i v' rc1 h1' hcall
    cases g2
    have:=(D.ME _ _ _ _ _ _ hpf hcall).2 h
    simp only [aj] at this ⊢
    rw [this]
   ·cases g2
  ·rename_i hw
   rw [if_neg hw]
   simp only [Option.some.injEq,Prod.mk.injEq,and_true] at g2 ⊢
   exact g2
end
end Go.Ev
