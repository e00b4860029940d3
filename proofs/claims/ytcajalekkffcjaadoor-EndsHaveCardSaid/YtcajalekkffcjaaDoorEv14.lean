/- The evaluator over a small code, and that what it finds of a call holds of the machine, part 14. -/
import Derived.Test.YtcajalekkffcjaaDoorEv13
namespace Go.Ev
open Go Go.RowKit
variable {P:Program} {rec:Rec}
theorem jR {ops:Array Oper}:∀(r:List Oper) (l:List AO),iS P ops r=some l->l.length=r.length/\∀(i:Nat) (o:Oper),r[i]?=some o->∃ao,l[i]?=some ao/\wD P ops o=some ao
 | [],l,h=>by simp only [iS,Option.some.injEq] at h;subst h;exact ⟨rfl,fun i o hi=>by simp at hi⟩
 |o :: r,l,h=>by
  obtain ⟨ao,m,rfl,h1,h2⟩:=oG h
  obtain ⟨h3,h4⟩:=jR r m h2
  refine ⟨by simp [h3],fun i o' hi=>?_⟩
  cases i with
  |zero=>simp only [List.getElem?_cons_zero,Option.some.injEq] at hi;subst hi;exact ⟨ao,rfl,h1⟩
  |succ i=>simpa using h4 i o' (by simpa using hi)
theorem oP {ops:Array Oper}:∀(r:List Oper) (l:List AO),iS P ops r=some l->∀o∈l,∀f args,o.op= .dA f args->∃g,f= .func g/\mT P g=true
 | [],l,h,o,ho,_,_,_=>by simp only [iS,Option.some.injEq] at h;subst h;cases ho
 |x :: r,l,h,o,ho,f,args,hop=>by
  obtain ⟨ao,m,rfl,h1,h2⟩:=oG h
  rcases List.mem_cons.1 ho with rfl |ho
  ·have:=(mU h1).1
   rw [hop] at this
   exact C5 this
  ·exact oP r m h2 o ho f args hop
theorem mg {b:List Nat} {l:List AO}:∀(r:List AO) (k j:Nat) (o:AO),r[j]?=some o->∀c∈qy b l o (k+j),c∈fC b l r k
 | [],_,_,_,h,_,_=>by simp at h
 |o :: r,k,0,o',h,c,hc=>by
  simp only [List.getElem?_cons_zero,Option.some.injEq] at h
  subst h
  simp only [fC,List.mem_append]
  exact .inl hc
 |o :: r,k,j+1,o',h,c,hc=>by
  simp only [fC,List.mem_append]
  refine .inr (mg r (k+1) j o' (by simpa using h) c ?_)
  rwa [show k+1+j=k+(j+1) by omega]
theorem qA {o:AO} (hp:fW o.op=true) {a:aD} {h h':H} {v:Value} (hx:iE P rec o a.tmps h=some (v,h')):cG P rec o a h=some (.on (a.put o.dst v) h'):=by
 unfold iE at hx
 unfold cG
 split at hx
 ·rename_i hw
  rw [if_pos hw]
  cases hop:o.op<;>rw [hop] at hx hp<;>simp only [fW,Bool.false_eq_true] at hp hx ⊢<;>(try (rw [hx];done))
  case dA f args=>
   split at hx
   ·rename_i v' rc h1 hc
    cases hx
    rw [hc]
   ·cases hx
  case call f args=>
   split at hx
   ·rename_i v' rc h1 hc
    cases hx
    rw [hc]
   ·cases hx
 ·rename_i hw
  rw [if_neg hw]
  cases hx;rfl
theorem nS {o:AO} (hp:fW o.op=true) {a:aD} {ts ts':List Value} {h h':H} {v:Value} {a1:aD} (hc:∀t∈o.looks,ts[t]?=ts'[t]?)
  (hx:cG P rec o {a with tmps:=ts} h=some (.panic v a1 h')):a1={a with tmps:=ts}/\cG P rec o {a with tmps:=ts'} h=some (.panic v {a with tmps:=ts'} h'):=by
 have hev:∀x∈o.op.vu,aj ts x=aj ts' x:=fun x hx=>by
  cases x with
  |tmp t=>
   have:=hc t (by simp only [AO.looks,List.mem_append];exact .inr (oI hx))
   simp only [aj,List.getD_eq_getElem?_getD,this]
  |_=>rfl
 have hw:aq o.guard ts=aq o.guard ts':=by
  unfold aq
  cases hg:o.guard with
  |none=>rfl
  |some p=>
   obtain ⟨t,b⟩:=p
   have:=hc t (by simp [AO.looks,hg])
   simp only [this]
 unfold cG at hx ⊢
 simp only [← hw]
 split at hx
 ·rename_i hwt
  rw [if_pos hwt]
  cases hop:o.op<;>rw [hop] at hx hp hev<;>simp only [fW,Bool.false_eq_true] at hp<;>simp only at hx ⊢<;>try (split at hx<;>cases hx;done)
  all_goals
   rename_i f args
   have h1:aj ts f=aj ts' f:=hev f (by simp [j8.vu])
   have h2:=gz (l:=args) fun x hx=>hev x (by simp [j8.vu,hx])
   rw [← h1,← h2]
   split at hx
   ·cases hx
   ·rename_i v' rc h1' hcall
    cases hx
    exact ⟨rfl,rfl⟩
   ·cases hx
 ·cases hx
theorem wJ:∀(l:List Tmp) (ts:List Value) (t:Nat),nO ((ij l ts).getD t undef)=true\/((t < ts.length->t ∉ l)/\(ij l ts).getD t undef=ts.getD t undef)
 | [],_,_=>.inr ⟨(fun _ h=>(by cases h)),rfl⟩
 |x :: l,ts,t=>by
  simp only [ij]
  rcases wJ l (ts.set x K6) t with h |⟨h1,h2⟩
  ·exact .inl h
  ·rw [List.length_set] at h1
   by_cases hx:t=x
   ·subst hx
    by_cases hlt:t < ts.length
    ·left
     rw [h2]
     simp [List.getD_eq_getElem?_getD,hlt]
     rfl
    ·right
     refine ⟨fun h=>absurd h hlt,?_⟩
     rw [h2,List.set_eq_of_length_le (by omega)]
   ·right
    refine ⟨fun h hm=>?_,?_⟩
    ·rcases List.mem_cons.1 hm with e |hm
     ·exact hx e
     ·exact h1 h hm
    ·rw [h2]
     simp only [List.getD_eq_getElem?_getD,List.getElem?_set_ne (Ne.symm hx)]
theorem wK {b:List Nat} {n:Nat}:∀(r:List AO) (k j:Nat) (x:AO) (t:Tmp),r[j]?=some x->k+j < n->x.dst=some t->bit b (k+j) n=true\/t∈oQ b n r k
 | [],_,_,_,_,h,_,_=>by simp at h
 |o :: r,k,0,x,t,h,hlt,hd=>by
  simp only [List.getElem?_cons_zero,Option.some.injEq] at h
  subst h
  simp only [Nat.add_zero] at hlt ⊢
  simp only [oQ,hd,List.mem_append]
  cases hb:bit b k n with
  |true=>exact .inl rfl
  |false=>right;left;simp [Nat.blt_eq,hlt]
 |o :: r,k,j+1,x,t,h,hlt,hd=>by
  have:=wK (b:=b) (n:=n) r (k+1) j x t (by simpa using h) (show k+1+j < n by omega) hd
  rw [show k+1+j=k+(j+1) by omega] at this
  rcases this with h |h
  ·exact .inl h
  ·exact .inr (by simp only [oQ,List.mem_append];exact .inr h)
theorem oR:∀(U:List Nat),U≠[]->∃m∈U,∀i∈U,m<=i
 | [],h=>absurd rfl h
 | [x],_=>⟨x,by simp,fun i hi=>by simp at hi;omega⟩
 |x :: y :: U,_=>by
  obtain ⟨m,hm,hle⟩:=oR (y :: U) (by simp)
  by_cases hx:x<=m
  ·exact ⟨x,by simp,fun i hi=>by
    rcases List.mem_cons.1 hi with rfl |hi
    ·exact Nat.le_refl _
    ·exact Nat.le_trans hx (hle i hi)⟩
  ·exact ⟨m,by simp [List.mem_cons.1 hm],fun i hi=>by
    rcases List.mem_cons.1 hi with rfl |hi
    ·omega
    ·exact hle i hi⟩
theorem lA:∀(r:List Oper) (k j:Nat) (o:Oper),ic r k=true->r[j]?=some o->∀e∈o.after,Region.binds .any e=true->e.on < k+j
 | [],_,_,_,_,h,_,_,_=>by simp at h
 |o :: r,k,0,o',he,h,e,hem,hb=>by
  simp only [List.getElem?_cons_zero,Option.some.injEq] at h
  subst h
  simp only [ic,Bool.and_eq_true,List.all_eq_true,Bool.or_eq_true,Bool.not_eq_true'] at he
  rcases he.1 e (by simpa using hem) with h1 |h1
  ·rw [hb] at h1;cases h1
  ·rw [Nat.blt_eq] at h1;omega
 |o :: r,k,j+1,o',he,h,e,hem,hb=>by
  simp only [ic,Bool.and_eq_true] at he
  have:=lA r (k+1) j o' he.2 (by simpa using h) e hem hb
  omega
section
variable {ops:Array Oper} {l:List AO} {ts0:List Value} {h0:H} {G:List (List Value × H)} {vs:List Value} {N:Nat} {w0:World}
theorem Hr (hrec:l8 P rec) (D:vz P rec (ez ops.toList []) l ts0 h0 G vs) (hedges:ic ops.toList 0=true) (hcomp:iS P ops ops.toList=some l) {b:Frame} {k:List Item} {a:aD} {hF:H} {tsF:List Value}
  (hfin:G[l.length]?=some (tsF,hF)):
  ∀(fuel t:Nat) (listed:Array Bool) (U:List Nat) (ρ:bz) (w:World) (ca:Act) (cs:List Frame) (h:H),
   U.Nodup->(∀i,i∈U↔i < ops.size/\listed.getD i true=false)->U.length=fuel->listed.size=ops.size->
   (∀i j,listed.getD j false=true->bit (ez ops.toList []) i j=true->listed.getD i false=true)->
   bW P ρ N w0 h w->eT ρ b cs {a with tmps:=bP l vs (fun i=>listed.getD i false) 0 ts0} ca->vA l G (lcs l (fun i=>listed.getD i false) 0) h->
   jM P ρ N w0 (lone (b.atR ca (.inRegion ops (Region.linearise.go .any ops fuel t listed []) :: k)) cs w) b k cs {a with tmps:=bP l vs (fun i=>listed.getD i false) 0 ts0} .normal {a with tmps:=tsF} hF:=by
 obtain ⟨hll,hlget⟩:=jR _ _ hcomp
 have hlen:l.length=ops.size:=by simpa using hll
 intro fuel
 induction fuel with
 |zero=>
  intro t listed U ρ w ca cs h hnd hU hlenU hsz hcl hR hs hh
  have hall:∀i,i < ops.size->listed.getD i false=true:=fun i hi=>by
   have hnm:i ∉ U:=by rw [List.eq_nil_of_length_eq_zero hlenU];simp
   rw [hU] at hnm
   have h1:listed.getD i true=true:=by
    cases hc:listed.getD i true with
    |true=>rfl
    |false=>exact absurd ⟨hi,hc⟩ hnm
   have hlt:i < listed.size:=by omega
   simp only [Array.getD_eq_getD_getElem?,Array.getElem?_eq_getElem hlt,Option.getD_some] at h1 ⊢
   exact h1
  have hputs:bP l vs (fun i=>listed.getD i false) 0 ts0=tsF:=by
   obtain ⟨hx,hg⟩:=D.slots l.length (Nat.le_refl _)
   rw [hfin] at hg
   simp only [Option.some.injEq,Prod.mk.injEq] at hg
   rw [hg.1]
   exact oM fun i hi=>by rw [hall i (by omega),nQ (by omega)]
  have hheap:h=hF:=by
   refine D.rG ⟨l.length,tsF,Nat.le_refl _,rfl,hfin⟩ ?_
   have:lcs l (fun i=>listed.getD i false) 0=Lex l l.length:=iT _ _ _ _ fun i o hi _=>by
    have:=(List.getElem?_eq_some_iff.1 hi).1
    simp only [Nat.zero_add]
    rw [hall i (by omega),nQ (by omega)]
   rw [← this];exact hh
  subst hheap
  simp only [Region.linearise.go,List.reverse_nil]
  refine ⟨ρ,w,ca,cs,ρ.le_refl,hR,?_,kQ.refl _ _,rfl,.one stepR_region_end⟩
  rw [← hputs];exact hs.1
 |succ fuel ih=>
  intro t listed U ρ w ca cs h hnd hU hlenU hsz hcl hR hs hh
  obtain ⟨m,hmU,hmin⟩:=oR U (by intro e;rw [e] at hlenU;simp at hlenU)
  have hmr:m∈Region.ready .any ops listed:=by
   rw [mem_ready]
   obtain ⟨hm1,hm2⟩:=(hU m).1 hmU
   refine ⟨hm2,ops[m],by simp,fun e he hb=>?_⟩
   have hlt:=lA ops.toList 0 m ops[m] hedges (by simp) e he hb
   have hnot:e.on ∉ U:=fun hc=>by have:=hmin _ hc;omega
   rw [hU] at hnot
   have hsz':e.on < listed.size:=by omega
   simp only [Array.getD_eq_getD_getElem?,Array.getElem?_eq_getElem hsz',Option.getD_some] at hnot ⊢
   cases hc:listed[e.on] with
   |true=>rfl
   |false=>exact absurd ⟨by omega,hc⟩ hnot
  simp only [Region.linearise.go]
  change jM P ρ N w0 (lone (b.atR ca (.inRegion ops (match (Region.ready .any ops listed)[t % (Region.ready .any ops listed).length]? with
   |some i=>Region.linearise.go .any ops fuel (t / (Region.ready .any ops listed).length) (listed.setIfInBounds i true) [i]
   |none=>[].reverse) :: k)) cs w) b k cs _ .normal _ hF
  obtain ⟨i,hi⟩:∃i,(Region.ready .any ops listed)[t % (Region.ready .any ops listed).length]?=some i:=by
   have hpos:0 < (Region.ready .any ops listed).length:=List.length_pos_of_mem hmr
   exact ⟨_,List.getElem?_eq_getElem (Nat.mod_lt _ hpos)⟩
  rw [hi]
  simp only []
  rw [linearise_go_acc,List.reverse_singleton,List.singleton_append]
  have hir:=List.mem_of_getElem? hi
  obtain ⟨hif,o,ho,hedge⟩:=mem_ready.1 hir
  have hilt:i < ops.size:=(Array.getElem?_eq_some_iff.1 ho).1
  have hilt':i < listed.size:=by omega
  obtain ⟨ao,hao,hco⟩:=hlget i o (by simpa using ho)
  obtain ⟨v,hv⟩:=D.val hao
  have hSi:listed.getD i false=false:=by
   simp only [Array.getD_eq_getD_getElem?,Array.getElem?_eq_getElem hilt',Option.getD_some] at hif ⊢
   exact hif
  have hready:∀j,bit (ez ops.toList []) j i=true->listed.getD j false=true:=fun j hb=>by
   obtain ⟨e,he,hbe,_,hh'⟩:=lQ ops.toList [] hedges i o j (by simpa using ho) (by simpa using hb)
   have:=hedge e he hbe
   rcases hh' with rfl |hh'
   ·exact this
   ·exact hcl _ _ this hh'
  obtain ⟨h1,hop,hh1,hputs⟩:=D.one (S:=fun i=>listed.getD i false) hcl hao hv hSi hready hh
  have hp:=D.plain ao (List.mem_of_getElem? hao)
  have hev:=qA (P:=P) (rec:=rec) hp (a:={a with tmps:=bP l vs (fun i=>listed.getD i false) 0 ts0}) hop
  obtain ⟨ρ1,w1,ca1,cs1,hle1,hR1,hact1,hcs1,hrd1,hst1⟩:=rC hrec hR ho hco hs (rest:=Region.linearise.go .any ops fuel (t / (Region.ready .any ops listed).length) (listed.setIfInBounds i true) []) hev k
  have hs1:=hs.next hle1 hact1 hcs1 hrd1
  have hS':∀j,(listed.setIfInBounds i true).getD j false=(listed.getD j false || j == i):=fun j=>by
   by_cases hji:j=i
   ·subst hji
    simp [Array.getD_eq_getD_getElem?,hilt']
   ·have:(j == i)=false:=by simpa using hji
    rw [this,Bool.or_false,getD_set_ne false (Ne.symm hji)]
  have hfun:(fun j=>(listed.setIfInBounds i true).getD j false)=fun j=>(listed.getD j false || j == i):=funext hS'
  have hstate:({a with tmps:=bP l vs (fun i=>listed.getD i false) 0 ts0}:aD).put ao.dst v={a with tmps:=bP l vs (fun j=>(listed.setIfInBounds i true).getD j false) 0 ts0}:=by
   rw [hfun,hputs];rfl
  rw [hstate] at hs1 hcs1 hrd1
  have hiU:i∈U:=(hU i).2 ⟨hilt,hif⟩
  have hrec2:=ih (t / (Region.ready .any ops listed).length) (listed.setIfInBounds i true) (U.erase i) ρ1 w1 ca1 cs1 h1 (hnd.erase i) (fun j=>by
    rw [hnd.mem_erase_iff,hU]
    by_cases hji:j=i
    ·subst hji
     simp [Array.getD_eq_getD_getElem?,hilt']
    ·rw [getD_set_ne true (Ne.symm hji)]
     simp [hji]) (by rw [List.length_erase_of_mem hiU,hlenU];rfl) (by simpa using hsz) (fun x y hy hb=>by
    rw [hS'] at hy ⊢
    simp only [Bool.or_eq_true,beq_iff_eq] at hy ⊢
    rcases hy with hy |rfl
    ·exact .inl (hcl x y hy hb)
    ·exact .inl (hready x hb)) hR1 hs1 (by rw [hfun];exact hh1)
  obtain ⟨ρ2,w2,ca2,cs2,hle2,hR2,hact2,hcs2,hrd2,harr⟩:=hrec2
  exact ⟨ρ2,w2,ca2,cs2,bz.le_trans hle1 hle2,hR2,hact2,hcs1.trans hcs2,rfl,EJ.of_steps hst1 harr⟩
theorem IZ (hrec:l8 P rec) {n:Nat} (D:vz P rec (ez ops.toList []) (l.take n) ts0 h0 G vs) (hedges:ic ops.toList 0=true) (hcomp:iS P ops ops.toList=some l) (hplain:∀o∈l,fW o.op=true)
  (hpair:∀(i j:Nat) (x y:AO),i < j->l[i]?=some x->l[j]?=some y->bit (ez ops.toList []) i j=true\/kR x y=true)
  (hn:n < l.length) (hcut:Gg (ez ops.toList []) l n=true) {dirty:List Tmp} (hdirty:∀(j:Nat) (x:AO) (t:Tmp),j < n->l[j]?=some x->x.dst=some t->bit (ez ops.toList []) j n=true\/t∈dirty) {b:Frame} {k:List Item} {a:aD} {hn1 h':H} {tsn:List Value} {aon:AO} {v:Value} {a1:aD}
  (hgn:G[n]?=some (tsn,hn1)) (haon:l[n]?=some aon) (hpan:cG P rec aon {a with tmps:=tsn} hn1=some (.panic v a1 h')):
  ∀(fuel t:Nat) (listed:Array Bool) (U:List Nat) (ρ:bz) (w:World) (ca:Act) (cs:List Frame) (h:H),
   U.Nodup->(∀i,i∈U↔i < ops.size/\listed.getD i true=false)->U.length=fuel->listed.size=ops.size->listed.getD n false=false->
   (∀i j,listed.getD j false=true->bit (ez ops.toList []) i j=true->listed.getD i false=true)->
   bW P ρ N w0 h w->eT ρ b cs {a with tmps:=bP (l.take n) vs (fun i=>listed.getD i false) 0 ts0} ca->vA (l.take n) G (lcs (l.take n) (fun i=>listed.getD i false) 0) h->
   jM P ρ N w0 (lone (b.atR ca (.inRegion ops (Region.linearise.go .any ops fuel t listed []) :: k)) cs w) b k cs {a with tmps:=bP (l.take n) vs (fun i=>listed.getD i false) 0 ts0} (.panic v) {a with tmps:=ij dirty tsn} h':=by
 obtain ⟨hll,hlget⟩:=jR _ _ hcomp
 have hlen:l.length=ops.size:=by simpa using hll
 have htl:(l.take n).length=n:=by rw [List.length_take];omega
 have hcutj:∀j,j < l.length->j≠n->if j < n then (bit (ez ops.toList []) j n=true\/∀o,l[j]?=some o->ew o.op=false) else bit (ez ops.toList []) n j=true:=fun j hj hne=>by
  have:=List.all_eq_true.1 hcut j (by simpa using hj)
  simp only [Bool.or_eq_true] at this
  rcases this with h |h
  ·exact absurd (Nat.eq_of_beq_eq_true h) hne
  ·by_cases hlt:j < n
   ·rw [if_pos hlt];rw [nQ hlt] at h
    simp only [if_true,Bool.or_eq_true] at h
    rcases h with h |h
    ·exact .inl h
    ·refine .inr fun o ho=>?_
     rw [ho] at h;simpa using h
   ·rw [if_neg hlt];rw [gK (by omega)] at h;simpa using h
 intro fuel
 induction fuel with
 |zero=>
  intro t listed U ρ w ca cs h hnd hU hlenU hsz hln hcl hR hs hh
  have:n∈U:=by
   rw [hU]
   refine ⟨by omega,?_⟩
   have hlt:n < listed.size:=by omega
   simp only [Array.getD_eq_getD_getElem?,Array.getElem?_eq_getElem hlt,Option.getD_some] at hln ⊢
   exact hln
  rw [List.eq_nil_of_length_eq_zero hlenU] at this
  cases this
 |succ fuel ih=>
  intro t listed U ρ w ca cs h hnd hU hlenU hsz hln hcl hR hs hh
  obtain ⟨m,hmU,hmin⟩:=oR U (by intro e;rw [e] at hlenU;simp at hlenU)
  have hmr:m∈Region.ready .any ops listed:=by
   rw [mem_ready]
   obtain ⟨hm1,hm2⟩:=(hU m).1 hmU
   refine ⟨hm2,ops[m],by simp,fun e he hb=>?_⟩
   have hlt:=lA ops.toList 0 m ops[m] hedges (by simp) e he hb
   have hnot:e.on ∉ U:=fun hc=>by have:=hmin _ hc;omega
   rw [hU] at hnot
   have hsz':e.on < listed.size:=by omega
   simp only [Array.getD_eq_getD_getElem?,Array.getElem?_eq_getElem hsz',Option.getD_some] at hnot ⊢
   cases hc:listed[e.on] with
   |true=>rfl
   |false=>exact absurd ⟨by omega,hc⟩ hnot
  simp only [Region.linearise.go]
  change jM P ρ N w0 (lone (b.atR ca (.inRegion ops (match (Region.ready .any ops listed)[t % (Region.ready .any ops listed).length]? with
   |some i=>Region.linearise.go .any ops fuel (t / (Region.ready .any ops listed).length) (listed.setIfInBounds i true) [i]
   |none=>[].reverse) :: k)) cs w) b k cs _ (.panic v) _ h'
  obtain ⟨i,hi⟩:∃i,(Region.ready .any ops listed)[t % (Region.ready .any ops listed).length]?=some i:=by
   have hpos:0 < (Region.ready .any ops listed).length:=List.length_pos_of_mem hmr
   exact ⟨_,List.getElem?_eq_getElem (Nat.mod_lt _ hpos)⟩
  rw [hi]
  simp only []
  rw [linearise_go_acc,List.reverse_singleton,List.singleton_append]
  have hir:=List.mem_of_getElem? hi
  obtain ⟨hif,o,ho,hedge⟩:=mem_ready.1 hir
  have hilt:i < ops.size:=(Array.getElem?_eq_some_iff.1 ho).1
  have hilt':i < listed.size:=by omega
  obtain ⟨ao,hao,hco⟩:=hlget i o (by simpa using ho)
  have hSi:listed.getD i false=false:=by
   simp only [Array.getD_eq_getD_getElem?,Array.getElem?_eq_getElem hilt',Option.getD_some] at hif ⊢
   exact hif
  have hready:∀j,bit (ez ops.toList []) j i=true->listed.getD j false=true:=fun j hb=>by
   obtain ⟨e,he,hbe,_,hh'⟩:=lQ ops.toList [] hedges i o j (by simpa using ho) (by simpa using hb)
   have:=hedge e he hbe
   rcases hh' with rfl |hh'
   ·exact this
   ·exact hcl _ _ this hh'
  rcases Nat.lt_trichotomy i n with hin |rfl |hin
  ·have hao':(l.take n)[i]?=some ao:=by rw [List.getElem?_take_of_lt hin];exact hao
   obtain ⟨u,hv⟩:=D.val hao'
   obtain ⟨h1,hop,hh1,hputs⟩:=D.one (S:=fun i=>listed.getD i false) hcl hao' hv hSi hready hh
   have hp:=hplain ao (List.mem_of_getElem? hao)
   have hev:=qA (P:=P) (rec:=rec) hp (a:={a with tmps:=bP (l.take n) vs (fun i=>listed.getD i false) 0 ts0}) hop
   obtain ⟨ρ1,w1,ca1,cs1,hle1,hR1,hact1,hcs1,hrd1,hst1⟩:=rC hrec hR ho hco hs (rest:=Region.linearise.go .any ops fuel (t / (Region.ready .any ops listed).length) (listed.setIfInBounds i true) []) hev k
   have hs1:=hs.next hle1 hact1 hcs1 hrd1
   have hS':∀j,(listed.setIfInBounds i true).getD j false=(listed.getD j false || j == i):=fun j=>by
    by_cases hji:j=i
    ·subst hji
     simp [Array.getD_eq_getD_getElem?,hilt']
    ·have:(j == i)=false:=by simpa using hji
     rw [this,Bool.or_false,getD_set_ne false (Ne.symm hji)]
   have hfun:(fun j=>(listed.setIfInBounds i true).getD j false)=fun j=>(listed.getD j false || j == i):=funext hS'
   have hstate:({a with tmps:=bP (l.take n) vs (fun i=>listed.getD i false) 0 ts0}:aD).put ao.dst u={a with tmps:=bP (l.take n) vs (fun j=>(listed.setIfInBounds i true).getD j false) 0 ts0}:=by
    rw [hfun,hputs];rfl
   rw [hstate] at hs1 hcs1 hrd1
   have hiU:i∈U:=(hU i).2 ⟨hilt,hif⟩
   have hrec2:=ih (t / (Region.ready .any ops listed).length) (listed.setIfInBounds i true) (U.erase i) ρ1 w1 ca1 cs1 h1 (hnd.erase i) (fun j=>by
     rw [hnd.mem_erase_iff,hU]
     by_cases hji:j=i
     ·subst hji
      simp [Array.getD_eq_getD_getElem?,hilt']
     ·rw [getD_set_ne true (Ne.symm hji)]
      simp [hji]) (by rw [List.length_erase_of_mem hiU,hlenU];rfl) (by simpa using hsz) (by
      rw [hS',hln,Bool.false_or]
      simp;omega) (fun x y hy hb=>by
     rw [hS'] at hy ⊢
     simp only [Bool.or_eq_true,beq_iff_eq] at hy ⊢
     rcases hy with hy |rfl
     ·exact .inl (hcl x y hy hb)
     ·exact .inl (hready x hb)) hR1 hs1 (by rw [hfun];exact hh1)
   obtain ⟨ρ2,w2,ca2,cs2,hle2,hR2,hact2,hcs2,hrd2,harr⟩:=hrec2
   exact ⟨ρ2,w2,ca2,cs2,bz.le_trans hle1 hle2,hR2,hact2,hcs1.trans hcs2,hrd2,EJ.of_steps hst1 harr⟩
  ·
   have eao:ao=aon:=by rw [hao] at haon;exact Option.some.inj haon
   subst eao
   obtain ⟨hx,hg⟩:=D.slots i (by omega)
   rw [hgn] at hg
   simp only [Option.some.injEq,Prod.mk.injEq] at hg
   obtain ⟨rfl,rfl⟩:=hg
   have hslot:∀t:Nat,(∀(j:Nat) (x:AO),(l.take i)[j]?=some x->x.dst=some t->bit (ez ops.toList []) j i=true)->
     (bP (l.take i) vs (fun j=>listed.getD j false) 0 ts0)[t]?=(bP (l.take i) vs (fun j=>Nat.blt j i) 0 ts0)[t]?:=fun t ht=>by
    refine lP _ vs _ _ 0 ts0 ts0 (fun j x hj hd=>?_) rfl rfl
    have hjl:=(List.getElem?_eq_some_iff.1 hj).1
    simp only [Nat.zero_add]
    rw [hready j (ht j x hj hd),nQ (by omega)]
   have hheap:h=hn1:=by
    refine D.rG ⟨i,_,by omega,rfl,hgn⟩ ?_
    have:lcs (l.take i) (fun j=>listed.getD j false) 0=Lex (l.take i) i:=iT _ _ _ _ fun j o hj hl=>by
     have hjl:=(List.getElem?_eq_some_iff.1 hj).1
     simp only [Nat.zero_add]
     rw [List.getElem?_take_of_lt (by omega)] at hj
     have hc:=hcutj j (by omega) (by omega)
     rw [if_pos (by omega)] at hc
     rcases hc with hc |hc
     ·rw [hready j hc,nQ (by omega)]
     ·rw [hc o hj] at hl;cases hl
    rw [← this];exact hh
   subst hheap
   have hlook:∀t∈ao.looks,(bP (l.take i) vs (fun j=>listed.getD j false) 0 ts0)[t]?=(bP (l.take i) vs (fun j=>Nat.blt j i) 0 ts0)[t]?:=fun t ht=>
    hslot t fun j x hj hd=>by
     have hjl:=(List.getElem?_eq_some_iff.1 hj).1
     rw [List.getElem?_take_of_lt (by omega)] at hj
     rcases hpair j i x ao (by omega) hj hao with hb |ha
     ·exact hb
     ·simp only [kR,Bool.and_eq_true] at ha
      exact absurd ht (me ha.1.1 hd)
   obtain ⟨_,hpan'⟩:=nS (P:=P) (rec:=rec) (hplain ao (List.mem_of_getElem? hao)) (ts':=bP (l.take i) vs (fun j=>listed.getD j false) 0 ts0) (a:=a) (fun t ht=>(hlook t ht).symm) hpan
   obtain ⟨ρ1,w1,ca1,hle1,hR1,hact1,hrc1,hrd1,todo,u,hnc,hu,hst⟩:=rC hrec hR ho hco hs (rest:=Region.linearise.go .any ops fuel (t / (Region.ready .any ops listed).length) (listed.setIfInBounds i true) []) hpan' k
   refine ⟨ρ1,w1,ca1,cs,hle1,hR1,⟨_,hact1,fun t=>?_⟩,.inl ⟨rfl,rfl⟩,rfl,todo,u,hnc,hu,hst⟩
   show nO ((ij dirty (bP (l.take i) vs (fun j=>Nat.blt j i) 0 ts0)).getD t undef)=true\/_
   rcases wJ dirty (bP (l.take i) vs (fun j=>Nat.blt j i) 0 ts0) t with hb |⟨hnd',he⟩
   ·exact .inl hb
   ·refine .inr ?_
    rw [he]
    rcases Nat.lt_or_ge t (bP (l.take i) vs (fun j=>Nat.blt j i) 0 ts0).length with hlt |hge
    ·have hnm:=hnd' hlt
     have:=hslot t fun j x hj hd=>by
      have hjl:=(List.getElem?_eq_some_iff.1 hj).1
      rw [List.getElem?_take_of_lt (by omega)] at hj
      rcases hdirty j x t (by omega) hj hd with hb |hm
      ·exact hb
      ·exact absurd hm hnm
     simp only [List.getD_eq_getElem?_getD,this]
    ·simp only [List.getD_eq_getElem?_getD]
     rw [List.getElem?_eq_none hge,List.getElem?_eq_none (by rw [kC] at hge ⊢;exact hge)]
  ·have:=hcutj i (by omega) (by omega)
   rw [if_neg (by omega)] at this
   have:=hready n this
   rw [hln] at this;cases this
end
theorem uo {b:List Nat} {l:List AO}:∀(r:List AO) (k:Nat),k+r.length<=l.length->∀c∈nT b l r k,c.1 < l.length/\Gg b l c.1=true/\c.2=(fC b (l.take c.1) (l.take c.1) 0,oQ b c.1 l 0)
 | [],_,_,c,hc=>by simp [nT] at hc
 |o :: r,k,hk,c,hc=>by
  simp only [List.length_cons] at hk
  simp only [nT,List.mem_append] at hc
  rcases hc with hc |hc
  ·split at hc
   ·split at hc
    ·rename_i hcut
     simp only [List.mem_singleton] at hc
     subst hc
     exact ⟨by show k < l.length;omega,hcut,rfl⟩
    ·cases hc
   ·cases hc
  ·exact uo r (k+1) (by omega) c hc
theorem Dg (hrec:l8 P rec) (hm:P.follows .mixedOrders=true) {ops:Array Oper} {l:List AO} (hcomp:iS P ops ops.toList=some l) (hd:vD ops.toList l=true) {id:Nat}
  {ρ:bz} {N:Nat} {w0 w:World} {h:H} {a:aD} {ca:Act} {b:Frame} {k:List Item} {cs:List Frame} {x:aM} {a':aD} {h':H} (hR:bW P ρ N w0 h w) (hs:eT ρ b cs a ca):
  ∀(cuts:oD),(∀c∈cuts,c.1 < l.length/\Gg (ez ops.toList []) l c.1=true/\c.2=(fC (ez ops.toList []) (l.take c.1) (l.take c.1) 0,oQ (ez ops.toList []) c.1 l 0))->
  dV P rec l a h cuts=some (x,a',h')->jM P ρ N w0 (lone (b.atR ca (.code (.region id ops true) :: k)) cs w) b k cs a x a' h'
 | [],_,he=>by simp [dV] at he
 |c :: r,hc,he=>by
  have ih:=Dg hrec hm hcomp hd hR hs (id:=id) (k:=k) (x:=x) (a':=a') (h':=h') r (fun d hd'=>hc d (List.mem_cons_of_mem _ hd'))
  obtain ⟨hlt,hcut,hck⟩:=hc c (List.mem_cons_self ..)
  have hplain0:∀o∈l,fW o.op=true:=by
   simp only [vD,Bool.and_eq_true,List.all_eq_true] at hd
   exact hd.1.2
  simp only [dV] at he
  split at he
  ·rename_i G hG
   ·split at he
    ·rename_i o ts h1 ho hg
     split at he
     ·rename_i v a1 h2 hpan
      split at he
      case isFalse=>cases he
      rename_i hcks
      simp only [Option.some.injEq,Prod.mk.injEq] at he
      obtain ⟨rfl,rfl,rfl⟩:=he
      have ea:=(nS (P:=P) (rec:=rec) (hplain0 o (List.mem_of_getElem? ho)) (ts':=ts) (a:=a) (fun _ _=>rfl) hpan).1
      subst ea
      obtain ⟨vs,t1,t2,t3,t4⟩:=cZ (l.take c.1) a.tmps h G hG
      simp only [vD,Bool.and_eq_true,List.all_eq_true] at hd
      obtain ⟨⟨hedges,hplain⟩,hpairs⟩:=hd
      have D:vz P rec (ez ops.toList []) (l.take c.1) a.tmps h G vs:={
       plain:=fun o ho=>hplain o (List.mem_of_mem_take ho)
       pair:=fun i j x y hij hi hj=>by
        have hjlt:=(List.getElem?_eq_some_iff.1 hj).1
        rw [List.length_take] at hjlt
        rw [List.getElem?_take_of_lt (by omega)] at hi hj
        have:=mc l 0 hpairs i j x y hij hi hj
        simp only [Nat.zero_add,Bool.and_eq_true,Bool.or_eq_true,Bool.not_eq_true'] at this
        exact ⟨this.1,by
         rcases this.2 with (hh |hh) |hh
         ·exact .inl hh
         ·exact .inr (.inl hh)
         ·exact .inr (.inr hh)⟩
       Ho:=t1
       MD:=t2
       start:=t3
       step:=t4
       ME:=hrec.pure
       s4:=fun o ho=>oP _ _ hcomp o (List.mem_of_mem_take ho)
       aC:=fun i o hi d hdm=>by
        rw [List.all_eq_true] at hcks
        refine hcks d ?_
        rw [hck]
        exact mg (l.take c.1) 0 i o hi d (by simpa using hdm)}
      obtain ⟨hll,_⟩:=jR _ _ hcomp
      have hlen:l.length=ops.size:=by simpa using hll
      have hf:∀(i:Nat),(Array.replicate ops.size false).getD i false=false:=fun i=>by
       simp only [Array.getD_eq_getD_getElem?,Array.getElem?_replicate]
       split<;>rfl
      have hp0:bP (l.take c.1) vs (fun i=>(Array.replicate ops.size false).getD i false) 0 a.tmps=a.tmps:=by
       apply List.ext_getElem?
       intro t
       exact jP (l.take c.1) vs _ 0 a.tmps (fun j o _ _=>hf _)
      have hl0:lcs (l.take c.1) (fun i=>(Array.replicate ops.size false).getD i false) 0=Lex (l.take c.1) 0:=iT _ _ _ _ fun j _ _ _=>by
       rw [hf,Nat.zero_add,gK (Nat.zero_le _)]
      have:=IZ hrec D hedges hcomp hplain (fun i j x y hij hi hj=>by
       have:=mc l 0 hpairs i j x y hij hi hj
       simp only [Nat.zero_add,Bool.and_eq_true,Bool.or_eq_true] at this
       exact this.1) hlt hcut (dirty:=c.2.2) (fun j x t hj hx hd=>by
       rw [hck]
       have:=wK (b:=ez ops.toList []) (n:=c.1) l 0 j x t hx (by omega) hd
       rwa [Nat.zero_add] at this) (b:=b) (k:=k) (a:=a) hg ho hpan ops.size (w.tape w.drawn (.order b.fn id)) (Array.replicate ops.size false) (List.range ops.size) ρ w.drew ca cs h
       List.nodup_range (fun i=>by
        rw [List.mem_range]
        constructor
        ·intro hi
         refine ⟨hi,?_⟩
         simp [Array.getD_eq_getD_getElem?,hi]
        ·exact fun hi=>hi.1) (by simp) (by simp) (hf _) (fun i j hj _=>by rw [hf] at hj;cases hj) hR.drew (by rw [hp0];exact hs) ⟨0,_,Nat.zero_le _,hl0.symm,t3⟩
      rw [hp0] at this
      obtain ⟨ρ2,w2,ca2,cs2,hle2,hR2,hact2,hcs2,hrd2,harr⟩:=this
      refine ⟨ρ2,w2,ca2,cs2,hle2,hR2,hact2,hcs2,hrd2,EJ.of_steps (.one ?_) harr⟩
      have hstep:=stepR_region_draw (P:=P) (b:=b) (a:=ca) (k:=k) (cs:=cs) (w:=w) (ops:=ops) (id:=id)
      rw [hstep]
      simp only [Region.schedule,hm,Bool.true_or,if_true]
      rfl
     ·exact ih he
    ·exact ih he
  ·exact ih he
theorem Hs (hrec:l8 P rec) (hm:P.follows .mixedOrders=true) {ops:Array Oper} {l:List AO} (hcomp:iS P ops ops.toList=some l) (hd:vD ops.toList l=true) {id:Nat}
  {ρ:bz} {N:Nat} {w0 w:World} {h:H} {a:aD} {ca:Act} {b:Frame} {k:List Item} {cs:List Frame} {x:aM} {a':aD} {h':H} (hR:bW P ρ N w0 h w) (hs:eT ρ b cs a ca)
  (he:fM P rec l (fC (ez ops.toList []) l l 0) (nT (ez ops.toList []) l l 0) a h=some (x,a',h')):
  jM P ρ N w0 (lone (b.atR ca (.code (.region id ops true) :: k)) cs w) b k cs a x a' h':=by
 unfold fM at he
 split at he
 ·rename_i G hG
  split at he
  ·rename_i hck
   split at he
   ·rename_i tsF hF hfin
    cases he
    obtain ⟨vs,h1,h2,h3,h4⟩:=cZ l a.tmps h G hG
    simp only [vD,Bool.and_eq_true,List.all_eq_true] at hd
    obtain ⟨⟨hedges,hplain⟩,hpairs⟩:=hd
    have D:vz P rec (ez ops.toList []) l a.tmps h G vs:={
     plain:=hplain
     pair:=fun i j x y hij hi hj=>by
      have:=mc l 0 hpairs i j x y hij hi hj
      simp only [Nat.zero_add,Bool.and_eq_true,Bool.or_eq_true,Bool.not_eq_true'] at this
      exact ⟨this.1,by
       rcases this.2 with (hh |hh) |hh
       ·exact .inl hh
       ·exact .inr (.inl hh)
       ·exact .inr (.inr hh)⟩
     Ho:=h1
     MD:=h2
     start:=h3
     step:=h4
     ME:=hrec.pure
     s4:=oP _ _ hcomp
     aC:=fun i o hi c hc=>by
      rw [List.all_eq_true] at hck
      exact hck c (mg l 0 i o hi c (by simpa using hc))}
    obtain ⟨hll,_⟩:=jR _ _ hcomp
    have hlen:l.length=ops.size:=by simpa using hll
    have hf:∀(i:Nat),(Array.replicate ops.size false).getD i false=false:=fun i=>by
     simp only [Array.getD_eq_getD_getElem?,Array.getElem?_replicate]
     split<;>rfl
    have hfun:(fun i=>(Array.replicate ops.size false).getD i false)=fun _=>false:=funext hf
    have hp0:bP l vs (fun i=>(Array.replicate ops.size false).getD i false) 0 a.tmps=a.tmps:=by
     apply List.ext_getElem?
     intro t
     exact jP l vs _ 0 a.tmps (fun j o _ _=>hf _)
    have hl0:lcs l (fun i=>(Array.replicate ops.size false).getD i false) 0=Lex l 0:=iT _ _ _ _ fun j _ _ _=>by
     rw [hf,Nat.zero_add,gK (Nat.zero_le _)]
    have:=Hr hrec D hedges hcomp (b:=b) (k:=k) (a:=a) hfin ops.size (w.tape w.drawn (.order b.fn id)) (Array.replicate ops.size false) (List.range ops.size) ρ w.drew ca cs h
     List.nodup_range (fun i=>by
      rw [List.mem_range]
      constructor
      ·intro hi
       refine ⟨hi,?_⟩
       simp [Array.getD_eq_getD_getElem?,hi]
      ·exact fun hi=>hi.1) (by simp) (by simp) (fun i j hj _=>by rw [hf] at hj;cases hj) hR.drew (by rw [hp0];exact hs) ⟨0,_,Nat.zero_le _,hl0.symm,h3⟩
    rw [hp0] at this
    obtain ⟨ρ2,w2,ca2,cs2,hle2,hR2,hact2,hcs2,hrd2,harr⟩:=this
    refine ⟨ρ2,w2,ca2,cs2,hle2,hR2,hact2,hcs2,hrd2,EJ.of_steps (.one ?_) harr⟩
    have hstep:=stepR_region_draw (P:=P) (b:=b) (a:=ca) (k:=k) (cs:=cs) (w:=w) (ops:=ops) (id:=id)
    rw [hstep]
    simp only [Region.schedule,hm,Bool.true_or,if_true]
    rfl
   ·cases he
  ·cases he
 ·exact Dg hrec hm hcomp hd hR hs _ (fun c hc=>uo l 0 (by simp) c hc) he
end Go.Ev
