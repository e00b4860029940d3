/- The evaluator over a small code, and that what it finds of a call holds of the machine, part 14m. -/
import Derived.Test.YtcajalekkffcjaaDoorEv14l
namespace Go.Ev
open Go Go.RowKit
variable {P:Program} {rec:Rec}
section
variable {ops:Array Oper} {l:List AO} {ts0:List Value} {h0:H} {base:Nat} {K:List LS} {vs:List Value} {F:List (Nat × eo)} {N:Nat} {w0:World}
theorem EZ (hrec:l8 P rec) (D:jg P rec (ez ops.toList []) base l ts0 h0 K vs F) (hedges:ic ops.toList 0=true) (hcomp:iS P ops ops.toList=some l) {b:Frame} {k:List Item} {a:aD} {hF:H} {tsF:List Value}
  {sF:LS} (hfin:K[l.length]?=some sF) (htF:sF.ts=tsF) (hhF:hF=br (fun _=>true) base F sF.h):
  ∀(fuel t:Nat) (listed:Array Bool) (U:List Nat) (ρ:bz) (w:World) (ca:Act) (cs:List Frame) (h:H),
   U.Nodup->(∀i,i∈U↔i < ops.size/\listed.getD i true=false)->U.length=fuel->listed.size=ops.size->
   (∀i j,listed.getD j false=true->bit (ez ops.toList []) i j=true->listed.getD i false=true)->
   bW P ρ N w0 h w->eT ρ b cs {a with tmps:=bP l vs (fun i=>listed.getD i false) 0 ts0} ca->vC base l K F (fun i=>listed.getD i false) h->
   jM P ρ N w0 (lone (b.atR ca (.inRegion ops (Region.linearise.go .any ops fuel t listed []) :: k)) cs w) b k cs {a with tmps:=bP l vs (fun i=>listed.getD i false) 0 ts0} .normal {a with tmps:=tsF} hF:=by
 obtain ⟨hll,hlget⟩:=jR _ _ hcomp
 have hlen:l.length=ops.size:=by simpa using hll
 intro fuel
 induction fuel with
 |zero=>
  intro t listed U ρ w ca cs h hnd hU hlenU hsz hcl hR hs hh
  have hall:∀i,i < ops.size->listed.getD i false=true:=fun i hi=>by
   have hnm:i ∉ U:=by rw [List.eq_nil_of_length_eq_zero hlenU];simp
   rw [hU] at hnm
   have h1:listed.getD i true=true:=by
    cases hc:listed.getD i true with
    |true=>rfl
    |false=>exact absurd ⟨hi,hc⟩ hnm
   have hlt:i < listed.size:=by omega
   simp only [Array.getD_eq_getD_getElem?,Array.getElem?_eq_getElem hlt,Option.getD_some] at h1 ⊢
   exact h1
  have hputs:bP l vs (fun i=>listed.getD i false) 0 ts0=tsF:=by
   obtain ⟨sx,hg,hx⟩:=D.slots l.length (Nat.le_refl _)
   rw [hfin] at hg
   cases hg
   rw [← htF,hx]
   exact oM fun i hi=>by rw [hall i (by omega),nQ (by omega)]
  have hall2:jh l l.length=gr l (fun i=>listed.getD i false) 0:=Eq.symm <| gW _ _ _ _ fun i o hi _=>by
   have:=(List.getElem?_eq_some_iff.1 hi).1
   simp only [Nat.zero_add]
   rw [hall i (by omega),nQ (by omega)]
  obtain ⟨e1,e2⟩:=D.xZ hh (m:=l.length) hfin hall2
  have hin:∀k c,(k,c)∈F->k < l.length:=fun k c hm=>by
   obtain ⟨se,hse,hseF⟩:=D.fin
   rw [← hseF] at hm
   exact D.ki _ (Nat.le_refl _) se hse k c hm
  have hheap:∀i,hF.get i=h.get i:=fun i=>by
   rw [hhF,e2 i]
   cases hg:(br (fun i=>listed.getD i false) base F sF.h).get i with
   |some c=>exact jQ (q:=fun _=>true) D.uniq D.uniq (fun k c hm _=>⟨hm,rfl⟩) hg
   |none=>
    cases hg2:(br (fun _=>true) base F sF.h).get i with
    |none=>rfl
    |some c=>
     have:=jQ (q:=fun i=>listed.getD i false) D.uniq D.uniq (fun k c hm _=>⟨hm,hall k (by have:=hin k c hm;omega)⟩) hg2
     rw [hg] at this;cases this
  have hnext:hF.next=h.next:=by rw [hhF,iN,e1]
  replace hR:=hR.congr hnext hheap
  simp only [Region.linearise.go,List.reverse_nil]
  refine ⟨ρ,w,ca,cs,ρ.le_refl,hR,?_,kQ.refl _ _,rfl,.one stepR_region_end⟩
  rw [← hputs];exact hs.1
 |succ fuel ih=>
  intro t listed U ρ w ca cs h hnd hU hlenU hsz hcl hR hs hh
  obtain ⟨m,hmU,hmin⟩:=oR U (by intro e;rw [e] at hlenU;simp at hlenU)
  have hmr:m∈Region.ready .any ops listed:=by
   rw [mem_ready]
   obtain ⟨hm1,hm2⟩:=(hU m).1 hmU
   refine ⟨hm2,ops[m],by simp,fun e he hb=>?_⟩
   have hlt:=lA ops.toList 0 m ops[m] hedges (by simp) e he hb
   have hnot:e.on ∉ U:=fun hc=>by have:=hmin _ hc;omega
   rw [hU] at hnot
   have hsz':e.on < listed.size:=by omega
   simp only [Array.getD_eq_getD_getElem?,Array.getElem?_eq_getElem hsz',Option.getD_some] at hnot ⊢
   cases hc:listed[e.on] with
   |true=>rfl
   |false=>exact absurd ⟨by omega,hc⟩ hnot
  simp only [Region.linearise.go]
  change jM P ρ N w0 (lone (b.atR ca (.inRegion ops (match (Region.ready .any ops listed)[t % (Region.ready .any ops listed).length]? with
   |some i=>Region.linearise.go .any ops fuel (t / (Region.ready .any ops listed).length) (listed.setIfInBounds i true) [i]
   |none=>[].reverse) :: k)) cs w) b k cs _ .normal _ hF
  obtain ⟨i,hi⟩:∃i,(Region.ready .any ops listed)[t % (Region.ready .any ops listed).length]?=some i:=by
   have hpos:0 < (Region.ready .any ops listed).length:=List.length_pos_of_mem hmr
   exact ⟨_,List.getElem?_eq_getElem (Nat.mod_lt _ hpos)⟩
  rw [hi]
  simp only []
  rw [linearise_go_acc,List.reverse_singleton,List.singleton_append]
  have hir:=List.mem_of_getElem? hi
  obtain ⟨hif,o,ho,hedge⟩:=mem_ready.1 hir
  have hilt:i < ops.size:=(Array.getElem?_eq_some_iff.1 ho).1
  have hilt':i < listed.size:=by omega
  obtain ⟨ao,hao,hco⟩:=hlget i o (by simpa using ho)
  obtain ⟨v,hv⟩:=D.val hao
  have hSi:listed.getD i false=false:=by
   simp only [Array.getD_eq_getD_getElem?,Array.getElem?_eq_getElem hilt',Option.getD_some] at hif ⊢
   exact hif
  have hready:∀j,bit (ez ops.toList []) j i=true->listed.getD j false=true:=fun j hb=>by
   obtain ⟨e,he,hbe,_,hh'⟩:=lQ ops.toList [] hedges i o j (by simpa using ho) (by simpa using hb)
   have:=hedge e he hbe
   rcases hh' with rfl |hh'
   ·exact this
   ·exact hcl _ _ this hh'
  obtain ⟨h1,hh1,hputs,hop⟩:=D.one (S:=fun i=>listed.getD i false) hcl hao hv hSi hready hh
  have hp:=D.plain ao (List.mem_of_getElem? hao)
  have hwent:IU P ρ N w0 (lone (b.atR ca (.inRegion ops (i :: Region.linearise.go .any ops fuel (t / (Region.ready .any ops listed).length) (listed.setIfInBounds i true) []) :: k)) cs w) b ops (Region.linearise.go .any ops fuel (t / (Region.ready .any ops listed).length) (listed.setIfInBounds i true) []) k cs
    {a with tmps:=bP l vs (fun i=>listed.getD i false) 0 ts0} (.on (({a with tmps:=bP l vs (fun i=>listed.getD i false) 0 ts0}:aD).put ao.dst v) h1):=by
   rcases hop with hop |⟨hw,hf,hgn,hlt,ob,hfv,rfl⟩
   ·exact rC hrec hR ho hco hs (qA (P:=P) (rec:=rec) hp (a:={a with tmps:=bP l vs (fun i=>listed.getD i false) 0 ts0}) hop) k
   ·obtain ⟨hcop,hdst,hopd⟩:=mU hco
    have hwt:=A3 hs.1 hco
    have hrel:∀x∈o.op.operands,Rv ρ (aj (bP l vs (fun i=>listed.getD i false) 0 ts0) x) (ca.eval x):=fun x hx=>BZ hR hs.1 (hopd x hx)
    have hw':Region.wanted o (yielded ops ca.tmps)=true:=by rw [← hwt];exact hw
    have hnd:∀c',o.op≠ .defer c':=fun c' e=>by
     obtain ⟨_,op,_⟩:=o
     simp only at e
     subst e
     simp only [dQ] at hcop
     split at hcop
     ·simp only [Option.some.injEq] at hcop;rw [← hcop] at hf;cases hf
     ·cases hcop
    obtain ⟨ρ',w',nx,u,hle,hR',hu,hrun,hn⟩:=Hj hR hgn (hR.hole _ (by have:=D.dU;omega) hgn) hlt hcop hrel hfv
    exact ⟨ρ',w',ca.put o.dst u,cs,hle,hR',by rw [hdst];exact (hs.1.mono hle).put o.dst hu,kQ.refl _ _,rfl,.one (sJ ho hw' hnd hrun hn)⟩
  obtain ⟨ρ1,w1,ca1,cs1,hle1,hR1,hact1,hcs1,hrd1,hst1⟩:=hwent
  have hs1:=hs.next hle1 hact1 hcs1 hrd1
  have hS':∀j,(listed.setIfInBounds i true).getD j false=(listed.getD j false || j == i):=fun j=>by
   by_cases hji:j=i
   ·subst hji
    simp [Array.getD_eq_getD_getElem?,hilt']
   ·have:(j == i)=false:=by simpa using hji
    rw [this,Bool.or_false,getD_set_ne false (Ne.symm hji)]
  have hfun:(fun j=>(listed.setIfInBounds i true).getD j false)=fun j=>(listed.getD j false || j == i):=funext hS'
  have hstate:({a with tmps:=bP l vs (fun i=>listed.getD i false) 0 ts0}:aD).put ao.dst v={a with tmps:=bP l vs (fun j=>(listed.setIfInBounds i true).getD j false) 0 ts0}:=by
   rw [hfun,hputs];rfl
  rw [hstate] at hs1 hcs1 hrd1
  have hiU:i∈U:=(hU i).2 ⟨hilt,hif⟩
  have hrec2:=ih (t / (Region.ready .any ops listed).length) (listed.setIfInBounds i true) (U.erase i) ρ1 w1 ca1 cs1 h1 (hnd.erase i) (fun j=>by
    rw [hnd.mem_erase_iff,hU]
    by_cases hji:j=i
    ·subst hji
     simp [Array.getD_eq_getD_getElem?,hilt']
    ·rw [getD_set_ne true (Ne.symm hji)]
     simp [hji]) (by rw [List.length_erase_of_mem hiU,hlenU];rfl) (by simpa using hsz) (fun x y hy hb=>by
    rw [hS'] at hy ⊢
    simp only [Bool.or_eq_true,beq_iff_eq] at hy ⊢
    rcases hy with hy |rfl
    ·exact .inl (hcl x y hy hb)
    ·exact .inl (hready x hb)) hR1 hs1 (by rw [hfun];exact hh1)
  obtain ⟨ρ2,w2,ca2,cs2,hle2,hR2,hact2,hcs2,hrd2,harr⟩:=hrec2
  exact ⟨ρ2,w2,ca2,cs2,bz.le_trans hle1 hle2,hR2,hact2,hcs1.trans hcs2,rfl,EJ.of_steps hst1 harr⟩
end
theorem pO {b:List Nat} {l:List AO}:∀(r:List AO) (k j:Nat) (o:AO),r[j]?=some o->∀c∈nR b l o (k+j),c∈iV b l r k
 | [],_,_,_,h,_,_=>by simp at h
 |o :: r,k,0,o',h,c,hc=>by
  simp only [List.getElem?_cons_zero,Option.some.injEq] at h
  subst h
  simp only [iV,List.mem_append]
  exact .inl hc
 |o :: r,k,j+1,o',h,c,hc=>by
  simp only [iV,List.mem_append]
  refine .inr (pO r (k+1) j o' (by simpa using h) c ?_)
  rwa [show k+1+j=k+(j+1) by omega]
theorem Ht {ops:List Oper} (he:ic ops 0=true):∀(n j i:Nat),j<=n->bit (ez ops []) i j=true->i < j:=by
 intro n
 induction n with
 |zero=>
  intro j i hj hb
  have:j=0:=by omega
  subst this
  cases ho:ops[0]? with
  |none=>
   have hl:(ez ops []).length=0:=by
    rw [qx];simp
    cases ops with
    |nil=>rfl
    |cons a r=>simp at ho
   simp only [bit,List.getD_eq_getElem?_getD,List.getElem?_eq_none (by omega:(ez ops []).length<=0),Option.getD_none,Nat.zero_testBit] at hb
   cases hb
  |some o=>
   obtain ⟨e,_,_,h3,_⟩:=lQ ops [] he 0 o i ho (by simpa using hb)
   simp at h3
 |succ n ih=>
  intro j i hj hb
  cases ho:ops[j]? with
  |none=>
   have hl:(ez ops []).length<=j:=by
    rw [qx];simp
    exact List.getElem?_eq_none_iff.1 ho
   simp only [bit,List.getD_eq_getElem?_getD,List.getElem?_eq_none hl,Option.getD_none,Nat.zero_testBit] at hb
   cases hb
  |some o=>
   obtain ⟨e,_,_,h3,h4⟩:=lQ ops [] he j o i ho (by simpa using hb)
   simp only [List.length_nil,Nat.zero_add] at h3
   rcases h4 with rfl |h4
   ·exact h3
   ·have:=ih e.on i (by omega) h4;omega
theorem Hu (hrec:l8 P rec) (hm:P.follows .mixedOrders=true) {ops:Array Oper} {l:List AO} (hcomp:iS P ops ops.toList=some l) (hd:B8 ops.toList l=true) {id:Nat}
  {ρ:bz} {N:Nat} {w0 w:World} {h:H} {a:aD} {ca:Act} {b:Frame} {k:List Item} {cs:List Frame} {x:aM} {a':aD} {h':H} (hR:bW P ρ N w0 h w) (hs:eT ρ b cs a ca)
  (he:fN P rec (ez ops.toList []) l (iV (ez ops.toList []) l l 0) a h=some (x,a',h')):
  jM P ρ N w0 (lone (b.atR ca (.code (.region id ops true) :: k)) cs w) b k cs a x a' h':=by
 unfold fN at he
 split at he
 ·rename_i K hK
  split at he
  ·rename_i s0 r
   split at he
   ·rename_i hck
    cases he
    obtain ⟨k1,k2,k3⟩:=wI l 0 _ _ hK
    simp only [List.getElem?_cons_zero,Option.some.injEq] at k2
    simp only [B8,Bool.and_eq_true,List.all_eq_true] at hd
    obtain ⟨⟨hedges,hplain⟩,hpairs⟩:=hd
    have hrl:r.length=l.length:=by simpa using k1
    have hlast:(s0 :: r)[l.length]?=some (nP s0 r):=by rw [← hrl];exact vB r s0
    have hstep:∀j,∃v,∀o,l[j]?=some o->∃sj s',(s0 :: r)[j]?=some sj/\(s0 :: r)[j+1]?=some s'/\s'.ts=dB o.dst v sj.ts/\
      ((aq o.guard sj.ts=false/\v=undef/\s'.h=sj.h/\s'.F=sj.F)\/
       (aq o.guard sj.ts=true/\fV o.op=true/\∃ob,eN (h.next+j) sj.ts o.op=some (v,ob)/\s'.h=sj.h/\s'.F=sj.F++(ob.toList.map fun b=>(j,b)))\/
       (aq o.guard sj.ts=true/\fV o.op=false/\s'.F=sj.F/\∃h',iE P rec o sj.ts (br (fun i=>dW (ez ops.toList []) i j) h.next sj.F sj.h)=some (v,h')/\s'.h=(bif ew o.op then h' else sj.h))):=by
     intro j
     cases ho:l[j]? with
     |none=>exact ⟨undef,fun o ho'=>by cases ho'⟩
     |some o=>
      obtain ⟨sj,s',e1,e2,e3⟩:=k3 j o ho
      rw [Nat.zero_add] at e3
      obtain ⟨v,hv1,hv2⟩:=Df e3
      exact ⟨v,fun o' ho'=>by cases ho';exact ⟨sj,s',e1,e2,hv1,hv2⟩⟩
    let vs:List Value:=(List.range l.length).map fun j=>Classical.choose (hstep j)
    have hvs:∀j v,vs[j]?=some v->v=Classical.choose (hstep j):=by
     intro j v hv
     simp only [vs,List.getElem?_map] at hv
     obtain ⟨i,hi,rfl⟩:=aa hv
     have:=List.getElem?_eq_some_iff.1 hi
     obtain ⟨hlt,hi⟩:=this
     simp at hi
     subst hi;rfl
    have D:jg P rec (ez ops.toList []) h.next l a.tmps {next:=h.next+l.length,t:=h.t} (s0 :: r) vs (nP s0 r).F:={
     plain:=hplain
     pair:=fun i j x y hij hi hj=>by
      have:=mc l 0 hpairs i j x y hij hi hj
      simp only [Nat.zero_add,Bool.and_eq_true,Bool.or_eq_true,Bool.not_eq_true'] at this
      exact ⟨this.1,by
       rcases this.2 with (hh |hh) |hh
       ·exact .inl hh
       ·exact .inr (.inl hh)
       ·exact .inr (.inr hh)⟩
     back:=fun i j hb=>Ht hedges j j i (Nat.le_refl _) hb
     Ho:=by simp [vs]
     NH:=k1
     start:=by rw [← k2];rfl
     room:=Nat.le_refl _
     dU:=by
      rcases Nat.lt_or_ge h.next P.globals.size with h1 |h1
      ·obtain ⟨c,hc⟩:=hR.dU _ h1
       rw [hR.fresh h.next (Nat.le_refl _)] at hc;cases hc
      ·exact h1
     bare:=fun i hi=>hR.top i hi
     step:=fun i o v hi hv=>by
      rw [hvs i v hv]
      exact Classical.choose_spec (hstep i) o hi
     fin:=⟨_,hlast,rfl⟩
     aC:=fun i o hi c hc=>by
      rw [List.all_eq_true] at hck
      exact hck c (pO l 0 i o hi c (by simpa using hc))
     ME:=hrec.pure
     mono:=hrec.mono
     s4:=oP _ _ hcomp}
    obtain ⟨hll,_⟩:=jR _ _ hcomp
    have hlen:l.length=ops.size:=by simpa using hll
    have hf:∀(i:Nat),(Array.replicate ops.size false).getD i false=false:=fun i=>by
     simp only [Array.getD_eq_getD_getElem?,Array.getElem?_replicate]
     split<;>rfl
    have hp0:bP l vs (fun i=>(Array.replicate ops.size false).getD i false) 0 a.tmps=a.tmps:=by
     apply List.ext_getElem?
     intro t
     exact jP l vs _ 0 a.tmps (fun j o _ _=>hf _)
    have hl0:jh l 0=gr l (fun i=>(Array.replicate ops.size false).getD i false) 0:=(gW _ _ _ _ fun j _ _ _=>by
     rw [hf,Nat.zero_add,gK (Nat.zero_le _)]).symm
    have hst0:(s0 :: r)[0]?=some s0:=rfl
    have hz:s0=⟨a.tmps,{next:=h.next+l.length,t:=h.t},[]⟩:=k2
    have:=EZ hrec D hedges hcomp (b:=b) (k:=k) (a:=a) hlast rfl rfl ops.size (w.tape w.drawn (.order b.fn id)) (Array.replicate ops.size false) (List.range ops.size) ρ w.drew ca cs {next:=h.next+l.length,t:=h.t}
     List.nodup_range (fun i=>by
      rw [List.mem_range]
      constructor
      ·intro hi
       refine ⟨hi,?_⟩
       simp [Array.getD_eq_getD_getElem?,hi]
      ·exact fun hi=>hi.1) (by simp) (by simp) (fun i j hj _=>by rw [hf] at hj;cases hj) (hR.drew.reserve _) (by rw [hp0];exact hs)
     ⟨0,s0,Nat.zero_le _,rfl,hl0,by rw [hz],fun i=>by
       rw [hz]
       refine (kS fun j c _ hp=>?_).symm
       rw [hf] at hp;cases hp⟩
    rw [hp0] at this
    obtain ⟨ρ2,w2,ca2,cs2,hle2,hR2,hact2,hcs2,hrd2,harr⟩:=this
    refine ⟨ρ2,w2,ca2,cs2,hle2,hR2,hact2,hcs2,hrd2,EJ.of_steps (.one ?_) harr⟩
    have hstep:=stepR_region_draw (P:=P) (b:=b) (a:=ca) (k:=k) (cs:=cs) (w:=w) (ops:=ops) (id:=id)
    rw [hstep]
    simp only [Region.schedule,hm,Bool.true_or,if_true]
    rfl
   ·cases he
  ·cases he
 ·cases he
end Go.Ev
