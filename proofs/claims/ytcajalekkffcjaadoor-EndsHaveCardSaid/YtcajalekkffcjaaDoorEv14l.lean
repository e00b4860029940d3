/- The evaluator over a small code, and that what it finds of a call holds of the machine, part 14l. -/
import Derived.Test.YtcajalekkffcjaaDoorEv13l
import Derived.Test.YtcajalekkffcjaaDoorEv14
import Derived.Test.YtcajalekkffcjaaDoorEv10f
namespace Go.Ev
open Go Go.RowKit
variable {P:Program} {rec:Rec}
theorem Dh {n:Nat} {ts ts':List Value} {op:j8} (hc:∀x∈op.vu,aj ts x=aj ts' x):eN n ts op=eN n ts' op:=by
 cases op<;>simp only [j8.vu,List.mem_cons,List.not_mem_nil,or_false,forall_eq_or_imp,forall_eq] at hc<;>(try rfl)
 case box e size x=>simp only [eN,hc]
 case buildSlice e n s z ps=>simp only [eN,kg ps _ hc]
 case makeSlice e bytes zero a c=>simp only [eN,hc]
section
variable {b:List Nat} {base:Nat} {l:List AO} {ts0:List Value} {h0:H} {K:List LS} {vs:List Value} {F:List (Nat × eo)} (D:jg P rec b base l ts0 h0 K vs F)
include D
theorem jg.one {S:Nat->Bool} (hcl:∀i j,S j=true->bit b i j=true->S i=true) {j:Nat} {o:AO} {v:Value} (hj:l[j]?=some o) (hv:vs[j]?=some v) (hS:S j=false)
  (hready:∀i,bit b i j=true->S i=true) {h:H} (hh:vC base l K F S h):
  ∃h',vC base l K F (fun i=>S i || i == j) h'/\bP l vs (fun i=>S i || i == j) 0 ts0=dB o.dst v (bP l vs S 0 ts0)/\
   (iE P rec o (bP l vs S 0 ts0) h=some (v,h')\/
    (aq o.guard (bP l vs S 0 ts0)=true/\fV o.op=true/\h.get (base+j)=none/\base+j < h.next/\∃ob,eN (base+j) (bP l vs S 0 ts0) o.op=some (v,ob)/\h'=Ge h (base+j) ob)):=by
 have hp:=D.plain o (List.mem_of_getElem? hj)
 have hjlt:=(List.getElem?_eq_some_iff.1 hj).1
 obtain ⟨s,s',g1,g2,g3,g4⟩:=D.step j o v hj hv
 obtain ⟨sj,hsj,hts⟩:=D.slots j (by omega)
 rw [g1] at hsj;cases hsj
 have hu:=D.uniq
 have huj:=D.B7 j (by omega) s g1
 have hlater:∀i x,j < i->l[i]?=some x->bit b j i=true->S i=false:=fun i x _ _ hb=>by
  cases hs:S i with
  |false=>rfl
  |true=>have:=hcl j i hs hb;rw [hS] at this;cases this
 have hlook:∀t∈o.looks,(bP l vs S 0 ts0)[t]?=s.ts[t]?:=fun t ht=>by
  rw [hts]
  refine lP l vs _ _ 0 ts0 ts0 (fun i x hi hd=>?_) rfl rfl
  simp only [Nat.zero_add]
  rcases Nat.lt_trichotomy i j with hlt |rfl |hgt
  ·rw [nQ hlt]
   rcases (D.pair i j x o hlt hi hj).1 with hb |ha
   ·exact hready i hb
   ·simp only [kR,Bool.and_eq_true] at ha
    exact absurd ht (me ha.1.1 hd)
  ·rw [hS,gK (Nat.le_refl _)]
  ·rw [gK (Nat.le_of_lt hgt)]
   rcases (D.pair j i o x hgt hj hi).1 with hb |ha
   ·exact hlater i x hgt hi hb
   ·simp only [kR,Bool.and_eq_true] at ha
    exact absurd ht (me ha.1.2 hd)
 have hwc:aq o.guard (bP l vs S 0 ts0)=aq o.guard s.ts:=by
  unfold aq
  cases hg:o.guard with
  |none=>rfl
  |some q=>
   obtain ⟨t,bb⟩:=q
   have:=hlook t (by simp [AO.looks,hg])
   simp only [this]
 have hcongr:∀h,iE P rec o (bP l vs S 0 ts0) h=iE P rec o s.ts h:=fun h=>A5 hp hlook
 have hadd:=uk (ts:=ts0) hj hv hS (fun i o' hi hl hs t hd hd'=>by
  rcases (D.pair j i o o' hi hj hl).1 with hb |ha
  ·have:=hlater i o' hi hl hb;rw [hs] at this;cases this
  ·simp only [kR,Bool.and_eq_true] at ha
   rw [hd,hd'] at ha
   simp at ha)
 have hlc:=yE l S 0 j o hj (by simpa using hS)
 simp only [Nat.zero_add] at hlc
 have hfirst:∀i x,l[i]?=some x->cL x=true->S i=true->∀m,m<=l.length->jh l m=gr l S 0->i < m:=by
  intro i x hi hx hsi m hm hL
  rcases Nat.lt_or_ge i m with h1 |h1
  ·exact h1
  ·exfalso
   have e1:jh l m<=jh l i:=iU _ _ _ _ fun k _ _ _ hk=>by simp [Nat.blt_eq] at hk ⊢;omega
   have e2:jh l (i+1)=jh l i+1:=by rw [D.iG hi,hx];rfl
   have e3:jh l (i+1)<=gr l S 0:=iU _ _ _ _ fun k y hk hy hb=>by
    simp only [Nat.zero_add,Nat.blt_eq] at hb ⊢
    by_cases e:k=i
    ·subst e;exact hsi
    ·rcases (D.pair k i y x (by omega) hk hi).2 with hb' |hb' |hb'
     ·exact hcl k i hsi hb'
     ·rw [hy] at hb';cases hb'
     ·rw [hx] at hb';cases hb'
   omega
 have hnone:∀m sm,m<=l.length->K[m]?=some sm->jh l m=gr l S 0->sm.h.get (base+j)=none:=by
  intro m sm hm hsm hL
  cases hg:sm.h.get (base+j) with
  |none=>rfl
  |some c=>
   exfalso
   obtain ⟨i,x,hi,hx,hst,hb⟩:=(D.hole m hm sm hsm).2 j hjlt (by rw [hg];simp)
   have hi1:=D.back j i hb
   have hsi:S i=true:=by
    cases hsi:S i with
    |true=>rfl
    |false=>
     exfalso
     have e2:jh l (i+1)=jh l i+1:=by rw [D.iG hx,hst];rfl
     have e1:jh l (i+1)<=jh l m:=iU _ _ _ _ fun k _ _ _ hk=>by simp [Nat.blt_eq] at hk ⊢;omega
     have e3:gr l S 0<=jh l i:=iU _ _ _ _ fun k y hk hy hbk=>by
      simp only [Nat.zero_add,Nat.blt_eq] at hbk ⊢
      rcases Nat.lt_trichotomy k i with h1 |h1 |h1
      ·exact h1
      ·subst h1;rw [hbk] at hsi;cases hsi
      ·exfalso
       rcases (D.pair i k x y h1 hx hk).2 with hb' |hb' |hb'
       ·have:=hcl i k hbk hb';rw [hsi] at this;cases this
       ·rw [hst] at hb';cases hb'
       ·rw [hy] at hb';cases hb'
     omega
   have:=hcl j i hsi hb
   rw [hS] at this;cases this
 have hplug:(∀c,(j,c) ∉ F)->∀hx:H,∀i,(br (fun i=>S i || i == j) base F hx).get i=(br S base F hx).get i:=by
  intro hno hx i
  cases hg:(br S base F hx).get i with
  |some c=>exact jQ (q:=fun i=>S i || i == j) hu hu (fun k c hm hp=>⟨hm,by simp [hp]⟩) hg
  |none=>
   cases hg2:(br (fun i=>S i || i == j) base F hx).get i with
   |none=>rfl
   |some c=>
    have:=jQ (q:=S) hu hu (fun k c hm hp=>⟨hm,by
     simp only [Bool.or_eq_true,beq_iff_eq] at hp
     rcases hp with hp |rfl
     ·exact hp
     ·exact absurd hm (hno c)⟩) hg2
    rw [hg] at this;cases this
 have hnof:fV o.op=false->∀c,(j,c) ∉ F:=by
  intro hf c hm
  have h1:=((D.made (m:=j+1) (by omega) g2 j c).2 ⟨hm,by omega⟩)
  rcases g4 with ⟨_,_,_,hF⟩ |⟨_,hf',_⟩ |⟨_,_,hF,_⟩
  ·rw [hF] at h1;have:=D.ki j (by omega) s g1 j c h1;omega
  ·rw [hf] at hf';cases hf'
  ·rw [hF] at h1;have:=D.ki j (by omega) s g1 j c h1;omega
 obtain ⟨m0,sm0,hm0,hsm0,hL0,hnx,hget⟩:=hh
 have hh:vC base l K F S h:=⟨m0,sm0,hm0,hsm0,hL0,hnx,hget⟩
 have stay:(∀c,(j,c) ∉ F)->cL o=false->vC base l K F (fun i=>S i || i == j) h:=by
  intro hno hq
  refine ⟨m0,sm0,hm0,hsm0,?_,hnx,fun i=>?_⟩
  ·rw [hlc,hq,hL0];simp
  ·rw [hget i,hplug hno]
 rcases g4 with ⟨hw,rfl,hhe,hF⟩ |⟨hw,hf,ob,hfv,hhe,hF⟩ |⟨hw,hf,hF,h2,hx,hhe⟩
 ·
  have hno:∀c,(j,c) ∉ F:=by
   intro c hm
   have h1:=((D.made (m:=j+1) (by omega) g2 j c).2 ⟨hm,by omega⟩)
   rw [hF] at h1;have:=D.ki j (by omega) s g1 j c h1;omega
  cases hst:cL o with
  |false=>
   refine ⟨h,stay hno hst,hadd,.inl ?_⟩
   unfold iE
   rw [if_neg (by rw [hwc,hw];simp)]
  |true=>
   refine ⟨h,⟨j+1,s',by omega,g2,?_,?_⟩,hadd,.inl ?_⟩
   ·have hk:gr l S 0=jh l j:=gW _ _ _ _ fun i x hi hl=>by
     simp only [Nat.zero_add]
     rcases Nat.lt_trichotomy i j with hlt |rfl |hgt
     ·rw [nQ hlt]
      rcases (D.pair i j x o hlt hi hj).2 with hb |ha |ha
      ·exact hready i hb
      ·rw [hl] at ha;cases ha
      ·rw [hst] at ha;cases ha
     ·rw [hS,gK (Nat.le_refl _)]
     ·rw [gK (Nat.le_of_lt hgt)]
      rcases (D.pair j i o x hgt hj hi).2 with hb |ha |ha
      ·exact hlater i x hgt hi hb
      ·rw [hst] at ha;cases ha
      ·rw [hl] at ha;cases ha
    rw [D.iG hj,hlc,hk,hst]
   ·have hk:jh l j=gr l S 0:=by
     refine (gW _ _ _ _ fun i x hi hl=>?_).symm
     simp only [Nat.zero_add]
     rcases Nat.lt_trichotomy i j with hlt |rfl |hgt
     ·rw [nQ hlt]
      rcases (D.pair i j x o hlt hi hj).2 with hb |ha |ha
      ·exact hready i hb
      ·rw [hl] at ha;cases ha
      ·rw [hst] at ha;cases ha
     ·rw [hS,gK (Nat.le_refl _)]
     ·rw [gK (Nat.le_of_lt hgt)]
      rcases (D.pair j i o x hgt hj hi).2 with hb |ha |ha
      ·exact hlater i x hgt hi hb
      ·rw [hst] at ha;cases ha
      ·rw [hl] at ha;cases ha
    obtain ⟨e1,e2⟩:=D.xZ hh (m:=j) g1 hk
    rw [hhe]
    exact ⟨e1,fun i=>by rw [e2 i,hplug hno]⟩
   ·unfold iE
    rw [if_neg (by rw [hwc,hw];simp)]
 ·
  have hfc:eN (base+j) (bP l vs S 0 ts0) o.op=eN (base+j) s.ts o.op:=Dh fun x hx=>by
   cases x with
   |tmp t=>
    have:=hlook t (by simp only [AO.looks,List.mem_append];exact .inr (oI hx))
    simp only [aj,List.getD_eq_getElem?_getD,this]
   |_=>rfl
  have hst:cL o=false:=by simp [cL,hf]
  have hg0:=hnone m0 sm0 hm0 hsm0 hL0
  have hgn:h.get (base+j)=none:=by
   rw [hget]
   cases hg:(br S base F sm0.h).get (base+j) with
   |none=>rfl
   |some c=>
    rcases ig hu hg with h1 |⟨_,k,hk,_,hsk⟩
    ·rw [hg0] at h1;cases h1
    ·have:k=j:=by omega
     subst this
     rw [hS] at hsk;cases hsk
  have hroom:=(D.hole m0 hm0 sm0 hsm0).1
  refine ⟨Ge h (base+j) ob,?_,hadd,.inr ⟨by rw [hwc];exact hw,hf,hgn,by omega,ob,by rw [hfc];exact hfv,rfl⟩⟩
  cases ob with
  |none=>
   have hno:∀c,(j,c) ∉ F:=by
    intro c hm
    have h1:=((D.made (m:=j+1) (by omega) g2 j c).2 ⟨hm,by omega⟩)
    rw [hF] at h1
    simp at h1
    have:=D.ki j (by omega) s g1 j c h1;omega
   exact stay hno hst
  |some c=>
   have hmem:(j,c)∈F:=by
    refine ((D.made (m:=j+1) (by omega) g2 j c).1 ?_).1
    rw [hF];simp
   refine ⟨m0,sm0,hm0,hsm0,by rw [hlc,hst,hL0];simp,hnx,fun i=>?_⟩
   by_cases e:i=base+j
   ·subst e
    rw [eO hu hmem (by simp) hg0]
    exact H.an _ _ _
   ·have e1:(Ge h (base+j) (some c)).get i=h.get i:=H.ah h c (Ne.symm e)
    rw [e1,hget i]
    cases hg:(br S base F sm0.h).get i with
    |some d=>exact (jQ (q:=fun i=>S i || i == j) hu hu (fun k c hm hp=>⟨hm,by simp [hp]⟩) hg).symm
    |none=>
     cases hg2:(br (fun i=>S i || i == j) base F sm0.h).get i with
     |none=>rfl
     |some d=>
      exfalso
      rcases ig hu hg2 with h1 |⟨hn,k,hk,hkm,hsk⟩
      ·rw [cH h1] at hg;cases hg
      ·simp only [Bool.or_eq_true,beq_iff_eq] at hsk
       rcases hsk with hsk |rfl
       ·subst hk
        rw [eO hu hkm hsk hn] at hg;cases hg
       ·exact e hk
 ·
  have hno:=hnof hf
  have hanc:∀(F':List (Nat × eo)),De F'->(∀k c,(k,c)∈F'->dW b k j=true->(k,c)∈F)->∀(sm:LS),∀i c,(br (fun k=>dW b k j) base F' sm.h).get i=some c->(br S base F sm.h).get i=some c:=
   fun F' hu' hF' sm i c hg=>jQ hu hu' (fun k c hm hb=>⟨hF' k c hm hb,hready k hb⟩) hg
  have hFj:∀k c,(k,c)∈s.F->dW b k j=true->(k,c)∈F:=fun k c hm _=>((D.made (m:=j) (by omega) g1 k c).1 hm).1
  cases hq:ew o.op with
  |true=>
   have hst:cL o=true:=by simp [cL,hq,hf]
   have hk:jh l j=gr l S 0:=by
    refine (gW _ _ _ _ fun i x hi hl=>?_).symm
    simp only [Nat.zero_add]
    rcases Nat.lt_trichotomy i j with hlt |rfl |hgt
    ·rw [nQ hlt]
     rcases (D.pair i j x o hlt hi hj).2 with hb |ha |ha
     ·exact hready i hb
     ·rw [hl] at ha;cases ha
     ·rw [hst] at ha;cases ha
    ·rw [hS,gK (Nat.le_refl _)]
    ·rw [gK (Nat.le_of_lt hgt)]
     rcases (D.pair j i o x hgt hj hi).2 with hb |ha |ha
     ·exact hlater i x hgt hi hb
     ·rw [hst] at ha;cases ha
     ·rw [hl] at ha;cases ha
   obtain ⟨e1,e2⟩:=D.xZ hh (m:=j) g1 hk
   have hroom:=(D.hole j (by omega) s g1).1
   have hP:bS (qz (br (fun k=>dW b k j) base s.F s.h) h) (br (fun k=>dW b k j) base s.F s.h) h:=by
    refine A9 (by rw [iN,e1]) (fun i c hg=>by rw [e2 i];exact hanc s.F huj hFj s i c hg) (fun i hn hne=>?_)
    obtain ⟨c,hc⟩:=Option.ne_none_iff_exists'.1 hne
    rw [e2 i] at hc
    rw [iN]
    rcases ig hu hc with h1 |⟨_,k,rfl,hkm,_⟩
    ·rw [cH h1] at hn;cases hn
    ·have hkl:k < l.length:=by
      obtain ⟨se,hse,hseF⟩:=D.fin
      rw [← hseF] at hkm
      exact D.ki _ (Nat.le_refl _) se hse k c hkm
     omega
   have hlow:∀i,i < P.globals.size->(qz (br (fun k=>dW b k j) base s.F s.h) h).f i=none:=by
    intro i hi
    unfold qz
    simp only
    split
    ·rename_i hn
     cases hc:h.get i with
     |none=>rfl
     |some c=>
      exfalso
      rw [e2 i] at hc
      rcases ig hu hc with h1 |⟨_,k,rfl,_,_⟩
      ·rw [cH h1] at hn;cases hn
      ·have:=D.dU;omega
    ·rfl
   obtain ⟨h',hx',hP'⟩:=qu D.mono hlow hP hx
   refine ⟨h',⟨j+1,s',by omega,g2,by rw [D.iG hj,hlc,hk,hst],?_⟩,hadd,.inl (by rw [hcongr];exact hx')⟩
   rw [hq] at hhe
   simp only [cond_true] at hhe
   rw [hhe]
   refine ⟨hP'.1,fun i=>?_⟩
   rw [hplug hno]
   have hi:=hP'.2.1 i
   have hkeep:∀k,(br (fun k=>dW b k j) base s.F s.h).get k≠none->h2.get k≠none:=fun k hk=>hP'.2.2.1 k hk
   cases hg:h2.get i with
   |some c=>
    rw [cH hg]
    split at hi
    ·rw [hi.1] at hg;cases hg
    ·rw [hi,hg]
   |none=>
    have hn0:(br (fun k=>dW b k j) base s.F s.h).get i=none:=by
     cases hc:(br (fun k=>dW b k j) base s.F s.h).get i with
     |none=>rfl
     |some c=>exact absurd hg (hkeep i (by rw [hc];simp))
    have hX:(qz (br (fun k=>dW b k j) base s.F s.h) h).f i=h.get i:=by
     unfold qz;simp only [hn0]
    rw [hX] at hi
    have hs0:s.h.get i=none:=by
     cases hc:s.h.get i with
     |none=>rfl
     |some c=>rw [cH hc] at hn0;cases hn0
    have htarget:h'.get i=h.get i:=by
     cases hc:h.get i with
     |none=>rw [hc] at hi;simp only at hi;rw [hi,hg]
     |some c=>rw [hc] at hi;simp only at hi;exact hi.2.1
    rw [htarget,e2 i]
    cases hc:(br S base F s.h).get i with
    |some c=>
     rcases ig hu hc with h1 |⟨_,k,rfl,hkm,hsk⟩
     ·rw [hs0] at h1;cases h1
     ·exact (eO hu hkm hsk hg).symm
    |none=>
     cases hc2:(br S base F h2).get i with
     |none=>rfl
     |some c=>
      exfalso
      rcases ig hu hc2 with h1 |⟨_,k,rfl,hkm,hsk⟩
      ·rw [hg] at h1;cases h1
      ·rw [eO hu hkm hsk hs0] at hc;cases hc
  |false=>
   have hst:cL o=false:=by simp [cL,hq]
   refine ⟨h,stay hno hst,hadd,.inl ?_⟩
   rw [hcongr]
   have hlow:∀(hq':H),(∀i c,hq'.get i=some c->h.get i=some c)->(∀i,i < P.globals.size->hq'.get i=none->h.get i=none)->∀i,i < P.globals.size->(qz hq' h).f i=none:=by
    intro hq' _ hg i hi
    unfold qz
    simp only
    split
    ·rename_i hn;exact hg i hi hn
    ·rfl
   unfold iE at hx ⊢
   rw [if_pos hw] at hx ⊢
   have key:af P s.ts (br (fun j_1=>dW b j_1 j) base s.F s.h) o.op=some (v,h2)->af P s.ts h o.op=some (v,h):=fun hx=>by
    cases hn:eJ o.op with
    |false=>exact rE hq hn hx h
    |true=>
     have hload:∀hq':H,(∀p n cs,hq'.cells p n=some cs->h.cells p n=some cs)->(∀v,ep hq' v≠none->ep h v=ep hq' v)->(∀i c,hq'.get i=some c->h.get i=some c)->af P s.ts hq' o.op=some (v,hq')->af P s.ts h o.op=some (v,h):=by
      intro hq' h1 h1' h2' h3
      cases hop:o.op<;>rw [hop] at hn h3<;>simp only [eJ,Bool.false_eq_true] at hn<;>simp only [af] at h3 ⊢
      case lookup kt zero ok m k=>
       split at h3
       ·rename_i es hes
        have hat:h.mS (aj s.ts m)=some es:=by
         unfold H.mS at hes ⊢
         split at hes
         ·exact hes
         ·split at hes
          ·rename_i hg;rw [h2' _ _ hg];exact hes
          ·cases hes
         ·cases hes
        rw [hat]
        simp only at h3 ⊢
        obtain ⟨y,hy,he⟩:=aa h3
        simp only [Prod.mk.injEq,and_true] at he
        rw [hy,← he];rfl
       ·cases h3
      case load agg n a=>
       split at h3
       ·split at h3
        ·rename_i cs hcs
         rw [h1 _ _ _ hcs]
         cases agg with
         |true=>simp only [if_true,Option.some.injEq,Prod.mk.injEq,and_true] at h3 ⊢;exact h3
         |false=>
          simp only [Bool.false_eq_true,if_false] at h3 ⊢
          obtain ⟨w,hw',he⟩:=aa h3
          simp only [Prod.mk.injEq,and_true] at he
          rw [hw',he];rfl
        ·cases h3
       ·cases h3
      case fK x=>
       split at h3
       ·rename_i cs hcs
        rw [h1' _ (by rw [hcs];simp),hcs]
        simp only
        obtain ⟨w,hw',he⟩:=aa h3
        simp only [Prod.mk.injEq,and_true] at he
        rw [hw',← he];rfl
       ·cases h3
      case jK x=>
       split at h3
       ·simp only [Option.some.injEq,Prod.mk.injEq,and_true] at h3 ⊢;exact h3
       ·split at h3
        ·rename_i e3 e4
         rw [h2' _ _ e4,e3]
         simp only
         split at h3
         ·rename_i hc;rw [if_pos hc];simp only [Option.some.injEq,Prod.mk.injEq,and_true] at h3 ⊢;exact h3
         ·cases h3
        ·cases h3
       ·cases h3
      case jL u x=>
       split at h3
       ·simp only [Option.some.injEq,Prod.mk.injEq,and_true] at h3 ⊢;exact h3
       ·split at h3
        ·rename_i e3 e4
         rw [h2' _ _ e4,e3]
         simp only
         split at h3
         ·rename_i hc;rw [if_pos hc];simp only [Option.some.injEq,Prod.mk.injEq,and_true] at h3 ⊢;exact h3
         ·cases h3
        ·cases h3
       ·cases h3
     have hroom:=(D.hole j (by omega) s g1).1
     have hsubs:∀(F':List (Nat × eo)) (hu':De F') (hF':∀k c,(k,c)∈F'->dW b k j=true->(k,c)∈F) (sm:LS) (m:Nat),m<=l.length->K[m]?=some sm->(h.next=sm.h.next/\∀i,h.get i=(br S base F sm.h).get i)->
       bS (qz (br (fun k=>dW b k j) base F' sm.h) h) (br (fun k=>dW b k j) base F' sm.h) h:=by
      intro F' hu' hF' sm m hm hsm he
      refine A9 (by rw [iN,he.1]) (fun i c hg=>by rw [he.2 i];exact hanc F' hu' hF' sm i c hg) (fun i hn hne=>?_)
      obtain ⟨c,hc⟩:=Option.ne_none_iff_exists'.1 hne
      rw [he.2 i] at hc
      rw [iN]
      have hr:=(D.hole m hm sm hsm).1
      rcases ig hu hc with h1 |⟨_,k,rfl,hkm,_⟩
      ·rw [cH h1] at hn;cases hn
      ·have hkl:k < l.length:=by
        obtain ⟨se,hse,hseF⟩:=D.fin
        rw [← hseF] at hkm
        exact D.ki _ (Nat.le_refl _) se hse k c hkm
       omega
     have fin:∀hq':H,bS (qz hq' h) hq' h->af P s.ts hq' o.op=some (v,hq')->af P s.ts h o.op=some (v,h):=by
      intro hq' hP h3
      refine hload hq' (fun p n cs hc=>hP.cells hc) (fun v hv=>?_) (fun i c hc=>hP.get hc) h3
      obtain ⟨x,hx⟩:=Option.ne_none_iff_exists'.1 hv
      rw [hx,hP.slc hx]
     have e0:=mW hq hx
     subst e0
     by_cases hk:jh l j=gr l S 0
     ·exact fin _ (hsubs s.F huj hFj s j (by omega) g1 (D.xZ hh g1 hk)) hx
     ·obtain ⟨m',hmr,hmle,hLm'⟩:=D.rep m0 hm0
      obtain ⟨sm',hsm',_⟩:=D.slots m' (by omega)
      have hheap:sm0.h=sm'.h:=D.oO m' m0 sm' sm0 hmle hLm' hsm' hsm0
      have hlo:gr l (fun i=>bit b i j) 0<=gr l S 0:=iU _ _ _ _ fun i _ _ _ hb=>hready _ hb
      have hhi:gr l S 0<=gr l (fun i=>!(bit b j i)) 0:=iU _ _ _ _ fun i _ _ _ hs=>by
       simp only [Nat.zero_add] at hs ⊢
       cases hb:bit b j i with
       |false=>rfl
       |true=>have:=hcl j i hs hb;rw [hS] at this;cases this
      have hmem:(j,m')∈nR b l o j:=by
       unfold nR
       rw [hq,hn]
       simp only [Bool.not_true,Bool.or_self,Bool.false_eq_true,if_false,List.mem_map,List.mem_filter]
       refine ⟨m',⟨hmr,?_⟩,rfl⟩
       have e1:gr l (fun j=>Nat.blt j m') 0=gr l S 0:=hLm'.trans hL0
       rw [e1]
       simp only [Bool.and_eq_true,Nat.ble_eq,Bool.not_eq_true']
       refine ⟨⟨hlo,hhi⟩,?_⟩
       cases hbe:Nat.beq (gr l S 0) (gr l (fun i=>Nat.blt i j) 0) with
       |false=>rfl
       |true=>exact absurd (Nat.eq_of_beq_eq_true hbe).symm hk
      have hck:=D.aC j o hj _ hmem
      unfold oL at hck
      simp only [hj,g1,hsm'] at hck
      rw [if_pos hw] at hck
      have hP:=hsubs F hu (fun k c hm _=>hm) sm' m' (by omega) hsm' (by rw [← hheap];exact ⟨hnx,hget⟩)
      have hanc2:∀p n cs,(br (fun k=>dW b k j) base s.F s.h).cells p n=some cs->(br (fun k=>dW b k j) base F s.h).cells p n=some cs:=by
       intro p n cs hc
       unfold H.cells at hc ⊢
       split at hc
       ·rename_i xs hs' hb'
        obtain ⟨bk,hb1,hb2⟩:=Option.bind_eq_some_iff.1 hb'
        rw [hs',jQ (q:=fun k=>dW b k j) hu huj (fun k c hm hb=>⟨hFj k c hm hb,hb⟩) hb1]
        simp only [Option.bind_some,hb2]
        exact hc
       ·cases hc
      cases hop:o.op<;>rw [hop] at hck hx<;>simp only [Bool.false_eq_true] at hck
      rename_i agg n x
      simp only [af] at hx ⊢
      split at hck
      ·rename_i p hpp
       rw [hpp] at hx ⊢
       simp only at hx ⊢
       unfold c8 at hck
       split at hck
       ·rename_i c1 c2 e1 e2
        have:=jN hck
        subst this
        rw [hP.cells e2]
        split at hx
        ·rename_i cs hcs
         have:=hanc2 _ _ _ hcs
         rw [e1] at this
         cases this
         cases agg with
         |true=>simp only [if_true,Option.some.injEq,Prod.mk.injEq,and_true] at hx ⊢;exact hx
         |false=>
          simp only [Bool.false_eq_true,if_false] at hx ⊢
          obtain ⟨v',hv',he⟩:=aa hx
          simp only [Prod.mk.injEq,and_true] at he
          rw [hv',he];rfl
        ·cases hx
       ·cases hck
      ·cases hck
   cases hop:o.op<;>rw [hop] at hx key hq<;>simp only at hx ⊢<;>first |exact key hx |(simp only [ew,Bool.true_eq_false] at hq;done) |skip
   obtain ⟨gf,rfl,hpf⟩:=D.s4 o (List.mem_of_getElem? hj) _ _ hop
   split at hx
   ·rename_i v' rc1 h1' hcall
    cases hx
    have:=(D.ME _ _ _ _ _ _ hpf hcall).2 h
    simp only [aj] at this ⊢
    rw [this]
   ·cases hx
end
end Go.Ev
