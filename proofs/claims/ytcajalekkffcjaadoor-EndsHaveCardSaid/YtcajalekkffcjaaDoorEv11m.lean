/- The evaluator over a small code, and that what it finds of a call holds of the machine, part 11m. -/
import Derived.Test.YtcajalekkffcjaaDoorEv12c
import Derived.Test.YtcajalekkffcjaaDoorEv3m
namespace Go.Ev
open Go Go.RowKit
variable {P:Program} {rec:Rec} {X:XD} {h h2:H} {ts:List Value}
theorem bS.src (p:bS X h h2) {size:Nat} {v:Value} {x:Nat × List Value} (hx:cg h size v=some x):cg h2 size v=some x:=by
 unfold cg at hx ⊢
 split at hx
 ·exact hx
 ·split at hx
  ·rename_i hn;rw [if_pos hn];exact hx
  ·rename_i hn
   rw [if_neg hn]
   obtain ⟨cs,h1,rfl⟩:=aa hx
   rw [p.cells h1];rfl
 ·exact hx
 ·cases hx
theorem bS.slc (p:bS X h h2) {v:Value} {x:List Value} (hx:ep h v=some x):ep h2 v=some x:=by
 unfold ep at hx ⊢
 split at hx
 ·obtain ⟨c,h1,rfl⟩:=aa hx
  rw [p.src h1];rfl
 ·cases hx
theorem B0 (p:bS X h h2) {e:TypeId} {size bytes m:Nat} {new:List Value} {s v:Value} {h':H} (hx:eS h e size bytes m new s=some (v,h')):
  ∃h2',eS h2 e size bytes m new s=some (v,h2')/\bS X h' h2':=by
 unfold eS at hx ⊢
 split at hx
 ·split at hx
  ·rename_i hm;rw [if_pos hm];cases hx;exact ⟨h2,rfl,p⟩
  ·rename_i hm
   rw [if_neg hm]
   split at hx
   ·rename_i hc;rw [if_pos hc];cases hx;rw [p.1];exact ⟨_,rfl,p.alloc _⟩
   ·cases hx
 ·rename_i a n skip
  split at hx
  ·rename_i hm;rw [if_pos hm];cases hx;exact ⟨h2,rfl,p⟩
  ·rename_i hm
   rw [if_neg hm]
   split at hx
   ·rename_i tight cs e' rows hg
    rw [p.get hg]
    simp only
    have key:∀b,bS X ((bif tight then h else h.set a.block .dead).alloc b) ((bif tight then h2 else h2.set a.block .dead).alloc b):=fun b=>by
     cases tight with
     |true=>exact p.alloc _
     |false=>exact (p.set hg _).alloc _
    split at hx
    ·rename_i hc
     rw [if_pos hc];cases hx;rw [p.1]
     exact ⟨_,rfl,key _⟩
    ·rename_i hc
     rw [if_neg hc]
     split at hx
     ·rename_i hd
      rw [if_pos hd];cases hx;rw [p.1]
      exact ⟨_,rfl,key _⟩
     ·cases hx
   ·cases hx
 ·cases hx
theorem bS.mS (p:bS X h h2) {v:Value} {es:List (Value × Value)} (hx:h.mS v=some es):h2.mS v=some es:=by
 unfold H.mS at hx ⊢
 split at hx
 ·exact hx
 ·split at hx
  ·rename_i hg;rw [p.get hg];exact hx
  ·cases hx
 ·cases hx
theorem yA (p:bS X h h2) {op:j8} {v:Value} {h':H} (hx:af P ts h op=some (v,h')):∃h2',af P ts h2 op=some (v,h2')/\bS X h' h2':=by
 by_cases hq:ew op=false/\eJ op=false
 ·have e:=mW hq.1 hx
  subst e
  exact ⟨h2,rE hq.1 hq.2 hx h2,p⟩
 ·cases op<;>(try (exact absurd ⟨rfl,rfl⟩ hq))<;>simp only [af] at hx ⊢
  case alloc e zero=>cases hx;rw [p.1];exact ⟨_,rfl,p.alloc _⟩
  case box e size x=>
   split at hx
   ·rename_i hc;rw [if_pos hc];cases hx;rw [p.1];exact ⟨_,rfl,p.alloc _⟩
   ·cases hx
  case buildSlice e n size zero ps=>
   obtain ⟨l,hl,he⟩:=aa hx
   cases he
   rw [hl,p.1];exact ⟨_,rfl,p.alloc _⟩
  case load agg n a=>
   split at hx
   ·split at hx
    ·rename_i cs hcs
     rw [p.cells hcs]
     cases agg with
     |true=>cases hx;exact ⟨h2,rfl,p⟩
     |false=>
      simp only [Bool.false_eq_true,if_false] at hx ⊢
      obtain ⟨w,hw,he⟩:=aa hx
      cases he
      rw [hw];exact ⟨h2,rfl,p⟩
    ·cases hx
   ·cases hx
  case store n a x=>
   split at hx
   ·rename_i q hq
    split at hx
    ·rename_i tight cs e rows hs hg
     split at hx
     ·rename_i hc;cases hx;rw [p.get hg,hs];simp only;rw [if_pos hc];exact ⟨_,rfl,p.set hg _⟩
     ·cases hx
    ·cases hx
   ·cases hx
  case append e size bytes s x=>
   split at hx
   ·cases hx
   ·rename_i m new hm
    rw [p.src hm]
    simp only
    split at hx
    ·rename_i hc;rw [if_pos hc];exact B0 p hx
    ·cases hx
  case makeSlice e bytes zero l c=>
   split at hx
   ·split at hx
    ·rename_i hc;rw [if_pos hc];cases hx;rw [p.1];exact ⟨_,rfl,p.alloc _⟩
    ·cases hx
   ·cases hx
  case gm e x=>
   split at hx
   ·split at hx
    ·rename_i hc;rw [if_pos hc];cases hx;rw [p.1];exact ⟨_,rfl,p.alloc _⟩
    ·cases hx
   ·cases hx
  case fK x=>
   split at hx
   ·rename_i cs hcs
    rw [p.slc hcs]
    simp only
    obtain ⟨w,hw,he⟩:=aa hx
    cases he
    rw [hw];exact ⟨h2,rfl,p⟩
   ·cases hx
  case Au x=>
   split at hx
   ·split at hx
    ·rename_i cs _ _ hs hg
     rw [p.get hg,hs];cases hx;exact ⟨_,rfl,p.set hg _⟩
    ·cases hx
   ·cases hx
  case jK x=>
   split at hx
   ·cases hx;exact ⟨h2,rfl,p⟩
   ·split at hx
    ·rename_i hs hg
     rw [p.get hg,hs]
     simp only
     split at hx
     ·rename_i hc;rw [if_pos hc];cases hx;exact ⟨h2,rfl,p⟩
     ·cases hx
    ·cases hx
   ·cases hx
  case jL u x=>
   split at hx
   ·cases hx;exact ⟨h2,rfl,p⟩
   ·split at hx
    ·rename_i hs hg
     rw [p.get hg,hs]
     simp only
     split at hx
     ·rename_i hc;rw [if_pos hc];cases hx;exact ⟨h2,rfl,p⟩
     ·cases hx
    ·cases hx
   ·cases hx
  case rA e x n=>
   split at hx
   ·cases hx;exact ⟨h2,rfl,p⟩
   ·split at hx
    ·rename_i hs hg
     rw [p.get hg,hs]
     simp only
     split at hx
     ·rename_i hc
      rw [if_pos hc]
      obtain ⟨w,hw,he⟩:=aa hx
      cases he
      rw [hw];exact ⟨_,rfl,p.set hg _⟩
     ·cases hx
    ·cases hx
   ·cases hx
  case makeNoZero e n=>
   split at hx
   ·split at hx
    ·rename_i hc;rw [if_pos hc];cases hx;rw [p.1];exact ⟨_,rfl,p.alloc _⟩
    ·cases hx
   ·cases hx
  case makeMap=>cases hx;rw [p.1];exact ⟨_,rfl,p.alloc _⟩
  case lookup kt zero ok m k=>
   split at hx
   ·rename_i es hes
    rw [p.mS hes]
    simp only
    obtain ⟨y,hy,he⟩:=aa hx
    cases he
    rw [hy];exact ⟨h2,rfl,p⟩
   ·cases hx
  case mapUpdate kt m k y=>
   split at hx
   ·split at hx
    ·rename_i es hg
     rw [p.get hg]
     simp only
     obtain ⟨es',hy,he⟩:=aa hx
     cases he
     rw [hy];exact ⟨_,rfl,p.set hg _⟩
    ·cases hx
   ·cases hx
  case nN x=>
   split at hx
   ·cases hx;rw [p.1];exact ⟨_,rfl,p.alloc _⟩
   ·cases hx
  case rB x=>
   split at hx
   ·split at hx
    ·rename_i s pos hg
     rw [p.get hg]
     simp only
     split at hx
     ·rename_i hc;rw [if_pos hc];cases hx;exact ⟨_,rfl,p.set hg _⟩
     ·rename_i hc;rw [if_neg hc];cases hx;exact ⟨_,rfl,p⟩
    ·cases hx
   ·cases hx
  all_goals (cases hx)
def IW (X:XD):Step->Step->Prop
 | .on a h,.on a' h'=>a=a'/\bS X h h'
 | .panic v a h,.panic v' a' h'=>v=v'/\a=a'/\bS X h h'
 |_,_=>False
section
variable {G:Nat} (hr:A2 G rec) (hX:∀i,i < G->X.f i=none)
include hr hX
theorem qu (p:bS X h h2) {o:AO} {v:Value} {h':H} (hx:iE P rec o ts h=some (v,h')):∃h2',iE P rec o ts h2=some (v,h2')/\bS X h' h2':=by
 unfold iE at hx ⊢
 split at hx
 ·rename_i hw
  rw [if_pos hw]
  cases hop:o.op<;>rw [hop] at hx<;>simp only at hx ⊢<;>try exact yA p hx
  all_goals
   split at hx
   ·rename_i v' rc h1 hc
    cases hx
    obtain ⟨h2',e1,e2⟩:=hr.call X _ _ _ _ _ _ _ _ hX p hc
    rw [e1];exact ⟨h2',rfl,e2⟩
   ·cases hx
 ·rename_i hw
  rw [if_neg hw];cases hx;exact ⟨h2,rfl,p⟩
theorem rF (p:bS X h h2) {o:AO} {a:aD} {st:Step} (hx:cG P rec o a h=some st):∃st2,cG P rec o a h2=some st2/\IW X st st2:=by
 unfold cG at hx ⊢
 by_cases hw:aq o.guard a.tmps=true
 ·rw [if_pos hw] at hx ⊢
  cases hop:o.op<;>rw [hop] at hx<;>simp only at hx ⊢
  case call f args=>
   split at hx
   ·rename_i v' rc h1 hc
    cases hx
    obtain ⟨h2',e1,e2⟩:=hr.call X _ _ _ _ _ _ _ _ hX p hc
    simp only [e1];exact ⟨_,rfl,rfl,e2⟩
   ·rename_i v' rc h1 hc
    cases hx
    obtain ⟨h2',e1,e2⟩:=hr.call X _ _ _ _ _ _ _ _ hX p hc
    simp only [e1];exact ⟨_,rfl,rfl,rfl,e2⟩
   ·cases hx
  case dA f args=>
   split at hx
   ·rename_i v' rc h1 hc
    cases hx
    obtain ⟨h2',e1,e2⟩:=hr.call X _ _ _ _ _ _ _ _ hX p hc
    simp only [e1];exact ⟨_,rfl,rfl,e2⟩
   ·rename_i v' rc h1 hc
    cases hx
    obtain ⟨h2',e1,e2⟩:=hr.call X _ _ _ _ _ _ _ _ hX p hc
    simp only [e1];exact ⟨_,rfl,rfl,rfl,e2⟩
   ·cases hx
  case defer f args=>
   split at hx
   ·cases hx;exact ⟨_,rfl,rfl,p⟩
   ·cases hx
  case recover=>
   split at hx
   ·cases hx;exact ⟨_,rfl,rfl,p⟩
   ·cases hx;exact ⟨_,rfl,rfl,p⟩
   ·cases hx
  case panic x=>
   split at hx
   ·cases hx;exact ⟨_,rfl,rfl,rfl,p⟩
   ·cases hx
  all_goals
   split at hx
   ·rename_i v h' hv
    cases hx
    obtain ⟨h2',e1,e2⟩:=yA p hv
    simp only [e1]
    exact ⟨_,rfl,rfl,e2⟩
   ·cases hx
 ·rw [if_neg hw] at hx ⊢
  cases hx;exact ⟨_,rfl,rfl,p⟩
theorem yB:∀{l:List AO} {h h2:H} {a:aD} {x:aM} {a':aD} {h':H},bS X h h2->eW P rec l a h=some (x,a',h')->∃h2',eW P rec l a h2=some (x,a',h2')/\bS X h' h2'
 | [],h,h2,a,x,a',h',p,hx=>by cases hx;exact ⟨h2,rfl,p⟩
 |o :: l,h,h2,a,x,a',h',p,hx=>by
  simp only [eW] at hx ⊢
  split at hx
  ·rename_i a1 h1 he
   obtain ⟨st,e1,e2⟩:=rF hr hX p he
   cases st with
   |on a2 k=>obtain ⟨rfl,e2⟩:=e2;simp only [e1];exact yB e2 hx
   |panic v a2 k=>exact e2.elim
  ·rename_i v a1 h1 he
   cases hx
   obtain ⟨st,e1,e2⟩:=rF hr hX p he
   cases st with
   |on a2 k=>exact e2.elim
   |panic v a2 k=>obtain ⟨rfl,rfl,e2⟩:=e2;simp only [e1];exact ⟨k,rfl,e2⟩
  ·cases hx
def A6 (X:XD):List (List Value × H)->List (List Value × H)->Prop
 | [],[]=>True
 |(t,h) :: r,(t',h') :: r'=>t=t'/\bS X h h'/\A6 X r r'
 |_,_=>False
omit hr hX in
theorem A6.get:∀{G G':List (List Value × H)} {i:Nat} {t:List Value} {h:H},A6 X G G'->G[i]?=some (t,h)->∃h',G'[i]?=some (t,h')/\bS X h h'
 | [],[],_,_,_,_,hi=>by simp at hi
 |(t,h) :: r,(t',h') :: r',0,u,k,p,hi=>by
  simp only [List.getElem?_cons_zero,Option.some.injEq,Prod.mk.injEq] at hi
  obtain ⟨rfl,rfl⟩:=hi
  obtain ⟨rfl,p1,_⟩:=p
  exact ⟨h',rfl,p1⟩
 |(t,h) :: r,(t',h') :: r',i+1,u,k,p,hi=>by
  simp only [List.getElem?_cons_succ] at hi ⊢
  exact A6.get p.2.2 hi
 | [],_ :: _,_,_,_,p,_=>p.elim
 |_ :: _,[],_,_,_,p,_=>p.elim
theorem oJ:∀{l:List AO} {h h2:H} {ts:List Value} {K:List (List Value × H)},bS X h h2->trace P rec l ts h=some K->∃K2,trace P rec l ts h2=some K2/\A6 X K K2
 | [],h,h2,ts,K,p,hx=>by
   simp only [trace,Option.some.injEq] at hx ⊢
   subst hx
   exact ⟨_,rfl,rfl,p,trivial⟩
 |o :: l,h,h2,ts,K,p,hx=>by
  simp only [trace] at hx ⊢
  split at hx
  ·rename_i v h1 hv
   obtain ⟨k,e1,e2⟩:=qu hr hX p hv
   obtain ⟨K',hK',rfl⟩:=aa hx
   obtain ⟨K2,f1,f2⟩:=oJ e2 hK'
   simp only [e1,f1,Option.map_some]
   exact ⟨_,rfl,rfl,p,f2⟩
  ·cases hx
omit hr hX in
theorem qw {h1 h2 k1 k2:H} (p:bS X h1 k1) (q:bS X h2 k2) {a:Addr} {n:Nat} (hs:c8 h1 h2 a n=true):c8 k1 k2 a n=true:=by
 unfold c8 at hs ⊢
 split at hs
 ·rename_i x y hx hy
  rw [p.cells hx,q.cells hy];exact hs
 ·cases hs
omit hr hX in
theorem wF {ops:List AO} {K K2:List (List Value × H)} (q:A6 X K K2) {c:Nat × Nat} (hc:gG ops K c=true):gG ops K2 c=true:=by
 unfold gG at hc ⊢
 split at hc
 ·rename_i o ts h _ h' e1 e2 e3
  obtain ⟨k1,f1,f2⟩:=q.get e2
  obtain ⟨k2,f3,f4⟩:=q.get e3
  simp only [e1,f1,f3]
  split at hc
  ·rename_i hw
   rw [if_pos hw]
   split at hc
   ·split at hc
    ·exact qw f2 f4 hc
    ·cases hc
   ·cases hc
  ·rename_i hw
   rw [if_neg hw]
 ·cases hc
theorem yC (p:bS X h h2) {ops:List AO} {a:aD} {q:Nat} {K:List (List Value × H)} {o:AO} {us:List Value} {h1:H} {v:Value} {a1:aD} {h3:H}
  (hG:trace P rec (ops.take q) a.tmps h=some K) (ho:ops[q]?=some o) (hp:K[q]?=some (us,h1)) (he:cG P rec o {a with tmps:=us} h1=some (.panic v a1 h3)):
  ∀(cs:oD) {x:aM} {a':aD} {h':H},dV P rec ops a h cs=some (x,a',h')->∃h2',dV P rec ops a h2 cs=some (x,a',h2')/\bS X h' h2'
 | [],_,_,_,hx=>by cases hx
 |c :: cs,x,a',h',hx=>by
  have ih:=fun {x a' h'}=>yC p hG ho hp he cs (x:=x) (a':=a') (h':=h')
  have hplt:q < ops.length:=(List.getElem?_eq_some_iff.1 ho).1
  have hGlen:K.length=q+1:=by
   obtain ⟨vs,_,h2,_⟩:=cZ _ _ _ _ hG
   rw [h2,List.length_take];omega
  obtain ⟨K2,t1,t2⟩:=oJ hr hX p hG
  obtain ⟨k1,t3,t4⟩:=t2.get hp
  obtain ⟨st,t5,t6⟩:=rF hr hX t4 he
  cases st with
  |on a2 k=>exact t6.elim
  |panic v2 a2 k3=>
  obtain ⟨rfl,rfl,t6⟩:=t6
  rcases Nat.lt_trichotomy c.1 q with hlt |heq |hgt
  ·have key:∀(g:H) (L:List (List Value × H)),trace P rec (ops.take q) a.tmps g=some L->dV P rec ops a g (c :: cs)=dV P rec ops a g cs:=by
    intro g L hL
    have h3:=gV c.1 hL
    rw [List.take_take,Nat.min_eq_left (Nat.le_of_lt hlt)] at h3
    obtain ⟨vs,g1,g2,g3,g4⟩:=cZ _ _ _ _ hL
    have hclt:c.1 < ops.length:=by omega
    obtain ⟨oc,hoc⟩:∃oc,ops[c.1]?=some oc:=⟨_,List.getElem?_eq_getElem hclt⟩
    have hoc':(ops.take q)[c.1]?=some oc:=by rw [List.getElem?_take_of_lt hlt];exact hoc
    have hvlt:c.1 < vs.length:=by rw [g1,List.length_take];omega
    obtain ⟨tsi,hi,h',f1,f2,f3⟩:=g4 c.1 oc _ hoc' (List.getElem?_eq_getElem hvlt)
    have f1':(L.take (c.1+1))[c.1]?=some (tsi,hi):=by rw [List.getElem?_take_of_lt (by omega)];exact f1
    have hne:∀v a' h',cG P rec oc {a with tmps:=tsi} hi≠some (.panic v a' h'):=fun v a' h' e=>by
     have:=fX e
     simp only at this
     rw [f2] at this
     cases this
    simp only [dV,h3,hoc,f1']
   rw [key h K hG] at hx
   rw [key h2 K2 t1]
   exact ih hx
  ·subst heq
   simp only [dV,hG,ho,hp,he] at hx
   simp only [dV,t1,ho,t3,t5]
   split at hx
   ·rename_i hck
    have:(c.2.1.all (gG (ops.take c.1) K2))=true:=by
     rw [List.all_eq_true] at hck ⊢
     exact fun d hd=>wF t2 (hck d hd)
    rw [if_pos this]
    cases hx
    exact ⟨_,rfl,t6⟩
   ·cases hx
  ·have key:∀(g:H) (L:List (List Value × H)) (u:List Value) (g1:H),trace P rec (ops.take q) a.tmps g=some L->L[q]?=some (u,g1)->(∃v a1 g3,cG P rec o {a with tmps:=u} g1=some (.panic v a1 g3))->
     dV P rec ops a g (c :: cs)=dV P rec ops a g cs:=by
    intro g L u g1 hL hu ⟨v,a1,g3,hpan⟩
    have hnone:trace P rec (ops.take c.1) a.tmps g=none:=by
     cases ht:trace P rec (ops.take c.1) a.tmps g with
     |none=>rfl
     |some G2=>
      have h3:=gV q ht
      rw [List.take_take,Nat.min_eq_left (Nat.le_of_lt hgt),hL] at h3
      obtain ⟨vs,g1',g2,g3,g4⟩:=cZ _ _ _ _ ht
      have ho':(ops.take c.1)[q]?=some o:=by rw [List.getElem?_take_of_lt hgt];exact ho
      have hvlt:q < vs.length:=by rw [g1',List.length_take];omega
      obtain ⟨tsi,hi,h',f1,f2,f3⟩:=g4 q o _ ho' (List.getElem?_eq_getElem hvlt)
      have:L[q]?=some (tsi,hi):=by
       rw [Option.some.inj h3,List.getElem?_take_of_lt (by omega)];exact f1
      rw [hu] at this
      cases this
      have:=fX hpan
      simp only at this
      rw [f2] at this
      cases this
    simp only [dV,hnone]
   rw [key h K us h1 hG hp ⟨_,_,_,he⟩] at hx
   rw [key h2 K2 us k1 t1 t3 ⟨_,_,_,t5⟩]
   exact ih hx
theorem C8 (p:bS X h h2) {ops:List AO} {aC:List (Nat × Nat)} {cuts:oD} {a:aD} {x:aM} {a':aD} {h':H} (hx:fM P rec ops aC cuts a h=some (x,a',h')):
  ∃h2',fM P rec ops aC cuts a h2=some (x,a',h2')/\bS X h' h2':=by
 unfold fM at hx ⊢
 split at hx
 ·rename_i K hK
  obtain ⟨K2,t1,t2⟩:=oJ hr hX p hK
  rw [t1]
  simp only
  split at hx
  ·rename_i hck
   have:(aC.all (gG ops K2))=true:=by
    rw [List.all_eq_true] at hck ⊢
    exact fun d hd=>wF t2 (hck d hd)
   rw [if_pos this]
   split at hx
   ·rename_i ts hF hg
    cases hx
    obtain ⟨k,f1,f2⟩:=t2.get hg
    rw [f1]
    exact ⟨k,rfl,f2⟩
   ·cases hx
  ·cases hx
 ·obtain ⟨q,K,o,us,h1,v,a1,h3,e1,e2,e3,e4⟩:=lO hx
  obtain ⟨K2,t1,t2⟩:=oJ hr hX p e1
  obtain ⟨k1,t3,t4⟩:=t2.get e3
  obtain ⟨st,t5,t6⟩:=rF hr hX t4 e4
  cases st with
  |on a2 k=>exact t6.elim
  |panic v2 a2 k3=>
   rw [gJ t1 e2 t3 t5]
   exact yC hr hX p e1 e2 e3 e4 cuts hx
omit hr hX in
theorem bS.NG (p:bS X h h2) {i:Nat} (hi:X.f i=none) (b:eo):bS X (h.set i b) (h2.set i b):=by
 refine ⟨by simp only [H.ey,p.1],fun j=>?_,fun j hd=>?_,p.2.2.2⟩
 case refine_2=>
  by_cases e:j=i
  ·subst e;rw [H.an];simp
  ·rw [H.ah h b (Ne.symm e)];exact p.2.2.1 j hd
 have hj:=p.2.1 j
 by_cases e:j=i
 ·subst e
  rw [hi]
  simp only
  rw [H.an,H.an]
 ·rw [H.ah h b (Ne.symm e),H.ah h2 b (Ne.symm e),H.ey]
  exact hj
omit hr hX in
theorem Hl (p:bS X h h2) {r:Nat} (hi:X.f r=none) (b:eo):bS X (jc h r b) (jc h2 r b):=by
 have hg:=p.2.1 r
 rw [hi] at hg
 simp only at hg
 unfold jc
 rw [hg]
 split
 ·exact p.NG hi b
 ·exact p
omit hr hX in
theorem jO {s:Nat->Bool} {base:Nat} (hb:∀r,base<=r->X.f r=none):∀{F:List (Nat × eo)} {h h2:H},bS X h h2->bS X (br s base F h) (br s base F h2)
 | [],_,_,p=>p
 |(j,b) :: F,h,h2,p=>by
  simp only [br]
  cases s j with
  |true=>exact jO hb (Hl p (hb _ (by omega)) b)
  |false=>exact jO hb p
def sZ (X:XD) (s t:LS):Prop:=s.ts=t.ts/\s.F=t.F/\bS X s.h t.h
theorem EW {b:List Nat} {base i:Nat} (hb:∀r,base<=r->X.f r=none) {o:AO} {s t s':LS} (p:sZ X s t) (hx:gq P rec b base i o s=some s'):∃t',gq P rec b base i o t=some t'/\sZ X s' t':=by
 obtain ⟨p1,p2,p3⟩:=p
 unfold gq at hx ⊢
 rw [← p1,← p2]
 split at hx
 ·rename_i hw
  rw [if_pos hw]
  cases hf:fV o.op with
  |true=>
   rw [hf] at hx
   simp only [cond_true] at hx ⊢
   obtain ⟨x,h1,rfl⟩:=aa hx
   rw [h1]
   exact ⟨_,rfl,rfl,rfl,p3⟩
  |false=>
   rw [hf] at hx
   simp only [cond_false] at hx ⊢
   obtain ⟨x,h1,rfl⟩:=aa hx
   obtain ⟨k,e1,e2⟩:=qu hr hX (jO hb p3) (v:=x.1) (h':=x.2) h1
   rw [e1]
   refine ⟨_,rfl,rfl,rfl,?_⟩
   cases ew o.op with
   |true=>exact e2
   |false=>exact p3
 ·rename_i hw
  rw [if_neg hw]
  cases hx
  exact ⟨_,rfl,rfl,rfl,p3⟩
def oK (X:XD):List LS->List LS->Prop
 | [],[]=>True
 |s :: r,t :: r'=>sZ X s t/\oK X r r'
 |_,_=>False
omit hr hX in
theorem oK.get:∀{G G':List LS} {i:Nat} {s:LS},oK X G G'->G[i]?=some s->∃t,G'[i]?=some t/\sZ X s t
 | [],[],_,_,_,hi=>by simp at hi
 |s :: r,t :: r',0,u,p,hi=>by
  simp only [List.getElem?_cons_zero,Option.some.injEq] at hi
  subst hi
  exact ⟨t,rfl,p.1⟩
 |s :: r,t :: r',i+1,u,p,hi=>by
  simp only [List.getElem?_cons_succ] at hi ⊢
  exact oK.get p.2 hi
 | [],_ :: _,_,_,p,_=>p.elim
 |_ :: _,[],_,_,p,_=>p.elim
omit hr hX in
theorem yD:∀{G G':List LS} {s t:LS},sZ X s t->oK X G G'->sZ X (nP s G) (nP t G')
 | [],[],_,_,p,_=>p
 |_ :: r,_ :: r',_,_,_,q=>yD (G:=r) (G':=r') q.1 q.2
 | [],_ :: _,_,_,_,q=>q.elim
 |_ :: _,[],_,_,_,q=>q.elim
theorem wG {b:List Nat} {base:Nat} (hb:∀r,base<=r->X.f r=none):∀{l:List AO} {i:Nat} {s t:LS} {K:List LS},sZ X s t->dz P rec b base l i s=some K->∃K2,dz P rec b base l i t=some K2/\oK X K K2
 | [],i,s,t,K,p,hx=>by
   simp only [dz,Option.some.injEq] at hx ⊢
   subst hx
   exact ⟨_,rfl,p,trivial⟩
 |o :: l,i,s,t,K,p,hx=>by
  simp only [dz] at hx ⊢
  split at hx
  ·rename_i s' hs
   obtain ⟨t',e1,e2⟩:=EW hr hX hb p hs
   obtain ⟨K',hK',rfl⟩:=aa hx
   obtain ⟨K2,f1,f2⟩:=wG hb e2 hK'
   simp only [e1,f1,Option.map_some]
   exact ⟨_,rfl,p,f2⟩
  ·cases hx
omit hr hX in
theorem C9 {b:List Nat} {base:Nat} (hb:∀r,base<=r->X.f r=none) {ops:List AO} {F:List (Nat × eo)} {K K2:List LS} (q:oK X K K2) {c:Nat × Nat} (hc:oL b base ops F K c=true):oL b base ops F K2 c=true:=by
 unfold oL at hc ⊢
 split at hc
 ·rename_i o s s' e1 e2 e3
  obtain ⟨t,f1,f2,f3,f4⟩:=q.get e2
  obtain ⟨t',g1,g2,g3,g4⟩:=q.get e3
  simp only [e1,f1,g1,← f2]
  split at hc
  ·rename_i hw
   rw [if_pos hw]
   split at hc
   ·split at hc
    ·exact qw (jO hb f4) (jO hb g4) hc
    ·cases hc
   ·cases hc
  ·rename_i hw
   rw [if_neg hw]
 ·cases hc
theorem Da (p:bS X h h2) {b:List Nat} {ops:List AO} {aC:List (Nat × Nat)} {a:aD} {x:aM} {a':aD} {h':H} (hx:fN P rec b ops aC a h=some (x,a',h')):
  ∃h2',fN P rec b ops aC a h2=some (x,a',h2')/\bS X h' h2':=by
 have hb:∀r,h.next<=r->X.f r=none:=fun r hr=>p.no hr
 have p0:bS X {next:=h.next+ops.length,t:=h.t} {next:=h2.next+ops.length,t:=h2.t}:=by
  refine ⟨by show h2.next+ops.length=h.next+ops.length;rw [p.1],fun i=>?_,p.2.2.1,Nat.le_trans p.2.2.2 (Nat.le_add_right _ _)⟩
  have hi:=p.2.1 i
  split at hi
  ·rename_i bb e
   exact ⟨hi.1,hi.2.1,by show i < h.next+ops.length;omega⟩
  ·exact hi
 unfold fN at hx ⊢
 split at hx
 ·rename_i K hK
  obtain ⟨K2,t1,t2⟩:=wG hr hX hb (s:={ts:=a.tmps,h:={next:=h.next+ops.length,t:=h.t},F:=[]}) (t:={ts:=a.tmps,h:={next:=h2.next+ops.length,t:=h2.t},F:=[]}) ⟨rfl,rfl,p0⟩ hK
  rw [p.1] at t1 ⊢
  rw [t1]
  simp only
  split at hx
  ·rename_i s0 r
   cases K2 with
   |nil=>exact t2.elim
   |cons t0 r2=>
    obtain ⟨l1,l2,l3⟩:=yD t2.1 t2.2
    split at hx
    ·rename_i hck
     have:(aC.all (oL b h.next ops (nP t0 r2).F (t0 :: r2)))=true:=by
      rw [List.all_eq_true] at hck ⊢
      rw [← l2]
      exact fun d hd=>C9 hb t2 (hck d hd)
     simp only
     rw [if_pos this]
     cases hx
     rw [l1,l2]
     exact ⟨_,rfl,jO hb l3⟩
    ·cases hx
  ·cases hx
 ·cases hx
theorem uj:∀{c:AC} {h h2:H} {a:aD} {x:aM} {a':aD} {h':H},bS X h h2->cT P rec c a h=some (x,a',h')->∃h2',cT P rec c a h2=some (x,a',h2')/\bS X h' h2':=by
 intro c
 induction c with
 |skip=>intro h h2 a x a' h' p hx;cases hx;exact ⟨h2,rfl,p⟩
 |IJ ops=>intro h h2 a x a' h' p hx;exact yB hr hX p hx
 |yq ops aC cuts=>intro h h2 a x a' h' p hx;exact C8 hr hX p hx
 |yu b ops aC=>intro h h2 a x a' h' p hx;exact Da hr hX p hx
 |seq c d ihc ihd=>
  intro h h2 a x a' h' p hx
  simp only [cT] at hx ⊢
  split at hx
  ·rename_i a1 h1 he
   obtain ⟨k,e1,e2⟩:=ihc p he
   rw [e1];exact ihd e2 hx
  ·rename_i hne
   obtain ⟨k,e1,e2⟩:=ihc p hx
   rw [e1]
   cases x with
   |normal=>exact absurd hx (hne _ _)
   |_=>exact ⟨k,rfl,e2⟩
 |cond c x y ihx ihy=>
  intro h h2 a z a' h' p hx
  simp only [cT] at hx ⊢
  split at hx
  ·exact ihx p hx
  ·exact ihy p hx
  ·cases hx
 |block id c ih=>
  intro h h2 a x a' h' p hx
  simp only [cT] at hx ⊢
  split at hx
  ·rename_i id' a1 h1 he
   obtain ⟨k,e1,e2⟩:=ih p he
   rw [e1]
   simp only
   split at hx
   ·rename_i hid;rw [if_pos hid];cases hx;exact ⟨k,rfl,e2⟩
   ·rename_i hid;rw [if_neg hid];cases hx;exact ⟨k,rfl,e2⟩
  ·rename_i hne
   obtain ⟨k,e1,e2⟩:=ih p hx
   rw [e1]
   cases x with
   |exit id'=>exact absurd hx (hne _ _ _)
   |_=>exact ⟨k,rfl,e2⟩
 |loop c ih=>
  intro h h2 a x a' h' p hx
  simp only [cT] at hx ⊢
  split at hx
  ·rename_i a1 h1 he
   obtain ⟨k,e1,e2⟩:=ih p he
   rw [e1];exact hr.loop X _ _ _ _ _ _ _ hX e2 hx
  ·rename_i hne
   obtain ⟨k,e1,e2⟩:=ih p hx
   rw [e1]
   cases x with
   |normal=>exact absurd hx (hne _ _)
   |_=>exact ⟨k,rfl,e2⟩
 |rangeFunc f ps as bd iha ihb=>
  intro h h2 a x a' h' p hx
  simp only [cT] at hx ⊢
  split at hx
  ·cases hx
  ·rename_i hro
   rw [if_neg hro,p.1]
   split at hx
   ·rename_i v rc h3 hc
    obtain ⟨k,e1,e2⟩:=hr.call X _ _ _ _ _ _ _ _ hX ((p.alloc _).alloc _) hc
    rw [e1]
    simp only
    split at hx
    ·rename_i st pend ts ps' as' bd' hg
     rw [e2.get hg]
     simp only
     split at hx
     ·cases hx
     ·rename_i hb
      rw [if_neg hb]
      cases hx
      exact ⟨_,rfl,e2.set hg _⟩
    ·cases hx
   ·rename_i v rc h3 hc
    obtain ⟨k,e1,e2⟩:=hr.call X _ _ _ _ _ _ _ _ hX ((p.alloc _).alloc _) hc
    rw [e1]
    cases hx
    exact ⟨_,rfl,e2⟩
   ·cases hx
 |exit id=>intro h h2 a x a' h' p hx;cases hx;exact ⟨h2,rfl,p⟩
 |ret=>intro h h2 a x a' h' p hx;cases hx;exact ⟨h2,rfl,p⟩
 |stuck=>intro h h2 a x a' h' p hx;cases hx
theorem lz:∀{l:List fF} {m:Option Value} {h h2:H} {m':Option Value} {h':H},bS X h h2->bt rec l m h=some (m',h')->∃h2',bt rec l m h2=some (m',h2')/\bS X h' h2'
 | [],m,h,h2,m',h',p,hx=>by cases hx;exact ⟨h2,rfl,p⟩
 | .coll d :: l,m,h,h2,m',h',p,hx=>by
   simp only [bt] at hx ⊢
   split at hx
   ·rename_i hg
    rw [p.get hg]
    exact lz (p.set hg _) hx
   ·cases hx
 | .call f args :: l,m,h,h2,m',h',p,hx=>by
   simp only [bt] at hx ⊢
   split at hx
   ·rename_i hc
    obtain ⟨k,e1,e2⟩:=hr.call X _ _ _ _ _ _ _ _ hX p hc
    rw [e1]
    exact lz e2 hx
   ·cases hx
omit hr hX in
theorem vv (p:bS X h h2) {ts:List Value}:∀{l:List Db} {vs:List Value},ia h ts l=some vs->ia h2 ts l=some vs
 | [],_,hx=>hx
 | .tmp t :: r,vs,hx=>by
   simp only [ia] at hx ⊢
   split at hx
   ·cases hx
   ·rename_i hb
    rw [if_neg hb]
    obtain ⟨us,h1,rfl⟩:=aa hx
    rw [vv p h1];rfl
 | .cell t agg n :: r,vs,hx=>by
   simp only [ia] at hx ⊢
   split at hx
   ·split at hx
    ·rename_i cs hcs
     rw [p.cells hcs]
     simp only
     split at hx
     ·rename_i v l h1 h2'
      rw [h1,vv p h2'];exact hx
     ·cases hx
    ·cases hx
   ·cases hx
theorem B4 (p:bS X h h2) {fn:kM} {x:aM} {a:aD} {r:fR} {rc:RC} {h':H} (hx:eC rec fn x a h=some (r,rc,h')):∃h2',eC rec fn x a h2=some (r,rc,h2')/\bS X h' h2':=by
 unfold eC at hx ⊢
 split at hx
 ·cases hx
 ·rename_i m hm
  split at hx
  ·rename_i h1 hu
   obtain ⟨k,e1,e2⟩:=lz hr hX p hu
   rw [e1]
   simp only
   obtain ⟨l,hl,he⟩:=aa hx
   cases he
   rw [vv e2 hl]
   exact ⟨k,rfl,e2⟩
  ·rename_i v h1 hu
   obtain ⟨k,e1,e2⟩:=lz hr hX p hu
   rw [e1]
   cases hx
   exact ⟨k,rfl,e2⟩
  ·cases hx
theorem Dc (p:bS X h h2) {l:Nat} {args:List Value} {r:fR} {rc:RC} {h':H} (hx:gH P rec l args h=some (r,rc,h')):∃h2',gH P rec l args h2=some (r,rc,h2')/\bS X h' h2':=by
 unfold gH at hx ⊢
 split at hx
 ·rename_i pd ts ps as bd hg
  rw [p.get hg]
  simp only
  split at hx
  ·rename_i hlen
   rw [if_pos hlen]
   split at hx
   ·rename_i a1 h1 he
    obtain ⟨k,e1,e2⟩:=uj hr hX p he
    rw [e1]
    simp only
    split at hx
    ·rename_i pend1 ts1 ps1 as1 bd1 hg1
     rw [e2.get hg1]
     simp only
     split at hx
     ·rename_i x a2 h3 he2
      obtain ⟨k2,f1,f2⟩:=uj hr hX (e2.set hg1 _) he2
      rw [f1]
      simp only
      split at hx
      ·rename_i st pd2 ts2 ps2 as2 bd2 hd hg2
       rw [hd,f2.get hg2]
       simp only
       cases x with
       |normal=>cases hx;exact ⟨_,rfl,f2.set hg2 _⟩
       |ret=>cases hx;exact ⟨_,rfl,f2.set hg2 _⟩
       |exit id=>cases hx;exact ⟨_,rfl,f2.set hg2 _⟩
       |panic v=>cases hx;exact ⟨_,rfl,f2⟩
      ·cases hx
     ·cases hx
    ·cases hx
   ·cases hx
  ·cases hx
 ·cases hx
theorem EX (p:bS X h h2) {T:Nat->Option kM} {f:Value} {args:List Value} {rc0:RC} {r:fR} {rc:RC} {h':H} (hx:c5 P rec T f args rc0 h=some (r,rc,h')):∃h2',c5 P rec T f args rc0 h2=some (r,rc,h2')/\bS X h' h2':=by
 unfold c5 at hx ⊢
 split at hx
 ·split at hx
  ·split at hx
   ·rename_i x a1 h1 he
    obtain ⟨k,e1,e2⟩:=uj hr hX p he
    simp only [e1]
    exact B4 hr hX e2 hx
   ·cases hx
  ·cases hx
 ·split at hx
  ·split at hx
   ·rename_i hb
    rw [if_pos hb]
    exact Dc hr hX p hx
   ·cases hx
  ·cases hx
 ·cases hx
end
end Go.Ev
