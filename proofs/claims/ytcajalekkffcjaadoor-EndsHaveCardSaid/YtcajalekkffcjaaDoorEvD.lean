/- The evaluator without a bound, and what is to be shown of typed code. -/
import Derived.Test.YtcajalekkffcjaaDoorEv20
import Derived.Laws.StructEq
namespace Go.Ev
open Go Go.RowKit
variable {P:Program}
structure gL (r s:Rec):Prop where
 call:∀f args rc h x,r.call f args rc h=some x->s.call f args rc h=some x
 loop:∀c a h x,r.loop c a h=some x->s.loop c a h=some x
theorem gL.refl (r:Rec):gL r r:=⟨fun _ _ _ _ _ h=>h,fun _ _ _ _ h=>h⟩
theorem gL.trans {r s t:Rec} (h:gL r s) (k:gL s t):gL r t:=⟨fun f a rc h' x e=>k.call _ _ _ _ _ (h.call f a rc h' x e),fun c a h' x e=>k.loop _ _ _ _ (h.loop c a h' x e)⟩
section
variable {r s:Rec} (hl:gL r s)
include hl
theorem oZ {o:AO} {a:aD} {h:H} {x:Step} (he:cG P r o a h=some x):cG P s o a h=some x:=by
 unfold cG at he ⊢
 split at he
 ·rename_i hw
  rw [if_pos hw]
  cases hop:o.op<;>rw [hop] at he<;>simp only at he ⊢<;>try exact he
  all_goals
   split at he
   ·rename_i v rc h1 hc
    rw [hl.call _ _ _ _ _ hc];exact he
   ·rename_i v rc h1 hc
    rw [hl.call _ _ _ _ _ hc];exact he
   ·cases he
 ·rename_i hw
  rw [if_neg hw];exact he
theorem zf:∀{l:List AO} {a:aD} {h:H} {x:aM × aD × H},eW P r l a h=some x->eW P s l a h=some x
 | [],_,_,_,he=>he
 |o :: l,a,h,x,he=>by
  simp only [eW] at he ⊢
  split at he
  ·rename_i a1 h1 h1e
   rw [oZ hl h1e];exact zf he
  ·rename_i v a1 h1 h1e
   rw [oZ hl h1e];exact he
  ·cases he
theorem Cn {o:AO} {ts:List Value} {h:H} {x:Value × H} (he:iE P r o ts h=some x):iE P s o ts h=some x:=by
 unfold iE at he ⊢
 split at he
 ·rename_i hw
  rw [if_pos hw]
  cases hop:o.op<;>rw [hop] at he<;>simp only at he ⊢<;>try exact he
  all_goals
   split at he
   ·rename_i v rc h1 hc
    rw [hl.call _ _ _ _ _ hc];exact he
   ·cases he
 ·rename_i hw
  rw [if_neg hw];exact he
theorem kH:∀{l:List AO} {ts:List Value} {h:H} {G:List (List Value × H)},trace P r l ts h=some G->trace P s l ts h=some G
 | [],_,_,_,he=>he
 |o :: l,ts,h,G,he=>by
  simp only [trace] at he ⊢
  split at he
  ·rename_i v h1 hv
   rw [Cn hl hv]
   obtain ⟨G',hG',rfl⟩:=aa he
   simp only [kH hG',Option.map_some]
  ·cases he
end
theorem zg {r s:Rec} (hl:gL r s) {ops:List AO} {a:aD} {h:H} {p:Nat} {G:List (List Value × H)} {o:AO} {ts:List Value} {h1:H} {v:Value} {a1:aD} {h2:H}
  (hG:trace P r (ops.take p) a.tmps h=some G) (ho:ops[p]?=some o) (hp:G[p]?=some (ts,h1)) (he:cG P r o {a with tmps:=ts} h1=some (.panic v a1 h2)):
  ∀cs:oD,dV P s ops a h cs=dV P r ops a h cs
 | []=>rfl
 |c :: cs=>by
  have ih:=zg hl hG ho hp he cs
  have hplt:p < ops.length:=(List.getElem?_eq_some_iff.1 ho).1
  have hGlen:G.length=p+1:=by
   obtain ⟨vs,_,h2,_⟩:=cZ _ _ _ _ hG
   rw [h2,List.length_take];omega
  rcases Nat.lt_trichotomy c.1 p with hlt |heq |hgt
  ·
   have h3:=gV c.1 hG
   rw [List.take_take,Nat.min_eq_left (Nat.le_of_lt hlt)] at h3
   have h4:=kH hl h3
   obtain ⟨vs,g1,g2,g3,g4⟩:=cZ _ _ _ _ hG
   have hclt:c.1 < ops.length:=by omega
   obtain ⟨oc,hoc⟩:∃oc,ops[c.1]?=some oc:=⟨_,List.getElem?_eq_getElem hclt⟩
   have hoc':(ops.take p)[c.1]?=some oc:=by rw [List.getElem?_take_of_lt hlt];exact hoc
   have hvlt:c.1 < vs.length:=by rw [g1,List.length_take];omega
   obtain ⟨tsi,hi,h',f1,f2,f3⟩:=g4 c.1 oc _ hoc' (List.getElem?_eq_getElem hvlt)
   have f1':(G.take (c.1+1))[c.1]?=some (tsi,hi):=by rw [List.getElem?_take_of_lt (by omega)];exact f1
   have hne:∀q:Rec,gL r q->∀v a' h',cG P q oc {a with tmps:=tsi} hi≠some (.panic v a' h'):=fun q hq v a' h' e=>by
    have:=fX e
    simp only at this
    rw [Cn hq f2] at this
    cases this
   have e1:=hne r (.refl r)
   have e2:=hne s hl
   simp only [dV,h3,h4,hoc,f1',ih]
  ·subst heq
   simp only [dV,hG,kH hl hG,ho,hp,he,oZ hl he]
  ·
   have hnone:∀q:Rec,gL r q->trace P q (ops.take c.1) a.tmps h=none:=fun q hq=>by
    cases ht:trace P q (ops.take c.1) a.tmps h with
    |none=>rfl
    |some G2=>
     have h3:=gV p ht
     rw [List.take_take,Nat.min_eq_left (Nat.le_of_lt hgt)] at h3
     rw [kH hq hG] at h3
     obtain ⟨vs,g1,g2,g3,g4⟩:=cZ _ _ _ _ ht
     have ho':(ops.take c.1)[p]?=some o:=by rw [List.getElem?_take_of_lt hgt];exact ho
     have hvlt:p < vs.length:=by rw [g1,List.length_take];omega
     obtain ⟨tsi,hi,h',f1,f2,f3⟩:=g4 p o _ ho' (List.getElem?_eq_getElem hvlt)
     have:G[p]?=some (tsi,hi):=by
      rw [Option.some.inj h3,List.getElem?_take_of_lt (by omega)];exact f1
     rw [hp] at this
     cases this
     have:=fX (oZ hq he)
     simp only at this
     rw [f2] at this
     cases this
   simp only [dV,hnone r (.refl r),hnone s hl,ih]
theorem HJ {r s:Rec} (hl:gL r s) {ops:List AO} {aC:List (Nat × Nat)} {cuts:oD} {a:aD} {h:H} {x:aM × aD × H} (he:fM P r ops aC cuts a h=some x):
  fM P s ops aC cuts a h=some x:=by
 unfold fM at he ⊢
 split at he
 ·rename_i G hG
  rw [kH hl hG];exact he
 ·obtain ⟨p,G,o,ts,h1,v,a1,h2,e1,e2,e3,e4⟩:=lO he
  rw [gJ (kH hl e1) e2 e3 (oZ hl e4)]
  simp only
  rw [zg hl e1 e2 e3 e4];exact he
theorem DK {r s:Rec} (hl:gL r s) {b:List Nat} {base i:Nat} {o:AO} {t x:LS} (he:gq P r b base i o t=some x):gq P s b base i o t=some x:=by
 unfold gq at he ⊢
 split at he
 ·rename_i hw
  rw [if_pos hw]
  cases hf:fV o.op with
  |true=>rw [hf] at he;exact he
  |false=>
   rw [hf] at he
   simp only [cond_false] at he ⊢
   obtain ⟨y,h1,rfl⟩:=aa he
   rw [Cn hl h1];rfl
 ·rename_i hw
  rw [if_neg hw];exact he
theorem vH {r s:Rec} (hl:gL r s) {b:List Nat} {base:Nat}:∀{l:List AO} {i:Nat} {t:LS} {K:List LS},dz P r b base l i t=some K->dz P s b base l i t=some K
 | [],_,_,_,he=>he
 |o :: l,i,t,K,he=>by
  simp only [dz] at he ⊢
  split at he
  ·rename_i x hx
   rw [DK hl hx]
   obtain ⟨K',hK',rfl⟩:=aa he
   simp only [vH hl hK',Option.map_some]
  ·cases he
theorem HK {r s:Rec} (hl:gL r s) {b:List Nat} {ops:List AO} {aC:List (Nat × Nat)} {a:aD} {h:H} {x:aM × aD × H} (he:fN P r b ops aC a h=some x):fN P s b ops aC a h=some x:=by
 unfold fN at he ⊢
 split at he
 ·rename_i K hK
  rw [vH hl hK];exact he
 ·cases he
theorem nu {r s:Rec} (hl:gL r s):∀{c:AC} {a:aD} {h:H} {x:aM × aD × H},cT P r c a h=some x->cT P s c a h=some x:=by
 intro c
 induction c with
 |skip=>intro a h x he;exact he
 |IJ ops=>intro a h x he;exact zf hl he
 |yq ops aC cuts=>intro a h x he;exact HJ hl he
 |yu b ops aC=>intro a h x he;exact HK hl he
 |seq c d ihc ihd=>
  intro a h x he
  simp only [cT] at he ⊢
  split at he
  ·rename_i a1 h1 h1e
   rw [ihc h1e];exact ihd he
  ·rename_i hne
   rw [ihc he]
   split
   ·rename_i a1 h1 e
    exact absurd (he.trans e) (hne _ _)
   ·rfl
 |cond c x y ihx ihy=>
  intro a h z he
  simp only [cT] at he ⊢
  split at he
  ·exact ihx he
  ·exact ihy he
  ·cases he
 |block id c ih=>
  intro a h x he
  simp only [cT] at he ⊢
  split at he
  ·rename_i id' a1 h1 h1e
   rw [ih h1e];exact he
  ·rename_i hne
   rw [ih he]
   split
   ·rename_i e
    exact absurd (he.trans e) (hne _ _ _)
   ·rfl
 |loop c ih=>
  intro a h x he
  simp only [cT] at he ⊢
  split at he
  ·rename_i a1 h1 h1e
   rw [ih h1e];exact hl.loop _ _ _ _ he
  ·rename_i hne
   rw [ih he]
   split
   ·rename_i e
    exact absurd (he.trans e) (hne _ _)
   ·rfl
 |rangeFunc f ps as bd iha ihb=>
  intro a h x he
  simp only [cT] at he ⊢
  split at he
  ·cases he
  ·rename_i hr
   rw [if_neg hr]
   split at he
   ·rename_i hc;rw [hl.call _ _ _ _ _ hc];exact he
   ·rename_i hc;rw [hl.call _ _ _ _ _ hc];exact he
   ·cases he
 |exit id=>intro a h x he;exact he
 |ret=>intro a h x he;exact he
 |stuck=>intro a h x he;cases he
theorem mj {r s:Rec} (hl:gL r s):∀{l:List fF} {m:Option Value} {h:H} {x:Option Value × H},bt r l m h=some x->bt s l m h=some x
 | [],_,_,_,he=>he
 | .coll d :: l,m,h,x,he=>by
   simp only [bt] at he ⊢
   split at he
   ·exact mj hl he
   ·cases he
 | .call f args :: l,m,h,x,he=>by
   simp only [bt] at he ⊢
   split at he
   ·rename_i hc;rw [hl.call _ _ _ _ _ hc];exact mj hl he
   ·cases he
theorem zh {r s:Rec} (hl:gL r s) {fn:kM} {x:aM} {a:aD} {h:H} {y:fR × RC × H} (he:eC r fn x a h=some y):eC s fn x a h=some y:=by
 unfold eC at he ⊢
 split at he
 ·cases he
 ·rename_i m hm
  split at he
  ·rename_i hu;rw [mj hl hu];exact he
  ·rename_i hu;rw [mj hl hu];exact he
  ·cases he
theorem HL {r s:Rec} (hl:gL r s) {l:Nat} {args:List Value} {h:H} {y:fR × RC × H} (he:gH P r l args h=some y):gH P s l args h=some y:=by
 unfold gH at he ⊢
 split at he
 ·rename_i ts ps as bd hg
  split at he
  ·rename_i hlen
   rw [if_pos hlen]
   split at he
   ·rename_i a1 h1 h1e
    rw [nu hl h1e]
    simp only
    split at he
    ·split at he
     ·rename_i x a2 h2 h2e
      rw [nu hl h2e];exact he
     ·cases he
    ·cases he
   ·cases he
  ·cases he
 ·cases he
theorem JD {r s:Rec} (hl:gL r s) {T:Nat->Option kM} {f:Value} {args:List Value} {rc:RC} {h:H} {y:fR × RC × H} (he:c5 P r T f args rc h=some y):c5 P s T f args rc h=some y:=by
 unfold c5 at he ⊢
 split at he
 ·split at he
  ·split at he
   ·rename_i h1e
    rw [nu hl h1e];exact zh hl he
   ·cases he
  ·cases he
 ·split at he
  ·split at he
   ·rename_i hb
    rw [if_pos hb];exact HL hl he
   ·cases he
  ·cases he
 ·cases he
theorem DM {T:Nat->Option kM} {tabs:fY} {cs:jl}:∀n,gL (rI P T tabs cs n) (rI P T tabs cs (n+1))
 | 0=>⟨fun _ _ _ _ _ h=>by simp [rI] at h,fun _ _ _ _ h=>by simp [rI] at h⟩
 |n+1=>by
  have ih:=DM (T:=T) (tabs:=tabs) (cs:=cs) n
  refine ⟨fun f args rc h x he=>?_,fun c a h x he=>nu ih he⟩
  have he':iF (eB T tabs cs f args rc h) h (c5 P (rI P T tabs cs n) T f args rc h)=some x:=he
  show iF (eB T tabs cs f args rc h) h (c5 P (rI P T tabs cs (n+1)) T f args rc h)=some x
  cases hk:eB T tabs cs f args rc h with
  |none=>rw [hk] at he';cases he'
  |some y=>
   rw [hk] at he'
   cases y with
   |some v=>exact he'
   |none=>exact JD ih he'
theorem Fl {T:Nat->Option kM} {tabs:fY} {cs:jl} {n m:Nat} (h:n<=m):gL (rI P T tabs cs n) (rI P T tabs cs m):=by
 induction h with
 |refl=>exact .refl _
 |step _ ih=>exact ih.trans (DM _)
open Classical in
noncomputable def mm (R:Nat->Rec):Rec where
 call f args rc h:=if e:∃x n,(R n).call f args rc h=some x then some (Classical.choose e) else none
 loop c a h:=if e:∃x n,(R n).loop c a h=some x then some (Classical.choose e) else none
section
variable {R:Nat->Rec} (hR:∀n m,n<=m->gL (R n) (R m))
open Classical in
theorem jT {f:Value} {args:List Value} {rc:RC} {h:H} {x:fR × RC × H} (he:(mm R).call f args rc h=some x):∃n,(R n).call f args rc h=some x:=by
 simp only [mm] at he
 split at he
 ·rename_i e
  simp only [Option.some.injEq] at he
  obtain ⟨n,hn⟩:=Classical.choose_spec e
  exact ⟨n,by rw [hn,he]⟩
 ·cases he
open Classical in
theorem HM {c:AC} {a:aD} {h:H} {x:aM × aD × H} (he:(mm R).loop c a h=some x):∃n,(R n).loop c a h=some x:=by
 simp only [mm] at he
 split at he
 ·rename_i e
  simp only [Option.some.injEq] at he
  obtain ⟨n,hn⟩:=Classical.choose_spec e
  exact ⟨n,by rw [hn,he]⟩
 ·cases he
include hR
open Classical in
theorem GB (n:Nat):gL (R n) (mm R):=by
 have key:∀{α:Type} (F:Nat->Option α),(∀n m x,n<=m->F n=some x->F m=some x)->∀n x (e:∃x n,F n=some x),F n=some x->Classical.choose e=x:=by
  intro α F hF n x e hn
  obtain ⟨m,hm⟩:=Classical.choose_spec e
  have h1:=hF n (max n m) x (Nat.le_max_left ..) hn
  have h2:=hF m (max n m) _ (Nat.le_max_right ..) hm
  rw [h1] at h2
  exact (Option.some.inj h2).symm
 refine ⟨fun f args rc h x he=>?_,fun c a h x he=>?_⟩
 ·have e:∃x n,(R n).call f args rc h=some x:=⟨x,n,he⟩
  simp only [mm]
  rw [dif_pos e,key (fun n=>(R n).call f args rc h) (fun n m x hle hx=>(hR n m hle).call _ _ _ _ _ hx) n x e he]
 ·have e:∃x n,(R n).loop c a h=some x:=⟨x,n,he⟩
  simp only [mm]
  rw [dif_pos e,key (fun n=>(R n).loop c a h) (fun n m x hle hx=>(hR n m hle).loop _ _ _ _ hx) n x e he]
omit hR in
theorem zi {o:AO} {a:aD} {h:H} {x:Step} (he:cG P (mm R) o a h=some x):∃n,cG P (R n) o a h=some x:=by
 unfold cG at he ⊢
 split at he
 ·rename_i hw
  simp only [if_pos hw]
  cases hop:o.op<;>rw [hop] at he<;>simp only at he ⊢<;>try exact ⟨0,he⟩
  all_goals
   split at he
   ·rename_i v rc h1 hc
    obtain ⟨n,hn⟩:=jT hc
    exact ⟨n,by rw [hn];exact he⟩
   ·rename_i v rc h1 hc
    obtain ⟨n,hn⟩:=jT hc
    exact ⟨n,by rw [hn];exact he⟩
   ·cases he
 ·rename_i hw
  simp only [if_neg hw];exact ⟨0,he⟩
theorem Br:∀{l:List AO} {a:aD} {h:H} {x:aM × aD × H},eW P (mm R) l a h=some x->∃n,eW P (R n) l a h=some x
 | [],_,_,_,he=>⟨0,he⟩
 |o :: l,a,h,x,he=>by
  simp only [eW] at he ⊢
  split at he
  ·rename_i a1 h1 h1e
   obtain ⟨n,hn⟩:=zi h1e
   obtain ⟨m,hm⟩:=Br he
   exact ⟨max n m,by rw [oZ (hR n _ (Nat.le_max_left ..)) hn];exact zf (hR m _ (Nat.le_max_right ..)) hm⟩
  ·rename_i v a1 h1 h1e
   obtain ⟨n,hn⟩:=zi h1e
   exact ⟨n,by rw [hn];exact he⟩
  ·cases he
omit hR in
theorem GC {o:AO} {ts:List Value} {h:H} {x:Value × H} (he:iE P (mm R) o ts h=some x):∃n,iE P (R n) o ts h=some x:=by
 unfold iE at he ⊢
 split at he
 ·rename_i hw
  simp only [if_pos hw]
  cases hop:o.op<;>rw [hop] at he<;>simp only at he ⊢<;>try exact ⟨0,he⟩
  all_goals
   split at he
   ·rename_i v rc h1 hc
    obtain ⟨n,hn⟩:=jT hc
    exact ⟨n,by rw [hn];exact he⟩
   ·cases he
 ·rename_i hw
  simp only [if_neg hw];exact ⟨0,he⟩
theorem vI:∀{l:List AO} {ts:List Value} {h:H} {G:List (List Value × H)},trace P (mm R) l ts h=some G->∃n,trace P (R n) l ts h=some G
 | [],_,_,_,he=>⟨0,he⟩
 |o :: l,ts,h,G,he=>by
  simp only [trace] at he ⊢
  split at he
  ·rename_i v h1 hv
   obtain ⟨n,hn⟩:=GC hv
   obtain ⟨G',hG',rfl⟩:=aa he
   obtain ⟨m,hm⟩:=vI hG'
   exact ⟨max n m,by rw [Cn (hR n _ (Nat.le_max_left ..)) hn];simp only [kH (hR m _ (Nat.le_max_right ..)) hm,Option.map_some]⟩
  ·cases he
theorem Fm {ops:List AO} {aC:List (Nat × Nat)} {cuts:oD} {a:aD} {h:H} {x:aM × aD × H} (he:fM P (mm R) ops aC cuts a h=some x):
  ∃n,fM P (R n) ops aC cuts a h=some x:=by
 cases hT:trace P (mm R) ops a.tmps h with
 |some G=>
  obtain ⟨n,hn⟩:=vI hR hT
  refine ⟨n,?_⟩
  unfold fM at he ⊢
  rw [hT] at he
  rw [hn];exact he
 |none=>
  have he2:dV P (mm R) ops a h cuts=some x:=by
   unfold fM at he
   rw [hT] at he;exact he
  obtain ⟨p,G,o,ts,h1,v,a1,h2,e1,e2,e3,e4⟩:=lO he2
  obtain ⟨n,hn⟩:=vI hR e1
  obtain ⟨m,hm⟩:=zi e4
  have k1:=kH (hR n (max n m) (Nat.le_max_left ..)) hn
  have k2:=oZ (hR m (max n m) (Nat.le_max_right ..)) hm
  refine ⟨max n m,?_⟩
  unfold fM
  rw [gJ k1 e2 e3 k2]
  simp only
  rw [← zg (GB hR (max n m)) k1 e2 e3 k2]
  exact he2
omit hR in
theorem HN {b:List Nat} {base i:Nat} {o:AO} {t x:LS} (he:gq P (mm R) b base i o t=some x):∃n,gq P (R n) b base i o t=some x:=by
 unfold gq at he ⊢
 split at he
 ·rename_i hw
  simp only [if_pos hw]
  cases hf:fV o.op with
  |true=>rw [hf] at he;exact ⟨0,he⟩
  |false=>
   rw [hf] at he
   simp only [cond_false] at he ⊢
   obtain ⟨y,h1,rfl⟩:=aa he
   obtain ⟨n,hn⟩:=GC h1
   exact ⟨n,by rw [hn];rfl⟩
 ·rename_i hw
  simp only [if_neg hw];exact ⟨0,he⟩
theorem zj {b:List Nat} {base:Nat}:∀{l:List AO} {i:Nat} {t:LS} {K:List LS},dz P (mm R) b base l i t=some K->∃n,dz P (R n) b base l i t=some K
 | [],_,_,_,he=>⟨0,he⟩
 |o :: l,i,t,K,he=>by
  simp only [dz] at he
  split at he
  ·rename_i x hx
   obtain ⟨n,hn⟩:=HN hx
   obtain ⟨K',hK',rfl⟩:=aa he
   obtain ⟨m,hm⟩:=zj hK'
   refine ⟨max n m,?_⟩
   simp only [dz]
   rw [DK (hR n _ (Nat.le_max_left ..)) hn]
   simp only [vH (hR m _ (Nat.le_max_right ..)) hm,Option.map_some]
  ·cases he
theorem Fo {b:List Nat} {ops:List AO} {aC:List (Nat × Nat)} {a:aD} {h:H} {x:aM × aD × H} (he:fN P (mm R) b ops aC a h=some x):∃n,fN P (R n) b ops aC a h=some x:=by
 unfold fN at he
 split at he
 ·rename_i K hK
  obtain ⟨n,hn⟩:=zj hR hK
  refine ⟨n,?_⟩
  unfold fN
  rw [hn];exact he
 ·cases he
theorem ye:∀{c:AC} {a:aD} {h:H} {x:aM × aD × H},cT P (mm R) c a h=some x->∃n,cT P (R n) c a h=some x:=by
 intro c
 induction c with
 |skip=>intro a h x he;exact ⟨0,he⟩
 |IJ ops=>intro a h x he;exact Br hR he
 |yq ops aC cuts=>intro a h x he;exact Fm hR he
 |yu b ops aC=>intro a h x he;exact Fo hR he
 |seq c d ihc ihd=>
  intro a h x he
  simp only [cT] at he
  split at he
  ·rename_i a1 h1 h1e
   obtain ⟨n,hn⟩:=ihc h1e
   obtain ⟨m,hm⟩:=ihd he
   refine ⟨max n m,?_⟩
   simp only [cT]
   rw [nu (hR n _ (Nat.le_max_left ..)) hn]
   exact nu (hR m _ (Nat.le_max_right ..)) hm
  ·rename_i hne
   obtain ⟨n,hn⟩:=ihc he
   refine ⟨n,?_⟩
   simp only [cT]
   rw [hn]
   split
   ·rename_i a1 h1 e
    exact absurd (he.trans e) (hne _ _)
   ·rfl
 |cond c x y ihx ihy=>
  intro a h z he
  simp only [cT] at he ⊢
  split at he
  ·exact ihx he
  ·exact ihy he
  ·cases he
 |block id c ih=>
  intro a h x he
  simp only [cT] at he
  split at he
  ·rename_i id' a1 h1 h1e
   obtain ⟨n,hn⟩:=ih h1e
   exact ⟨n,by simp only [cT];rw [hn];exact he⟩
  ·rename_i hne
   obtain ⟨n,hn⟩:=ih he
   refine ⟨n,?_⟩
   simp only [cT]
   rw [hn]
   split
   ·rename_i e
    exact absurd (he.trans e) (hne _ _ _)
   ·rfl
 |loop c ih=>
  intro a h x he
  simp only [cT] at he
  split at he
  ·rename_i a1 h1 h1e
   obtain ⟨n,hn⟩:=ih h1e
   obtain ⟨m,hm⟩:=HM he
   refine ⟨max n m,?_⟩
   simp only [cT]
   rw [nu (hR n _ (Nat.le_max_left ..)) hn]
   exact (hR m _ (Nat.le_max_right ..)).loop _ _ _ _ hm
  ·rename_i hne
   obtain ⟨n,hn⟩:=ih he
   refine ⟨n,?_⟩
   simp only [cT]
   rw [hn]
   split
   ·rename_i e
    exact absurd (he.trans e) (hne _ _)
   ·rfl
 |rangeFunc f ps as bd iha ihb=>
  intro a h x he
  simp only [cT] at he ⊢
  split at he
  ·cases he
  ·rename_i hr
   simp only [if_neg hr]
   split at he
   ·rename_i hc
    obtain ⟨n,hn⟩:=jT hc
    exact ⟨n,by rw [hn];exact he⟩
   ·rename_i hc
    obtain ⟨n,hn⟩:=jT hc
    exact ⟨n,by rw [hn];exact he⟩
   ·cases he
 |exit id=>intro a h x he;exact ⟨0,he⟩
 |ret=>intro a h x he;exact ⟨0,he⟩
 |stuck=>intro a h x he;cases he
theorem mZ:∀{l:List fF} {m:Option Value} {h:H} {x:Option Value × H},bt (mm R) l m h=some x->∃n,bt (R n) l m h=some x
 | [],_,_,_,he=>⟨0,he⟩
 | .coll d :: l,m,h,x,he=>by
   simp only [bt] at he ⊢
   split at he
   ·exact mZ he
   ·cases he
 | .call f args :: l,m,h,x,he=>by
   simp only [bt] at he ⊢
   split at he
   ·rename_i hc
    obtain ⟨n,hn⟩:=jT hc
    obtain ⟨k,hk⟩:=mZ he
    exact ⟨max n k,by rw [(hR n _ (Nat.le_max_left ..)).call _ _ _ _ _ hn];exact mj (hR k _ (Nat.le_max_right ..)) hk⟩
   ·cases he
theorem DN {fn:kM} {x:aM} {a:aD} {h:H} {y:fR × RC × H} (he:eC (mm R) fn x a h=some y):∃n,eC (R n) fn x a h=some y:=by
 unfold eC at he ⊢
 split at he
 ·cases he
 ·rename_i m hm
  split at he
  ·rename_i hu
   obtain ⟨n,hn⟩:=mZ hR hu
   exact ⟨n,by rw [hn];exact he⟩
  ·rename_i hu
   obtain ⟨n,hn⟩:=mZ hR hu
   exact ⟨n,by rw [hn];exact he⟩
  ·cases he
theorem Fp {l:Nat} {args:List Value} {h:H} {y:fR × RC × H} (he:gH P (mm R) l args h=some y):∃n,gH P (R n) l args h=some y:=by
 unfold gH at he ⊢
 split at he
 ·rename_i ts ps as bd hg
  split at he
  ·rename_i hlen
   simp only [if_pos hlen]
   split at he
   ·rename_i a1 h1 h1e
    obtain ⟨n,hn⟩:=ye hR h1e
    split at he
    ·rename_i hg1
     split at he
     ·rename_i x a2 h2 h2e
      obtain ⟨m,hm⟩:=ye hR h2e
      refine ⟨max n m,?_⟩
      rw [nu (hR n _ (Nat.le_max_left ..)) hn]
      simp only [hg1]
      rw [nu (hR m _ (Nat.le_max_right ..)) hm]
      exact he
     ·cases he
    ·cases he
   ·cases he
  ·cases he
 ·cases he
theorem HO {T:Nat->Option kM} {f:Value} {args:List Value} {rc:RC} {h:H} {y:fR × RC × H} (he:c5 P (mm R) T f args rc h=some y):∃n,c5 P (R n) T f args rc h=some y:=by
 unfold c5 at he ⊢
 split at he
 ·split at he
  ·rename_i hfn
   split at he
   ·rename_i h1e
    obtain ⟨n,hn⟩:=ye hR h1e
    obtain ⟨m,hm⟩:=DN hR he
    exact ⟨max n m,by rw [nu (hR n _ (Nat.le_max_left ..)) hn];exact zh (hR m _ (Nat.le_max_right ..)) hm⟩
   ·cases he
  ·cases he
 ·split at he
  ·split at he
   ·rename_i hb
    obtain ⟨n,hn⟩:=Fp hR he
    exact ⟨n,by rw [if_pos hb];exact hn⟩
   ·cases he
  ·cases he
 ·cases he
end
noncomputable def JE (P:Program) (T:Nat->Option kM) (tabs:fY) (cs:jl):Rec:=mm (rI P T tabs cs)
section
variable {T:Nat->Option kM} {tabs:fY} {cs:jl}
theorem Fq (n:Nat):gL (rI P T tabs cs n) (JE P T tabs cs):=GB (fun _ _ h=>Fl h) n
theorem DO {f:Value} {args:List Value} {rc:RC} {h:H} {x:fR × RC × H} (hk:eB T tabs cs f args rc h=some none) (he:c5 P (JE P T tabs cs) T f args rc h=some x):
  (JE P T tabs cs).call f args rc h=some x:=by
 obtain ⟨n,hn⟩:=HO (R:=rI P T tabs cs) (fun _ _ h=>Fl h) he
 refine (Fq (n+1)).call _ _ _ _ _ ?_
 show iF (eB T tabs cs f args rc h) h (c5 P (rI P T tabs cs n) T f args rc h)=some x
 rw [hk];exact hn
theorem HP {f:Value} {args:List Value} {h:H} {v:Value} (hk:eB T tabs cs f args .dF h=some (some v)):(JE P T tabs cs).call f args .dF h=some (.ret v,.dF,h):=by
 refine (Fq 1).call _ _ _ _ _ ?_
 show iF (eB T tabs cs f args .dF h) h (c5 P (rI P T tabs cs 0) T f args .dF h)=_
 rw [hk];rfl
theorem JF {c:AC} {a:aD} {h:H} {x:aM × aD × H} (he:cT P (JE P T tabs cs) (.loop c) a h=some x):(JE P T tabs cs).loop c a h=some x:=by
 obtain ⟨n,hn⟩:=ye (R:=rI P T tabs cs) (fun _ _ h=>Fl h) he
 exact (Fq (n+1)).loop _ _ _ _ hn
end
end Go.Ev
namespace Go.Ev
open Go
structure SV where
 p:Option Addr
 n:Nat
 c:Nat
structure PV where
 b:Nat
 o:Nat
inductive At where
 |int (k:IntKind)
 |bool
 |str
 |sl
 |ptr
 |Lf
 |val
def At.T:At->Type
 | .int _=>Int
 | .bool=>Bool
 | .str=>ByteArray
 | .sl=>SV
 | .ptr=>PV
 | .Lf=>Option Addr
 | .val=>Value
def At.enc:(a:At)->a.T->Value
 | .int k,x=>.int k x
 | .bool,x=>.bool x
 | .str,x=>.string x
 | .sl,x=>.slice x.p x.n x.c
 | .ptr,x=>.pointer (some ⟨x.b,x.o,none⟩)
 | .Lf,x=>.pointer x
 | .val,x=>x
inductive Sh where
 |at (a:At)
 |agg (l:List At)
inductive AF where
 |one (s:Sh)
 |gD (l:List Sh)
def need (b:Bool) (X:Prop):Prop:=match b with |true=>X |false=>False
def nv (b:Bool) (X Y:Prop):Prop:=match b with |true=>X |false=>Y
def cV (p X Y:Prop):Prop:=(p->X)/\(¬p->Y)
def DP (h:H) (K:H->Prop):Prop:=∀h1,h1=h->K h1
def ny (x:Int) (K:Int->Prop):Prop:=∀x1,x1=x->K x1
def Oq:List At->(List Value->Prop)->Prop
 | [],K=>K []
 |a :: r,K=>∃x:a.T,Oq r fun l=>K (a.enc x :: l)
def Lg:Sh->(Value->Prop)->Prop
 | .at a,K=>∃x:a.T,K (a.enc x)
 | .agg l,K=>Oq l fun cs=>K (.agg ⟨cs⟩)
def JG:List Sh->(List Value->Prop)->Prop
 | [],K=>K []
 |s :: r,K=>Lg s fun v=>JG r fun l=>K (v :: l)
def Lh:AF->(Value->Prop)->Prop
 | .one s,K=>Lg s K
 | .gD l,K=>JG l fun vs=>K (.tuple ⟨vs⟩)
def NQ:AF->List At
 | .one (.at a)=>[a]
 | .one (.agg l)=>l
 | .gD _=>[]
def tu:List At->Type->Type
 | [],R=>R
 |a :: r,R=>a.T->tu r R
def Sh.ats:Sh->List At
 | .at a=>[a]
 | .agg l=>l
def tv:List (Tmp × Sh)->List At
 | []=>[]
 |(_,s) :: r=>s.ats++tv r
def MK (W:Rec) (f:Value) (args:List Value) (h:H) (v:Value) (h':H):Prop:=∃rc,W.call f args .dF h=some (.ret v,rc,h')
def Pn (W:Rec) (f:Value) (args:List Value) (h:H) (v:Value) (h':H):Prop:=∃rc,W.call f args .dF h=some (.panic v,rc,h')
structure Hints where
 sh:List (Tmp × AF)
 loops:List (Tmp × List (Tmp × Sh))
 res:List Sh
 eY:Bool
def JH:List (Tmp × AF)->Tmp->AF
 | [],_=>.one (.at .val)
 |(t,s) :: r,d=>bif Nat.beq t d then s else JH r d
def jU (Γ:Hints):Option Tmp->AF
 |none=>.one (.at .val)
 |some d=>JH Γ.sh d
def uF:List (Tmp × List (Tmp × Sh))->Tmp->List (Tmp × Sh)
 | [],_=>[]
 |(t,s) :: r,d=>bif Nat.beq t d then s else uF r d
def kI:List Nat->Nat->Bool
 | [],_=>false
 |x :: r,n=>bif Nat.beq x n then true else kI r n
def sv (s:AF) (dst:Option Tmp) (v:Value) (ts:List Value) (K:List Value->Prop):Prop:=
 match dst with
 |none=>K ts
 |some d=>match s with
  | .one (.at .bool)=>(match v with | .bool b=>nv b (K (ts.set d (.bool true))) (K (ts.set d (.bool false))) |_=>False)
  |_=>K (ts.set d v)
def tw (g:Option (Tmp × Bool)) (ts:List Value) (X Y:Prop):Prop:=
 match g with
 |none=>X
 |some (t,b)=>match ts.getD t undef with
  | .bool c=>(match b with |true=>nv c X Y |false=>nv c Y X)
  |_=>Y
def Li (k:IntKind) (x y:Int):Int:=k.wrap ((BitVec.ofInt k.bits x &&& BitVec.ofInt k.bits y).toNat:Int)
def Po (k:IntKind) (x y:Int):Int:=k.wrap ((BitVec.ofInt k.bits x |||BitVec.ofInt k.bits y).toNat:Int)
def NR (k:IntKind) (x y:Int):Int:=k.wrap ((BitVec.ofInt k.bits x ^^^ BitVec.ofInt k.bits y).toNat:Int)
def Lj (k:IntKind) (x y:Int):Int:=k.wrap ((BitVec.ofInt k.bits x &&& ~~~(BitVec.ofInt k.bits y)).toNat:Int)
def OI (k:IntKind) (x y:Int):Int:=k.wrap (x * 2 ^ min y.toNat k.bits)
def Ll (k:IntKind) (x y:Int):Int:=x.fdiv (2 ^ min y.toNat k.bits)
def Fs (p:Prop) (K:Value->Prop):Prop:=cV p (K (.bool true)) (K (.bool false))
def GD (op:BinOp) (k k':IntKind) (x y:Int) (K:Value->Prop):Prop:=
 match op with
 | .shl=>0<=y/\ny (OI k x y) fun z=>K (.int k z)
 | .shr=>0<=y/\ny (Ll k x y) fun z=>K (.int k z)
 | .add=>need (decide (k=k')) (ny (k.wrap (x+y)) fun z=>K (.int k z))
 | .sub=>need (decide (k=k')) (ny (k.wrap (x - y)) fun z=>K (.int k z))
 | .mul=>need (decide (k=k')) (ny (k.wrap (x * y)) fun z=>K (.int k z))
 | .eql=>need (decide (k=k')) (Fs (x=y) K)
 | .neq=>need (decide (k=k')) (cV (x=y) (K (.bool false)) (K (.bool true)))
 | .lss=>need (decide (k=k')) (Fs (x < y) K)
 | .leq=>need (decide (k=k')) (Fs (x<=y) K)
 | .gtr=>need (decide (k=k')) (Fs (y < x) K)
 | .geq=>need (decide (k=k')) (Fs (y<=x) K)
 | .quo=>need (decide (k=k')) (y≠0/\ny (k.wrap (x.tdiv y)) fun z=>K (.int k z))
 | .rem=>need (decide (k=k')) (y≠0/\ny (x.tmod y) fun z=>K (.int k z))
 | .and=>need (decide (k=k')) (ny (Li k x y) fun z=>K (.int k z))
 | .or=>need (decide (k=k')) (ny (Po k x y) fun z=>K (.int k z))
 | .xor=>need (decide (k=k')) (ny (NR k x y) fun z=>K (.int k z))
 | .andNot=>need (decide (k=k')) (ny (Lj k x y) fun z=>K (.int k z))
def NS (op:BinOp) (a b:ByteArray) (K:Value->Prop):Prop:=
 match op with
 | .add=>a.size+b.size<=9223372036854775807/\K (.string (a++b))
 | .eql=>Fs (a=b) K
 | .neq=>cV (a=b) (K (.bool false)) (K (.bool true))
 |_=>False
inductive LK where
 |bool
 |str
 |int (k:IntKind)
def Bs (g:TypeId->Option (List LK)):List Field->Nat->Option (List LK)
 | [],_=>some []
 |f :: r,off=>bif f.name == "_" then none else match g f.type with
  |some l=>bif Nat.beq f.offset off then (Bs g r (off+l.length)).map (l++·) else none
  |none=>none
def Ft (l:List LK):Nat->List LK
 | 0=>[]
 |n+1=>l++Ft l n
def pP (P:Program):Nat->TypeId->Option (List LK)
 | 0,_=>none
 |d+1,t=>match P.info? t with
  |none=>none
  |some i=>match (match P.underlying t with
   |some .bool=>some [LK.bool]
   |some .string=>some [.str]
   |some (.int k)=>some [.int k]
   |some (.struct fs)=>bif P.stoodInHeld t then none else Bs (pP P d) fs.toList 0
   |some (.array n e)=>(pP P d e).map fun l=>Ft l n
   |_=>none) with
   |some l=>bif Nat.beq i.size l.length then some l else none
   |none=>none
def LK.ok:LK->Value->Bool
 | .bool,.bool _=>true
 | .str,.string _=>true
 | .int k,.int k' _=>decide (k=k')
 |_,_=>false
def LK.Am:List LK->List Value->Bool
 | [],[]=>true
 |k :: l,v :: vs=>match k.ok v with |true=>LK.Am l vs |false=>false
 |_,_=>false
inductive GK where
 |not |neg |Pb |Fu (neg:Bool) |str (op:BinOp) |agg (neg:Bool) (l:List LK) |JI |gF (n size:Nat) |Mi |conv (k:IntKind) |JJ |JK |max |min |other
def lD (P:Program) (o:Oper):GK:=
 match o.op with
 | .unOp .not _ _=>.not
 | .unOp .neg _ _=>.neg
 | .unOp .xor _ _=>.Pb
 | .binOp op t _ _ _=>match P.underlying t with
   |some .bool=>(match op with | .eql=>.Fu false | .neq=>.Fu true |_=>.other)
   |some .string=>.str op
   |some (.struct _) |some (.array _ _)=>(match op,pP P 4 t,P.eqGuardType P.depth t with | .eql,some l,false=>.agg false l | .neq,some l,false=>.agg true l |_,_,_=>.other)
   |_=>.other
 | .index t _ _=>match P.underlying t with
   |some .string=>.JI
   |some (.array n e)=>(match P.info? e,P.underlying e with |some i,some (.int _)=>.gF n i.size |some i,some .bool=>.gF n i.size |some i,some .string=>.gF n i.size |_,_=>.other)
   |_=>.other
 | .slice t _ _ _ none=>match P.underlying t with
   |some .string=>.Mi
   |_=>.other
 | .convert s t _=>match P.underlying s,P.underlying t with
   |some (.int _),some (.int k)=>.conv k
   |some .string,some .string=>.JJ
   |_,_=>.other
 | .call c=>match c.callee,c.argTypes.toList with
   | .builtin .len,t :: _=>(match P.underlying t with |some .string=>.JK |_=>.other)
   | .builtin .max,_=>.max
   | .builtin .min,_=>.min
   |_,_=>.other
 |_=>.other
def Co (ts:List Value) (d:Int):Option Operand->(Int->Prop)->Prop
 |none,K=>K d
 |some x,K=>match aj ts x with
  | .int _ n=>K n
  |_=>False
def Fv (gt:Int->Int->Int):Int->List Operand->List Value->(Int->Prop)->Prop
 |x,[],_,K=>K x
 |x,o :: r,ts,K=>match aj ts o with
  | .int _ y=>Fv gt (gt x y) r ts K
  |_=>False
def OJ (x y:Int):Int:=if y > x then y else x
def My (x y:Int):Int:=if y < x then y else x
def kP (s:ByteArray) (i:Int):Int:=((s.data.toList.getD i.toNat 0).toNat:Int)
def Mz (a b:Bool):Bool:=a == b
def K0 (a b:Bool):Bool:=a != b
def gQ (op:Op) (gk:GK) (sh:AF) (ts:List Value) (K:Value->Prop):Prop:=
 match gk,op with
 | .not,.unOp _ _ x=>(match aj ts x with | .bool b=>K (.bool (!b)) |_=>False)
 | .neg,.unOp _ _ x=>(match aj ts x with | .int k n=>ny (k.wrap (0 - n)) fun z=>K (.int k z) |_=>False)
 | .Pb,.unOp _ _ x=>(match aj ts x with | .int k n=>ny (NR k (if k.signed then -1 else k.max) n) fun z=>K (.int k z) |_=>False)
 | .Fu neg,.binOp _ _ x y _=>(match aj ts x,aj ts y with | .bool a,.bool b=>K (.bool (match neg with |true=>K0 a b |false=>Mz a b)) |_,_=>False)
 | .str op,.binOp _ _ x y _=>(match aj ts x,aj ts y with | .string a,.string b=>NS op a b K |_,_=>False)
 | .agg neg l,.binOp _ _ x y _=>(match aj ts x,aj ts y with
   | .agg a,.agg b=>need (LK.Am l a.toList && LK.Am l b.toList) (cV (a.toList=b.toList) (K (.bool (!neg))) (K (.bool neg)))
   |_,_=>False)
 | .JI,.index _ x i=>(match aj ts x,aj ts i with | .string s,.int _ n=>0<=n/\n < (s.size:Int)/\ny (kP s n) fun z=>K (.int .u8 z) |_,_=>False)
 | .gF len size,.index _ x i=>(match aj ts x,aj ts i,size,sh with
   | .agg cs,.int _ n,1,.one (.at a)=>need (cs.toList.all aS) (0<=n/\n < (len:Int)/\(∃v:a.T,cs.toList[n.toNat]?=some (a.enc v)/\K (a.enc v)))
   |_,_,_,_=>False)
 | .Mi,.slice _ x lo hi none=>(match aj ts x with
   | .string s=>Co ts 0 lo fun l=>Co ts s.size hi fun u=>0<=l/\l<=u/\u<=(s.size:Int)/\K (.string (s.extract l.toNat u.toNat))
   |_=>False)
 | .conv k,.convert _ _ x=>(match aj ts x with | .int _ n=>ny (k.wrap n) fun z=>K (.int k z) |_=>False)
 | .JJ,.convert _ _ x=>(match aj ts x with | .string s=>K (.string s) |_=>False)
 | .JK,.call c=>(match c.args.toList with | [x]=>(match aj ts x with | .string s=>K (.int .i64 (s.size:Int)) |_=>False) |_=>False)
 | .max,.call c=>(match c.args.toList with |x :: r=>(match aj ts x with | .int k n=>Fv OJ n r ts fun m=>ny m fun z=>K (.int k z) |_=>False) |_=>False)
 | .min,.call c=>(match c.args.toList with |x :: r=>(match aj ts x with | .int k n=>Fv My n r ts fun m=>ny m fun z=>K (.int k z) |_=>False) |_=>False)
 |_,_=>False
def wr (o:Nat) (xs cs:List Value):List Value:=cs.take o++xs++cs.drop (o+xs.length)
def AG (P:Program) (h:H) (e:TypeId) (size bytes:Nat) (s x:Value):Option (Value × H):=af P [] h (.append e size bytes (.const s) (.const x))
def NT (P:Program) (h:H) (e:TypeId) (bytes:Nat) (zero:List Value) (l c:Value):Option (Value × H):=af P [] h (.makeSlice e bytes zero (.const l) (.const c))
def Mj (P:Program) (h:H) (size:Nat) (x:Value) (lo hi:Option Value):Option (Value × H):=af P [] h (.gI size (.const x) (lo.map .const) (hi.map .const))
def Lm (P:Program) (h:H) (op:Operand->j8) (x:Value):Option (Value × H):=af P [] h (op (.const x))
def NU (P:Program) (h:H) (op:Operand->Operand->j8) (x y:Value):Option (Value × H):=af P [] h (op (.const x) (.const y))
def GF (sh:AF) (agg:Bool) (n:Nat) (p:Addr) (h:H) (K:Value->Prop):Prop:=
 match agg with
 |true=>Oq (NQ sh) fun cs=>h.cells p n=some cs/\K (.agg ⟨cs⟩)
 |false=>Lg (match sh with | .one s=>s |_=>.at .val) fun v=>h.cells p n=some [v]/\K v
def JL (n:Nat) (p:Addr) (xs:List Value) (h:H) (K:H->Prop):Prop:=
 need (Nat.beq xs.length n && xs.all (·.oneCell') && p.spot.isNone)
  (∃(tight:Bool) (cs:List Value) (e rows:Nat),h.get p.block=some (.cells tight cs e rows)/\p.off+n<=cs.length/\DP (h.set p.block (.cells tight (wr p.off xs cs) e rows)) K)
def qJ (sh:AF) (r:Option (Value × H)) (K:Value->H->Prop):Prop:=Lh sh fun v=>∃h',r=some (v,h')/\K v h'
def kV (P:Program) (sh:AF) (op:j8) (ts:List Value) (h:H) (K:Value->H->Prop):Prop:=
 match op with
 | .move x=>K (aj ts x) h
 | .pick c a b=>(match aj ts c with | .bool t=>nv t (K (aj ts a) h) (K (aj ts b) h) |_=>False)
 | .alloc e zero=>DP (h.alloc (.cells true zero e 1)) fun h'=>K (.pointer (some ⟨h.next,0,none⟩)) h'
 | .box e size x=>need (Nat.beq (aX (aj ts x)).length size) (DP (h.alloc (.cells true (aX (aj ts x)) e 1)) fun h'=>K (.pointer (some ⟨h.next,0,none⟩)) h')
 | .build zero ps=>(match cJ ts zero.length ps with |some l=>K (.agg ⟨fj zero l⟩) h |none=>False)
 | .buildSlice e n size zero ps=>(match cJ ts (n * size) ps with |some l=>DP (h.alloc (.cells true (fj (cE zero n) l) e n)) fun h'=>K (.slice (some ⟨h.next,0,none⟩) n 0) h' |none=>False)
 | .load agg n a=>(match aj ts a with | .pointer (some p)=>GF sh agg n p h fun v=>K v h |_=>False)
 | .store n a x=>(match aj ts a with | .pointer (some p)=>JL n p (aX (aj ts x)) h fun h'=>K undef h' |_=>False)
 | .nilCheck x=>(match sh,aj ts x with
   | .one (.at .Lf),.pointer a=>∃b o,a=some ⟨b,o,none⟩/\K (.pointer (some ⟨b,o,none⟩)) h
   |_,.pointer (some p)=>K (.pointer (some p)) h
   |_,.func (.func f) a b=>K (.func (.func f) a b) h
   |_,.func (.yield l) a b=>K (.func (.yield l) a b) h
   |_,_=>False)
 | .lp op x y=>(match aj ts x,aj ts y with | .int k a,.int k' b=>GD op k k' a b fun v=>K v h |_,_=>False)
 | .gen o=>gQ o.op (lD P o) sh ts fun v=>K v h
 | .fieldAddr off x=>(match aj ts x with | .pointer (some p)=>need p.spot.isNone (K (.pointer (some ⟨p.block,p.off+off,none⟩)) h) |_=>False)
 | .field agg n off x=>(match aj ts x with
   | .agg cs=>need (Nat.ble (off+n) cs.toList.length) (match agg with
     |true=>K (.agg ⟨(cs.toList.drop off).take n⟩) h
     |false=>(match (cs.toList.drop off).take n with | [v]=>K v h |_=>False))
   |_=>False)
 | .qo size x i=>(match aj ts x,aj ts i with
   | .slice a len _,.int _ n=>∃b o,a=some ⟨b,o,none⟩/\0<=n/\n < (len:Int)/\K (.pointer (some ⟨b,o+n.toNat * size,none⟩)) h
   |_,_=>False)
 | .gF len size x i=>(match aj ts x,aj ts i with
   | .pointer (some a),.int _ n=>need a.spot.isNone (0<=n/\n < (len:Int)/\K (.pointer (some ⟨a.block,a.off+n.toNat * size,none⟩)) h)
   |_,_=>False)
 | .gI size x lo hi=>qJ sh (Mj P h size (aj ts x) (lo.map (aj ts)) (hi.map (aj ts))) K
 | .oC f first captured=>K (.func (.func f) ⟨first.map (aj ts)⟩ ⟨captured.map (aj ts)⟩) h
 | .mR t x=>K (.iface t (aj ts x)) h
 | .extract x i=>(match aj ts x with | .tuple vs=>(match vs.toList[i]? with |some v=>K v h |none=>False) |_=>False)
 | .qp x=>(match aj ts x with | .slice _ n _=>K (.int .i64 (n:Int)) h |_=>False)
 | .nK kind neg x y=>(match kind,aj ts x,aj ts y with
   | 0,.pointer a,.pointer none=>K (.bool (neg != a.isNone)) h
   | 0,.pointer none,.pointer b=>K (.bool (neg != b.isNone)) h
   | 1,.slice a _ _,.slice none _ _=>K (.bool (neg != a.isNone)) h
   | 1,.slice none _ _,.slice b _ _=>K (.bool (neg != b.isNone)) h
   | 2,.func _ _ _,.nilFunc=>K (.bool neg) h
   |_,_,_=>False)
 | .append e size bytes s x=>qJ sh (AG P h e size bytes (aj ts s) (aj ts x)) K
 | .makeSlice e bytes zero l c=>qJ sh (NT P h e bytes zero (aj ts l) (aj ts c)) K
 | .gm e x=>qJ sh (Lm P h (.gm e) (aj ts x)) K
 | .fK x=>qJ sh (Lm P h .fK (aj ts x)) K
 | .Au x=>qJ sh (Lm P h .Au (aj ts x)) K
 | .vr x=>qJ sh (Lm P h .vr (aj ts x)) K
 | .indexByte s c=>qJ sh (NU P h .indexByte (aj ts s) (aj ts c)) K
 | .nL x y=>qJ sh (NU P h .nL (aj ts x) (aj ts y)) K
 |op=>qJ sh (af P ts h op) K
section
variable (P:Program) (W:Rec) (Γ:Hints) (rd:Bool)
def JM (f:Value) (args:List Value) (sh:AF) (h:H) (K:Value->H->Prop) (Kp:Value->H->Prop):Prop:=
 match Γ.eY with
 |false=>Lh sh fun v=>∃h',MK W f args h v h'/\K v h'
 |true=>(Lh sh fun v=>∃h',MK W f args h v h'/\K v h')\/(∃v h',Pn W f args h v h'/\Kp v h')
def OK (o:AO) (ts:List Value) (df:List fF) (h:H) (K:List Value->List fF->H->Prop) (Kp:Value->H->Prop):Prop:=
 match o.op with
 | .call f args | .dA f args=>JM W Γ (aj ts f) (args.map (aj ts)) (jU Γ o.dst) h (fun v h'=>sv (jU Γ o.dst) o.dst v ts fun ts'=>K ts' df h') Kp
 | .defer f args=>(match rd,aj ts f with
   |false,.func (.func g) x y=>K (dB o.dst undef ts) (.call (.func (.func g) x y) (args.map (aj ts)) :: df) h
   |_,_=>False)
 | .recover=>False
 | .panic x=>(match aj ts x with | .iface t v=>Kp (.iface t v) h |_=>False)
 |op=>kV P (jU Γ o.dst) op ts h fun v h'=>sv (jU Γ o.dst) o.dst v ts fun ts'=>K ts' df h'
def JN:List AO->List Value->List fF->H->(aM->List Value->List fF->H->Prop)->Prop
 | [],ts,df,h,Q=>Q .normal ts df h
 |o :: r,ts,df,h,Q=>tw o.guard ts (OK P W Γ rd o ts df h (fun ts' df' h'=>JN r ts' df' h' Q) fun v h'=>Q (.panic v) ts df h') (JN r (dB o.dst undef ts) df h Q)
def KW:List AO->List (List Value × H)->List Value->H->(List (List Value × H)->List Value->H->Prop)->Prop
 | [],G,ts,h,K=>K ((ts,h) :: G) ts h
 |o :: r,G,ts,h,K=>tw o.guard ts (match o.op with
    | .call f args | .dA f args=>Lh (jU Γ o.dst) fun v=>∃h',MK W (aj ts f) (args.map (aj ts)) h v h'/\sv (jU Γ o.dst) o.dst v ts fun ts'=>KW r ((ts,h) :: G) ts' h' K
    | .defer _ _ | .recover | .panic _=>False
    |op=>kV P (jU Γ o.dst) op ts h fun v h'=>sv (jU Γ o.dst) o.dst v ts fun ts'=>KW r ((ts,h) :: G) ts' h' K)
  (KW r ((ts,h) :: G) (dB o.dst undef ts) h K)
def ML (ops:List AO) (G:List (List Value × H)):List (Nat × Nat)->Prop->Prop
 | [],K=>K
 |c :: r,K=>(match ops[c.1]?,G[c.1]?,G[c.2]? with
  |some o,some (ts,h),some (_,h')=>tw o.guard ts (match o.op with
   | .load _ n x=>(match aj ts x with | .pointer (some p)=>c8 h h' p n=true |_=>False)
   |_=>False) True
  |_,_,_=>False)/\ML ops G r K
def H.res (h:H) (n:Nat):H:={next:=h.next+n,t:=h.t}
def uG (p:Nat->Bool) (base:Nat):List (Nat × eo)->H->(H->Prop)->Prop
 | [],h,K=>K h
 |(j,b) :: r,h,K=>match p j with
  |true=>DP (jc h (base+j) b) fun h'=>uG p base r h' K
  |false=>uG p base r h K
def JO (n:Nat) (op:j8) (ts:List Value) (K:Value->Option eo->Prop):Prop:=
 match op with
 | .alloc e zero=>K (.pointer (some ⟨n,0,none⟩)) (some (.cells true zero e 1))
 | .box e size x=>need (Nat.beq (aX (aj ts x)).length size) (K (.pointer (some ⟨n,0,none⟩)) (some (.cells true (aX (aj ts x)) e 1)))
 | .buildSlice e k size zero ps=>(match cJ ts (k * size) ps with |some l=>K (.slice (some ⟨n,0,none⟩) k 0) (some (.cells true (fj (cE zero k) l) e k)) |none=>False)
 | .makeSlice e bytes zero l c=>(match aj ts l,aj ts c with
   | .int _ l,.int _ c=>0<=l/\l=c/\l.toNat * bytes<=cF/\l.toNat<=maxLen/\K (.slice (some ⟨n,0,none⟩) l.toNat 0) (some (.cells true (cE zero l.toNat) e l.toNat))
   |_,_=>False)
 |_=>False
def nA (b:List Nat) (base:Nat):List AO->Nat->List LS->LS->(List LS->LS->Prop)->Prop
 | [],_,G,s,K=>K (s :: G) s
 |o :: r,i,G,s,K=>tw o.guard s.ts (match fV o.op with
    |true=>JO (base+i) o.op s.ts fun v ob=>sv (jU Γ o.dst) o.dst v s.ts fun ts'=>nA b base r (i+1) (s :: G) {ts:=ts',h:=s.h,F:=s.F++(ob.toList.map fun b=>(i,b))} K
    |false=>(match o.op with
     | .call f args=>uG (fun j=>dW b j i) base s.F s.h fun h1=>Lh (jU Γ o.dst) fun v=>∃h',MK W (aj s.ts f) (args.map (aj s.ts)) h1 v h'/\
       sv (jU Γ o.dst) o.dst v s.ts fun ts'=>nA b base r (i+1) (s :: G) {ts:=ts',h:=h',F:=s.F} K
     | .dA f args=>uG (fun j=>dW b j i) base s.F s.h fun h1=>Lh (jU Γ o.dst) fun v=>∃h',MK W (aj s.ts f) (args.map (aj s.ts)) h1 v h'/\
       sv (jU Γ o.dst) o.dst v s.ts fun ts'=>nA b base r (i+1) (s :: G) {ts:=ts',h:=s.h,F:=s.F} K
     | .defer _ _ | .recover | .panic _=>False
     |op=>(match ew op || eJ op with
      |true=>uG (fun j=>dW b j i) base s.F s.h fun h1=>kV P (jU Γ o.dst) op s.ts h1 fun v h'=>sv (jU Γ o.dst) o.dst v s.ts fun ts'=>
        nA b base r (i+1) (s :: G) {ts:=ts',h:=bif ew op then h' else s.h,F:=s.F} K
      |false=>kV P (jU Γ o.dst) op s.ts s.h fun v _=>sv (jU Γ o.dst) o.dst v s.ts fun ts'=>nA b base r (i+1) (s :: G) {ts:=ts',h:=s.h,F:=s.F} K)))
  (nA b base r (i+1) (s :: G) {ts:=dB o.dst undef s.ts,h:=s.h,F:=s.F} K)
def JP (b:List Nat) (base:Nat) (ops:List AO) (F:List (Nat × eo)) (G:List LS):List (Nat × Nat)->Prop->Prop
 | [],K=>K
 |c :: r,K=>(match ops[c.1]?,G[c.1]?,G[c.2]? with
  |some o,some s,some s'=>tw o.guard s.ts (match o.op with
   | .load _ n x=>(match aj s.ts x with
     | .pointer (some p)=>c8 (br (fun j=>dW b j c.1) base F s.h) (br (fun j=>dW b j c.1) base F s'.h) p n=true
     |_=>False)
   |_=>False) True
  |_,_,_=>False)/\JP b base ops F G r K
def fE:List AO->List Tmp
 | []=>[]
 |o :: r=>match o.dst with
  |some d=>d :: fE r
  |none=>fE r
def aZ:AC->List Tmp
 | .IJ ops=>fE ops
 | .yq ops _ _=>fE ops
 | .yu _ ops _=>fE ops
 | .seq a b=>aZ a++aZ b
 | .cond _ a b=>aZ a++aZ b
 | .block _ a=>aZ a
 | .loop a=>aZ a
 |_=>[]
def uH:List (Tmp × Value)->Tmp->Option Value
 | [],_=>none
 |(t,v) :: r,d=>bif Nat.beq t d then some v else uH r d
def wY (D:List Tmp) (car:List (Tmp × Value)) (j:Nat->Value):Nat->List Value->List Value
 |_,[]=>[]
 |i,v :: r=>(match uH car i with |some x=>x |none=>bif kI D i then j i else v) :: wY D car j (i+1) r
def Sh.val:(s:Sh)->List Value->Value
 | .at _,v :: _=>v
 | .at _,[]=>undef
 | .agg l,vs=>.agg ⟨vs.take l.length⟩
def Bt:List (Tmp × Sh)->List Value->List (Tmp × Value)
 | [],_=>[]
 |(t,s) :: r,vs=>(t,s.val vs) :: Bt r (vs.drop s.ats.length)
def MM:(l:List At)->tu l (H->Prop)->tu l (H->Nat)->(List Value->(H->Prop)->(H->Nat)->Prop)->Prop
 | [],I,M,K=>K [] I M
 |a :: r,I,M,K=>∀x:a.T,MM r (I x) (M x) fun vs i m=>K (a.enc x :: vs) i m
def At.look:(a:At)->Value->(a.T->Prop)->Prop
 | .int k,v,K=>(match v with | .int k' n=>need (decide (k=k')) (K n) |_=>False)
 | .bool,v,K=>(match v with | .bool b=>K b |_=>False)
 | .str,v,K=>(match v with | .string s=>K s |_=>False)
 | .sl,v,K=>(match v with | .slice p n c=>K ⟨p,n,c⟩ |_=>False)
 | .ptr,v,K=>(match v with | .pointer (some ⟨b,o,none⟩)=>K ⟨b,o⟩ |_=>False)
 | .Lf,v,K=>(match v with | .pointer p=>K p |_=>False)
 | .val,v,K=>K v
def Ot:(l:List At)->List Value->tu l (H->Prop)->tu l (H->Nat)->((H->Prop)->(H->Nat)->Prop)->Prop
 | [],_,I,M,K=>K I M
 |a :: r,v :: vs,I,M,K=>a.look v fun x=>Ot r vs (I x) (M x) K
 |_ :: _,[],_,_,_=>False
def m6:List (Tmp × Sh)->List Value->List Value
 | [],_=>[]
 |(t,.at _) :: r,ts=>ts.getD t undef :: m6 r ts
 |(t,.agg l) :: r,ts=>(match ts.getD t undef with | .agg cs=>cs.toList.take l.length |_=>List.replicate l.length undef)++m6 r ts
def uI:List (Tmp × Sh)->List Value->Bool
 | [],_=>true
 |(_,.at _) :: r,ts=>uI r ts
 |(t,.agg l) :: r,ts=>(match ts.getD t undef with | .agg cs=>Nat.beq cs.toList.length l.length |_=>false) && uI r ts
def c6:List Tmp->Tmp
 | []=>0
 |t :: _=>t
def S:AC->Bool->List Value->List fF->H->(aM->List Value->List fF->H->Prop)->Prop
 | .skip,_,ts,df,h,Q=>Q .normal ts df h
 | .IJ ops,rd,ts,df,h,Q=>JN P W Γ rd ops ts df h Q
 | .yq ops aC _,_,ts,df,h,Q=>KW P W Γ ops [] ts h fun G ts' h'=>ML ops G.reverse aC (Q .normal ts' df h')
 | .yu b ops aC,_,ts,df,h,Q=>DP (h.res ops.length) fun h1=>nA P W Γ b h.next ops 0 [] ⟨ts,h1,[]⟩ fun G s=>JP b h.next ops s.F G.reverse aC
   (uG (fun _=>true) h.next s.F s.h fun h'=>Q .normal s.ts df h')
 | .seq a b,rd,ts,df,h,Q=>S a rd ts df h fun x ts' df' h'=>match x with
   | .normal=>S b rd ts' df' h' Q
   | .exit id=>Q (.exit id) ts' df' h'
   | .ret=>Q .ret ts' df' h'
   | .panic v=>Q (.panic v) ts' df' h'
 | .cond c a b,rd,ts,df,h,Q=>(match aj ts c with | .bool t=>nv t (S a rd ts df h Q) (S b rd ts df h Q) |_=>False)
 | .block id c,rd,ts,df,h,Q=>S c rd ts df h fun x ts' df' h'=>match x with
   | .exit id'=>(match Nat.beq id' id with |true=>Q .normal ts' df' h' |false=>Q (.exit id') ts' df' h')
   | .normal=>Q .normal ts' df' h'
   | .ret=>Q .ret ts' df' h'
   | .panic v=>Q (.panic v) ts' df' h'
 | .loop c,rd,ts,df,h,Q=>
   ∃(I:tu (tv (uF Γ.loops (c6 (aZ c)))) (H->Prop)) (M:tu (tv (uF Γ.loops (c6 (aZ c)))) (H->Nat)),
    need (uI (uF Γ.loops (c6 (aZ c))) ts) (Ot _ (m6 (uF Γ.loops (c6 (aZ c))) ts) I M (fun i _=>i h))/\
    ∀j:Nat->Value,MM _ I M fun vs i m=>∀h1,i h1->
     S c rd (wY (aZ c) (Bt (uF Γ.loops (c6 (aZ c))) vs) j 0 ts) df h1 fun x ts' df' h'=>match x with
       | .normal=>df'=df/\need (uI (uF Γ.loops (c6 (aZ c))) ts') (Ot _ (m6 (uF Γ.loops (c6 (aZ c))) ts') I M fun i' m'=>i' h'/\m' h' < m h1)
       | .exit id=>Q (.exit id) ts' df' h'
       | .ret=>Q .ret ts' df' h'
       | .panic v=>Q (.panic v) ts' df' h'
 | .rangeFunc _ _ _ _,_,_,_,_,_=>False
 | .exit id,_,ts,df,h,Q=>Q (.exit id) ts df h
 | .ret,_,ts,df,h,Q=>Q .ret ts df h
 | .stuck,_,_,_,_,_=>False
def JQ:List fF->H->(H->Prop)->Prop
 | [],h,K=>K h
 | .coll d :: r,h,K=>h.get d=some .CN/\DP (h.set d .dead) fun h'=>JQ r h' K
 | .call _ _ :: _,_,_=>False
def JR (h:H) (ts:List Value):List Db->List Sh->(List Value->Prop)->Prop
 | [],_,K=>K []
 | .tmp t :: r,l,K=>need (!(nO (ts.getD t undef))) (JR h ts r (l.drop 1) fun vs=>K (ts.getD t undef :: vs))
 | .cell t agg n :: r,l,K=>(match ts.getD t undef with
   | .pointer (some p)=>GF (.one (l.headD (.at .val))) agg n p h fun v=>JR h ts r (l.drop 1) fun vs=>K (v :: vs)
   |_=>False)
def NV (fn:kM) (x:aM) (ts:List Value) (df:List fF) (h:H) (R:fR->H->Prop):Prop:=
 match x with
 | .normal | .ret=>JQ df h fun h'=>JR h' ts fn.results Γ.res fun vs=>R (.ret (iq vs)) h'
 | .panic v=>JQ df h fun h'=>R (.panic v) h'
 | .exit _=>False
def Ou (T:Nat->Option kM) (g:Nat) (args:List Value) (h:H) (R:fR->H->Prop):Prop:=
 match T g with
 |some fn=>S P W Γ fn.body false (args++List.replicate (fn.ntmps - args.length) undef) [] h fun x ts df h'=>NV Γ fn x ts df h' R
 |none=>False
end
end Go.Ev
namespace Go.Ev
open Go Go.RowKit
theorem ai {b:Bool} {X:Prop}:need b X↔b=true/\X:=by cases b<;>simp [need]
theorem gu {b:Bool} {X Y:Prop} (h:nv b X Y):(b=true/\X)\/(b=false/\Y):=by cases b<;>simp_all [nv]
theorem jV {h:H} {K:H->Prop} (x:DP h K):K h:=x h rfl
theorem bY {i:Int} {K:Int->Prop} (x:ny i K):K i:=x i rfl
theorem zk:∀{l:List At} {K:List Value->Prop},Oq l K->∃vs,vs.length=l.length/\K vs
 | [],_,h=>⟨[],rfl,h⟩
 |a :: l,K,h=>by
  obtain ⟨x,hx⟩:=h
  obtain ⟨vs,h1,h2⟩:=zk hx
  exact ⟨a.enc x :: vs,by simp [h1],h2⟩
theorem vJ {s:Sh} {K:Value->Prop} (h:Lg s K):∃v,K v:=by
 cases s with
 | «at» a=>obtain ⟨x,hx⟩:=h;exact ⟨_,hx⟩
 |agg l=>obtain ⟨vs,_,h2⟩:=zk (l:=l) h;exact ⟨_,h2⟩
theorem zl:∀{l:List Sh} {K:List Value->Prop},JG l K->∃vs,K vs
 | [],_,h=>⟨[],h⟩
 |s :: l,K,h=>by
  obtain ⟨v,hv⟩:=vJ (s:=s) h
  obtain ⟨vs,h2⟩:=zl (l:=l) hv
  exact ⟨v :: vs,h2⟩
theorem mq {s:AF} {K:Value->Prop} (h:Lh s K):∃v,K v:=by
 cases s with
 |one s=>exact vJ h
 |gD l=>obtain ⟨vs,h2⟩:=zl (l:=l) h;exact ⟨_,h2⟩
theorem fO {s:AF} {dst:Option Tmp} {v:Value} {ts:List Value} {K:List Value->Prop} (h:sv s dst v ts K):K (dB dst v ts):=by
 unfold sv at h
 cases dst with
 |none=>exact h
 |some d=>
  simp only at h
  split at h
  ·split at h
   ·rename_i b
    rcases gu h with ⟨rfl,h⟩ |⟨rfl,h⟩<;>exact h
   ·exact h.elim
  ·exact h
theorem kJ {g:Option (Tmp × Bool)} {ts:List Value} {X Y:Prop} (h:tw g ts X Y):(aq g ts=true/\X)\/(aq g ts=false/\Y):=by
 unfold tw at h
 unfold aq
 cases g with
 |none=>exact .inl ⟨rfl,h⟩
 |some p=>
  obtain ⟨t,b⟩:=p
  simp only at h ⊢
  cases hv:ts[t]? with
  |none=>
   have:ts.getD t undef=undef:=by simp [List.getD_eq_getElem?_getD,hv]
   rw [this] at h
   exact .inr ⟨rfl,h⟩
  |some v=>
   have:ts.getD t undef=v:=by simp [List.getD_eq_getElem?_getD,hv]
   rw [this] at h
   cases v with
   |bool c=>
    simp only at h ⊢
    cases b with
    |true=>rcases gu (X:=X) (Y:=Y) h with ⟨rfl,h⟩ |⟨rfl,h⟩
           ·exact .inl ⟨rfl,h⟩
           ·exact .inr ⟨rfl,h⟩
    |false=>rcases gu (X:=Y) (Y:=X) h with ⟨rfl,h⟩ |⟨rfl,h⟩
            ·exact .inr ⟨rfl,h⟩
            ·exact .inl ⟨rfl,h⟩
   |_=>exact .inr ⟨rfl,h⟩
theorem lS {p:Prop} [Decidable p] {K:Value->Prop} (h:Fs p K):K (.bool (decide p)):=by
 by_cases hp:p
 ·simpa [hp] using h.1 hp
 ·simpa [hp] using h.2 hp
theorem DQ {p:Prop} [Decidable p] {K:Value->Prop} {n:Bool} (h:cV p (K (.bool (!n))) (K (.bool n))):K (.bool (n != decide p)):=by
 by_cases hp:p
 ·have:=h.1 hp;cases n<;>simpa [hp] using this
 ·have:=h.2 hp;cases n<;>simpa [hp] using this
theorem zm {op:BinOp} {k k':IntKind} {x y:Int} {K:Value->Prop} (h:GD op k k' x y K):
  (k=k'\/op= .shl\/op= .shr)/\∃v,lp op k x y=some v/\K v:=by
 cases op<;>simp only [GD,ai,decide_eq_true_eq] at h
 case add=>exact ⟨.inl h.1,_,rfl,bY h.2⟩
 case sub=>exact ⟨.inl h.1,_,rfl,bY h.2⟩
 case mul=>exact ⟨.inl h.1,_,rfl,bY h.2⟩
 case quo=>exact ⟨.inl h.1,_,by simp only [lp,if_neg h.2.1],bY h.2.2⟩
 case rem=>exact ⟨.inl h.1,_,by simp only [lp,if_neg h.2.1],bY h.2.2⟩
 case and=>exact ⟨.inl h.1,_,rfl,bY h.2⟩
 case or=>exact ⟨.inl h.1,_,rfl,bY h.2⟩
 case xor=>exact ⟨.inl h.1,_,rfl,bY h.2⟩
 case andNot=>exact ⟨.inl h.1,_,rfl,bY h.2⟩
 case shl=>exact ⟨.inr (.inl rfl),_,by simp only [lp,if_neg (Int.not_lt.2 h.1)];rfl,bY h.2⟩
 case shr=>exact ⟨.inr (.inr rfl),_,by simp only [lp,if_neg (Int.not_lt.2 h.1)];rfl,bY h.2⟩
 case eql=>
  refine ⟨.inl h.1,_,rfl,?_⟩
  have:=lS h.2
  rwa [show (x == y)=decide (x=y) from rfl]
 case neq=>
  refine ⟨.inl h.1,_,rfl,?_⟩
  have:=DQ (n:=true) (K:=K) h.2
  have e:(x != y)=(true != decide (x=y)):=by
   by_cases hxy:x=y
   ·subst hxy;simp
   ·simp [hxy,bne]
  rw [e];exact this
 case lss=>exact ⟨.inl h.1,_,rfl,lS h.2⟩
 case leq=>exact ⟨.inl h.1,_,rfl,lS h.2⟩
 case gtr=>exact ⟨.inl h.1,_,rfl,lS h.2⟩
 case geq=>exact ⟨.inl h.1,_,rfl,lS h.2⟩
theorem qK {a:Option Nat} (h:a.isNone=true):a=none:=by cases a<;>simp_all
section
variable {P:Program} {ts:List Value} {h:H}
theorem Ln {e:TypeId} {size bytes:Nat} {s x:Operand}:AG P h e size bytes (aj ts s) (aj ts x)=af P ts h (.append e size bytes s x):=rfl
theorem JS {size:Nat} {x:Operand} {lo hi:Option Operand}:Mj P h size (aj ts x) (lo.map (aj ts)) (hi.map (aj ts))=af P ts h (.gI size x lo hi):=by
 cases lo<;>cases hi<;>rfl
theorem zn {sh:AF} {r:Option (Value × H)} {K:Value->H->Prop} (hs:qJ sh r K):∃v h',r=some (v,h')/\K v h':=by
 obtain ⟨v,h',h1,h2⟩:=mq hs
 exact ⟨v,h',h1,h2⟩
theorem zo {sh:AF} {agg:Bool} {n:Nat} {p:Addr} {K:Value->Prop} (hs:GF sh agg n p h K):
  ∃cs v,h.cells p n=some cs/\(if agg then some (Value.agg cs.toArray) else one cs)=some v/\K v:=by
 unfold GF at hs
 cases agg with
 |true=>
  obtain ⟨vs,_,h1,h2⟩:=zk hs
  exact ⟨vs,_,h1,rfl,h2⟩
 |false=>
  obtain ⟨v,h1,h2⟩:=vJ hs
  exact ⟨[v],v,h1,rfl,h2⟩
theorem bL {α:Type} (x:α):av P (pure x:Sem α)=some x:=rfl
theorem ag {α β:Type} (m:Sem α) (f:α->Sem β):av P (m >>= f)=(av P m).bind fun x=>av P (f x):=by
 show av P (Sem.bind m f)=_
 induction m with
 |pure a=>rfl
 |program k ih=>simp only [Sem.bind,av,ih]
 |mark m k ih=>simp only [Sem.bind,av,ih]
 |_=>simp [Sem.bind,av]
theorem iL:av P program=some P:=rfl
theorem aF {t:TypeId} {d:TypeDesc} (h:P.underlying t=some d):av P (underlying t)=some d:=by
 simp only [underlying,ag,iL,Option.bind_some,h]
 rfl
end
end Go.Ev
namespace Go.Ev
open Go Go.RowKit
variable {P:Program} {ts:List Value} {h:H}
theorem m7 {α:Type} (c:Prop) [Decidable c] (a b:Sem α):av P (if c then a else b)=if c then av P a else av P b:=by split<;>rfl
theorem vK {t:TypeId} {i:TypeInfo} (h:P.info? t=some i):av P (typeInfo t)=some i:=by
 simp only [typeInfo,ag,iL,Option.bind_some,h]
 rfl
theorem mu {t:TypeId} {i:TypeInfo} (h:P.info? t=some i):av P (sizeOf t)=some i.size:=by
 simp only [sizeOf,ag,vK h,Option.bind_some]
 rfl
def er (P:Program) (t:TypeId):Bool:=match P.underlying t with
 |some (.struct _) |some (.array _ _)=>true
 |_=>false
def qL (P:Program) (t:TypeId) (xs:List Value):Value:=bif er P t then .agg xs.toArray else xs.headD undef
theorem sM {t:TypeId} {d:TypeDesc} (hd:P.underlying t=some d):av P (isAgg t)=some (er P t):=by
 simp only [isAgg,ag,aF hd,Option.bind_some,er,hd]
 cases d<;>rfl
theorem eP:∀{l:List LK} {xs:List Value},LK.Am l xs=true->xs.length=l.length
 | [],[],_=>rfl
 |k :: l,v :: vs,h=>by
  simp only [LK.Am] at h
  split at h
  ·simp [eP h]
  ·cases h
 | [],_ :: _,h=>by cases h
 |_ :: _,[],h=>by cases h
theorem mw:∀{l m:List LK} {xs:List Value},LK.Am (l++m) xs=true->LK.Am l (xs.take l.length)=true/\LK.Am m (xs.drop l.length)=true
 | [],m,xs,h=>by simpa [LK.Am] using h
 |k :: l,m,[],h=>by cases h
 |k :: l,m,v :: vs,h=>by
  simp only [List.cons_append,LK.Am] at h
  split at h
  ·rename_i hk
   have:=mw (l:=l) h
   simp only [List.length_cons,List.take_succ_cons,List.drop_succ_cons,LK.Am,hk]
   exact this
  ·cases h
theorem DR:∀{l:List LK} {xs:List Value},LK.Am l xs=true->xs.all aS=true
 | [],[],_=>rfl
 |k :: l,v :: vs,h=>by
  simp only [LK.Am] at h
  split at h
  ·rename_i hk
   simp only [List.all_cons,DR h,Bool.and_true]
   cases k<;>cases v<;>simp_all [LK.ok,aS]
  ·cases h
 | [],_ :: _,h=>by cases h
 |_ :: _,[],h=>by cases h
def JT (P:Program) (d:Nat) (t:TypeId) (l:List LK):Prop:=
 ∀xs ys,LK.Am l xs=true->LK.Am l ys=true->∃b,av P (Op.equalIn d t (qL P t xs) (qL P t ys))=some b/\(b=true↔xs=ys)
theorem lE {t:TypeId} {i:TypeInfo} {d:TypeDesc} (hd:P.underlying t=some d) (hi:P.info? t=some i) {xs:List Value} {off n:Nat} (hn:i.size=n) (hlen:off+n<=xs.length) (hne:er P t=false->n=1):
  av P (part t xs.toArray off)=some (qL P t ((xs.drop off).take n)):=by
 simp only [part,ag,sM hd,Option.bind_some]
 cases ha:er P t with
 |true=>
  simp only [if_true,ag,mu hi,Option.bind_some,qL,ha,cond_true,hn]
  have:xs.toArray.extract off (off+n)=((xs.drop off).take n).toArray:=by simp
  rw [this];rfl
 |false=>
  have h1:=hne ha
  subst h1
  have hlt:off < xs.length:=by omega
  simp only [Bool.false_eq_true,if_false,qL,ha,cond_false]
  have:xs.toArray[off]?=some xs[off]:=by simp [hlt]
  rw [this]
  simp only [List.drop_eq_getElem_cons hlt,List.take_succ_cons,List.headD_cons]
  rfl
theorem m8 {d:Nat} {t:TypeId} {l:List LK} (h:pP P (d+1) t=some l):∃i,P.info? t=some i/\i.size=l.length/\
  ((P.underlying t=some .bool/\l=[.bool])\/(P.underlying t=some .string/\l=[.str])\/(∃k,P.underlying t=some (.int k)/\l=[.int k])\/
    (∃fs,P.underlying t=some (.struct fs)/\P.stoodInHeld t=false/\Bs (pP P d) fs.toList 0=some l)\/
    (∃n e m,P.underlying t=some (.array n e)/\pP P d e=some m/\l=Ft m n)):=by
 simp only [pP] at h
 split at h
 ·cases h
 ·rename_i i hi
  split at h
  ·rename_i l' hl'
   cases hb:Nat.beq i.size l'.length with
   |false=>rw [hb] at h;cases h
   |true=>
    rw [hb] at h
    simp only [cond_true,Option.some.injEq] at h
    subst h
    refine ⟨i,hi,Nat.eq_of_beq_eq_true hb,?_⟩
    split at hl'
    ·rename_i hu;cases hl';exact .inl ⟨hu,rfl⟩
    ·rename_i hu;cases hl';exact .inr (.inl ⟨hu,rfl⟩)
    ·rename_i k hu;cases hl';exact .inr (.inr (.inl ⟨k,hu,rfl⟩))
    ·rename_i fs hu
     cases hs:P.stoodInHeld t with
     |true=>rw [hs] at hl';cases hl'
     |false=>rw [hs] at hl';exact .inr (.inr (.inr (.inl ⟨fs,hu,by first |rfl |exact hs,hl'⟩)))
    ·rename_i n e hu
     obtain ⟨m,hm,rfl⟩:=aa hl'
     exact .inr (.inr (.inr (.inr ⟨n,e,m,hu,hm,rfl⟩)))
    ·cases hl'
  ·cases h
theorem o3 {d:Nat} {t:TypeId} {l:List LK} (h:pP P d t=some l) (ha:er P t=false):l.length=1:=by
 cases d with
 |zero=>cases h
 |succ d=>
  obtain ⟨i,_,_,⟨hu,rfl⟩ |⟨hu,rfl⟩ |⟨k,hu,rfl⟩ |⟨fs,hu,_,_⟩ |⟨n,e,m,hu,_,_⟩⟩:=m8 h
  ·rfl
  ·rfl
  ·rfl
  ·simp [er,hu] at ha
  ·simp [er,hu] at ha
theorem zq {xs ys:List Value} {n:Nat}:xs=ys↔xs.take n=ys.take n/\xs.drop n=ys.drop n:=by
 constructor
 ·rintro rfl;exact ⟨rfl,rfl⟩
 ·rintro ⟨h1,h2⟩;rw [← List.take_append_drop n xs,h1,h2,List.take_append_drop]
theorem Bu {g:Nat} {D:Nat} (ih:∀t l,pP P g t=some l->JT P D t l) {xs ys:List Value}:∀(fs:List Field) (off:Nat) (l:List LK),Bs (pP P g) fs off=some l->
  LK.Am l (xs.drop off)=true->LK.Am l (ys.drop off)=true->off<=xs.length->off<=ys.length->
  ∃b,av P (Op.eqFields D xs.toArray ys.toArray fs)=some b/\(b=true↔xs.drop off=ys.drop off)
 | [],off,l,hf,hx,hy,_,_=>by
   simp only [Bs,Option.some.injEq] at hf
   subst hf
   have h1:=eP hx
   have h2:=eP hy
   refine ⟨true,rfl,by simp [List.eq_nil_of_length_eq_zero h1,List.eq_nil_of_length_eq_zero h2]⟩
 |f :: fs,off,l,hf,hx,hy,hlx,hly=>by
  simp only [Bs] at hf
  cases hn:f.name == "_" with
  |true=>rw [hn] at hf;cases hf
  |false=>
   rw [hn] at hf
   simp only [cond_false] at hf
   split at hf
   ·rename_i m hm
    cases hb:Nat.beq f.offset off with
    |false=>rw [hb] at hf;cases hf
    |true=>
     rw [hb] at hf
     simp only [cond_true] at hf
     obtain ⟨r,hr,rfl⟩:=aa hf
     have hoff:=Nat.eq_of_beq_eq_true hb
     obtain ⟨hx1,hx2⟩:=mw hx
     obtain ⟨hy1,hy2⟩:=mw hy
     rw [List.drop_drop] at hx2 hy2
     have lx1:=eP hx1
     have ly1:=eP hy1
     rw [List.length_take,List.length_drop] at lx1 ly1
     have g0:∃g',g=g'+1:=by cases g with |zero=>cases hm |succ g'=>exact ⟨g',rfl⟩
     obtain ⟨g',rfl⟩:=g0
     obtain ⟨i,hi,hsz,hu⟩:=m8 hm
     have hd:∃d,P.underlying f.type=some d:=by
      rcases hu with ⟨hu,_⟩ |⟨hu,_⟩ |⟨k,hu,_⟩ |⟨fs,hu,_,_⟩ |⟨n,e,m,hu,_,_⟩<;>exact ⟨_,hu⟩
     obtain ⟨d,hd⟩:=hd
     have px:=lE (P:=P) (xs:=xs) (off:=f.offset) hd hi hsz (by omega) (o3 hm)
     have py:=lE (P:=P) (xs:=ys) (off:=f.offset) hd hi hsz (by omega) (o3 hm)
     rw [hoff] at px py
     obtain ⟨b,hb1,hb2⟩:=ih _ _ hm _ _ hx1 hy1
     have hne:f.name≠ "_":=by simpa using hn
     simp only [Op.eqFields,if_pos hne,hoff,ag,px,py,Option.bind_some,hb1]
     cases b with
     |false=>
      refine ⟨false,rfl,?_⟩
      simp only [Bool.false_eq_true,false_iff] at hb2 ⊢
      intro e;exact hb2 (by rw [e])
     |true=>
      obtain ⟨b',hb1',hb2'⟩:=Bu ih fs (off+m.length) r hr hx2 hy2 (by omega) (by omega)
      refine ⟨b',by simpa using hb1',?_⟩
      rw [hb2',zq (xs:=xs.drop off) (n:=m.length),List.drop_drop,List.drop_drop]
      have:=hb2.1 rfl
      simp [this]
   ·cases hf
theorem zu {d:Nat} {t:TypeId} {fs:Array Field} {xs ys:Array Value} (ht:P.underlying t=some (.struct fs)) (hp:P.stoodInHeld t=false):
  av P (Op.equalIn (d+1) t (.agg xs) (.agg ys))=av P (Op.eqFields d xs ys fs.toList):=by
 simp only [Op.equalIn,ag,aF ht,iL,Option.bind_some,hp,Bool.false_eq_true,if_false]
 rw [← Array.forIn_toList]
 generalize fs.toList=fs
 clear ht
 induction fs with
 |nil=>simp [Op.eqFields,bL]
 |cons f fs ih=>
  simp only [List.forIn_cons,Op.eqFields,ag,m7]
  split
  ·generalize av P (part f.type xs f.offset)=r1
   cases r1 with
   |none=>simp
   |some a=>
    simp only [Option.bind_some]
    generalize av P (part f.type ys f.offset)=r2
    cases r2 with
    |none=>simp
    |some b=>
     simp only [Option.bind_some]
     generalize av P (Op.equalIn d f.type a b)=r3
     cases r3 with
     |none=>simp
     |some r=>
      cases r
      ·simp [bL]
      ·simpa [bL] using ih
  ·simpa [bL] using ih
def nX (d:Nat) (e:TypeId) (n:Nat) (xs ys:Array Value):List Nat->Sem Bool
 | []=>pure true
 |i :: r=>do
  let a ← part e xs (i * n)
  let b ← part e ys (i * n)
  let c ← Op.equalIn d e a b
  if (!c)=true then pure false else nX d e n xs ys r
theorem AH {d:Nat} {t e:TypeId} {n:Nat} {i:TypeInfo} {xs ys:Array Value} (hu:P.underlying t=some (.array n e)) (hi:P.info? e=some i):
  av P (Op.equalIn (d+1) t (.agg xs) (.agg ys))=av P (nX d e i.size xs ys (List.range n)):=by
 simp only [Op.equalIn,ag,aF hu,Option.bind_some,mu hi]
 simp only [Std.Legacy.Range.forIn_eq_forIn_range',Std.Legacy.Range.size,Nat.sub_zero,Nat.add_one_sub_one,Nat.div_one,List.range_eq_range']
 generalize List.range' 0 n=is
 induction is with
 |nil=>simp [nX,bL]
 |cons j is ih=>
  simp only [List.forIn_cons,nX,ag,m7]
  generalize av P (part e xs (j * i.size))=r1
  cases r1 with
  |none=>simp
  |some a=>
   simp only [Option.bind_some]
   generalize av P (part e ys (j * i.size))=r2
   cases r2 with
   |none=>simp
   |some b=>
    simp only [Option.bind_some]
    generalize av P (Op.equalIn d e a b)=r3
    cases r3 with
    |none=>simp
    |some r=>
     cases r
     ·simp [bL]
     ·simpa [bL] using ih
theorem DS {D:Nat} {e:TypeId} {m:List LK} {i:TypeInfo} {d:TypeDesc} (ih:JT P D e m) (hd:P.underlying e=some d) (hi:P.info? e=some i) (hsz:i.size=m.length) (hne:er P e=false->m.length=1) {xs ys:List Value}:
  ∀(n k:Nat),LK.Am (Ft m n) (xs.drop (k * m.length))=true->LK.Am (Ft m n) (ys.drop (k * m.length))=true->k * m.length<=xs.length->k * m.length<=ys.length->
  ∃b,av P (nX D e i.size xs.toArray ys.toArray (List.range' k n))=some b/\(b=true↔xs.drop (k * m.length)=ys.drop (k * m.length))
 | 0,k,hx,hy,_,_=>by
   simp only [Ft] at hx hy
   have h1:=eP hx
   have h2:=eP hy
   refine ⟨true,rfl,by simp [List.eq_nil_of_length_eq_zero h1,List.eq_nil_of_length_eq_zero h2]⟩
 |n+1,k,hx,hy,hlx,hly=>by
  simp only [Ft] at hx hy
  obtain ⟨hx1,hx2⟩:=mw hx
  obtain ⟨hy1,hy2⟩:=mw hy
  rw [List.drop_drop] at hx2 hy2
  have lx1:=eP hx1
  have ly1:=eP hy1
  rw [List.length_take,List.length_drop] at lx1 ly1
  have px:=lE (P:=P) (xs:=xs) (off:=k * m.length) hd hi hsz (by omega) hne
  have py:=lE (P:=P) (xs:=ys) (off:=k * m.length) hd hi hsz (by omega) hne
  obtain ⟨b,hb1,hb2⟩:=ih _ _ hx1 hy1
  have hk:k * m.length+m.length=(k+1) * m.length:=by rw [Nat.add_mul,Nat.one_mul]
  rw [hk] at hx2 hy2
  simp only [List.range'_succ,nX,hsz,ag,px,py,Option.bind_some,hb1]
  cases b with
  |false=>
   refine ⟨false,rfl,?_⟩
   simp only [Bool.false_eq_true,false_iff] at hb2 ⊢
   intro e;exact hb2 (by rw [e])
  |true=>
   obtain ⟨b',hb1',hb2'⟩:=DS ih hd hi hsz hne n (k+1) hx2 hy2 (by omega) (by omega)
   rw [hsz] at hb1'
   refine ⟨b',by simpa using hb1',?_⟩
   rw [hb2',zq (xs:=xs.drop (k * m.length)) (n:=m.length),List.drop_drop,List.drop_drop,hk]
   have:=hb2.1 rfl
   simp [this]
theorem bytes_beq (a b:ByteArray):(a == b)=true↔a=b:=by
 constructor
 ·intro h
  obtain ⟨⟨x⟩⟩:=a
  obtain ⟨⟨y⟩⟩:=b
  have:((⟨x⟩:Array UInt8) == ⟨y⟩)=true:=h
  simp at this
  rw [this]
 ·rintro rfl
  obtain ⟨⟨x⟩⟩:=a
  show ((⟨x⟩:Array UInt8) == ⟨x⟩)=true
  simp
theorem zw:∀(d:Nat) (t:TypeId) (l:List LK) (k:Nat),pP P d t=some l->JT P (d+k) t l
 | 0,_,_,_,h=>by cases h
 |d+1,t,l,k,h=>by
  have ih:=fun t l h=>zw d t l k h
  intro xs ys hx hy
  have hlx:=eP hx
  have hly:=eP hy
  rw [show d+1+k=d+k+1 by omega]
  obtain ⟨i,hi,hsz,⟨hu,rfl⟩ |⟨hu,rfl⟩ |⟨kk,hu,rfl⟩ |⟨fs,hu,hst,hfl⟩ |⟨n,e,m,hu,hm,rfl⟩⟩:=m8 h
  ·match xs,ys,hx,hy with
   | [.bool a],[.bool b],_,_=>
     refine ⟨a == b,?_,by simp⟩
     simp only [qL,er,hu,cond_false,List.headD_cons,Op.equalIn,ag,aF hu,Option.bind_some]
     rfl
  ·match xs,ys,hx,hy with
   | [.string a],[.string b],_,_=>
     refine ⟨a == b,?_,by rw [bytes_beq];simp⟩
     simp only [qL,er,hu,cond_false,List.headD_cons,Op.equalIn,ag,aF hu,Option.bind_some]
     rfl
  ·match xs,ys,hx,hy with
   | [.int k1 a],[.int k2 b],hx,hy=>
     have e1:kk=k1:=by simp only [LK.Am,LK.ok] at hx;split at hx<;>simp_all
     have e2:kk=k2:=by simp only [LK.Am,LK.ok] at hy;split at hy<;>simp_all
     subst e1 e2
     refine ⟨a == b,?_,by simp⟩
     simp only [qL,er,hu,cond_false,List.headD_cons,Op.equalIn,ag,aF hu,Option.bind_some,if_true]
     rfl
  ·have hag:er P t=true:=by simp [er,hu]
   simp only [qL,hag,cond_true]
   rw [zu hu hst]
   simpa using Bu ih (xs:=xs) (ys:=ys) fs.toList 0 l hfl (by simpa using hx) (by simpa using hy) (by omega) (by omega)
  ·have hag:er P t=true:=by simp [er,hu]
   simp only [qL,hag,cond_true]
   have g0:∃g',d=g'+1:=by cases d with |zero=>cases hm |succ g'=>exact ⟨g',rfl⟩
   obtain ⟨g',rfl⟩:=g0
   obtain ⟨j,hj,hjs,hue⟩:=m8 hm
   have hd:∃d,P.underlying e=some d:=by
    rcases hue with ⟨hu,_⟩ |⟨hu,_⟩ |⟨k,hu,_⟩ |⟨fs,hu,_,_⟩ |⟨n,e,m,hu,_,_⟩<;>exact ⟨_,hu⟩
   obtain ⟨dd,hd⟩:=hd
   rw [AH hu hj,List.range_eq_range']
   simpa using DS (ih e m hm) hd hj hjs (o3 hm) (xs:=xs) (ys:=ys) n 0 (by simpa using hx) (by simpa using hy) (by simp) (by simp)
end Go.Ev
namespace Go.Ev
open Go Go.RowKit
variable {P:Program} {ts:List Value} {h:H}
theorem fk {o:Oper} {v:Value} (hc:∀x∈o.op.operands,ay (aj ts x)=true) (hr:av P (execOp (aj ts) o)=some (.value v)) (hv:ay v=true):af P ts h (.gen o)=some (v,h):=by
 have:(o.op.operands.all fun x=>ay (aj ts x))=true:=by rw [Array.all_eq_true_iff_forall_mem];exact hc
 simp only [af]
 rw [if_pos this,hr]
 simp only
 rw [if_pos hv]
theorem zx {l:List LK} {a:Array Value} (h:LK.Am l a.toList=true):ay (.agg a)=true:=by
 simp only [ay,dD];exact DR h
theorem DT {op:BinOp} {t:TypeId} {x y:Operand} {a b:Array Value} (hg:P.eqGuardType P.depth t=false) (ho:op= .eql\/op= .neq):av P (eqGuard op t x y (.agg a) (.agg b))=some ():=by
 rcases ho with rfl |rfl<;>simp [eqGuard,ag,iL,hg,bL]
theorem qM {gt:Int->Int->Int}:∀{r:List Operand} {x:Int} {K:Int->Prop},Fv gt x r ts K->∀o∈r,∃k y,aj ts o= .int k y
 | [],_,_,_,_,h=>by cases h
 |o :: r,x,K,hs,o',hm=>by
  simp only [Fv] at hs
  split at hs
  ·rename_i k y hy
   rcases List.mem_cons.1 hm with rfl |hm
   ·exact ⟨k,y,hy⟩
   ·exact qM hs o' hm
  ·exact hs.elim
theorem zy {gt:Int->Int->Int} {f:Value->Value->Sem Value} (hf:∀k k' x y,av P (f (.int k x) (.int k' y))=some (.int k (gt x y))) {k:IntKind}:∀{r:List Operand} {x:Int} {K:Int->Prop},Fv gt x r ts K->
  ∃m,av P ((r.map (aj ts)).foldlM f (.int k x))=some (.int k m)/\K m
 | [],x,K,h=>⟨x,rfl,h⟩
 |o :: r,x,K,hs=>by
  simp only [Fv] at hs
  split at hs
  ·rename_i k' y hy
   obtain ⟨m,h1,h2⟩:=zy hf (k:=k) hs
   refine ⟨m,?_,h2⟩
   simp only [List.map_cons,List.foldlM_cons,hy,ag,hf,Option.bind_some,h1]
  ·exact hs.elim
theorem wZ {d:Int} {o:Option Operand} {K:Int->Prop} (hs:Co ts d o K):∃n,K n/\((o=none/\n=d)\/∃x k,o=some x/\aj ts x= .int k n):=by
 cases o with
 |none=>exact ⟨d,hs,.inl ⟨rfl,rfl⟩⟩
 |some x=>
  simp only [Co] at hs
  split at hs
  ·rename_i k n hn;exact ⟨n,hs,.inr ⟨x,k,rfl,hn⟩⟩
  ·exact hs.elim
theorem fZ {k:IntKind} {i:Int} {y:Nat} {c:BoundsCode} (h1:0<=i) (h2:i<=y):av P (Instr.sliceBound (.int k i) y c)=some i.toNat:=by
 simp only [Instr.sliceBound,ag]
 have:av P (asIntOf (.int k i))=some (k,i):=rfl
 rw [this]
 simp only [Option.bind_some]
 rw [if_pos ⟨h1,h2⟩];rfl
theorem Fw {s:ByteArray} {n:Int} (h0:0<=n) (h1:n < (s.size:Int)):∃b,s[n.toNat]?=some b/\kP s n=(b.toNat:Int):=by
 have hlt:n.toNat < s.size:=by omega
 refine ⟨s[n.toNat],by simp [hlt],?_⟩
 unfold kP
 have hl:n.toNat < s.data.toList.length:=by simpa using hlt
 have:s.data.toList.getD n.toNat 0=s[n.toNat]:=by
  rw [List.getD_eq_getElem?_getD,List.getElem?_eq_getElem hl]
  rfl
 rw [this]
theorem uJ (t:TypeId) (x y:Value):Op.equal t x y=Op.equalIn (4+9996) t x y:=rfl
theorem qN {t:TypeId} (hu:P.underlying t=some .bool) (a b:Bool) (d:Nat):av P (Op.equalIn (d+1) t (.bool a) (.bool b))=some (a == b):=by
 simp only [Op.equalIn,ag,aF hu,Option.bind_some]
 rfl
theorem kX {op:BinOp} {t:TypeId} {x y:Operand} {a b:Bool}:av P (eqGuard op t x y (.bool a) (.bool b))=some ():=by
 cases op<;>rfl
theorem iP {op:BinOp} {t:TypeId} {x y:Operand} {a b:ByteArray}:av P (eqGuard op t x y (.string a) (.string b))=some ():=by
 cases op<;>rfl
theorem uK {t:TypeId} {a b:Bool} (hu:P.underlying t=some .bool):av P (binOp .eql t (.bool a) (.bool b))=some (.bool (a == b)):=by
 have e:binOp .eql t (.bool a) (.bool b)=(do pure (.bool (← Op.equal t (.bool a) (.bool b)))):=rfl
 rw [e,ag,uJ,qN hu a b (3+9996)]
 rfl
theorem uL {t:TypeId} {a b:Bool} (hu:P.underlying t=some .bool):av P (binOp .neq t (.bool a) (.bool b))=some (.bool (!(a == b))):=by
 have e:binOp .neq t (.bool a) (.bool b)=(do pure (.bool !(← Op.equal t (.bool a) (.bool b)))):=rfl
 rw [e,ag,uJ,qN hu a b (3+9996)]
 rfl
theorem tA {t:TypeId} {a b:Array Value} {r:Bool} (hr:av P (Op.equalIn (4+9996) t (.agg a) (.agg b))=some r):av P (binOp .eql t (.agg a) (.agg b))=some (.bool r):=by
 have e:binOp .eql t (.agg a) (.agg b)=(do pure (.bool (← Op.equal t (.agg a) (.agg b)))):=rfl
 rw [e,ag,uJ,hr]
 rfl
theorem tB {t:TypeId} {a b:Array Value} {r:Bool} (hr:av P (Op.equalIn (4+9996) t (.agg a) (.agg b))=some r):av P (binOp .neq t (.agg a) (.agg b))=some (.bool (!r)):=by
 have e:binOp .neq t (.agg a) (.agg b)=(do pure (.bool !(← Op.equal t (.agg a) (.agg b)))):=rfl
 rw [e,ag,uJ,hr]
 rfl
theorem jn {op:BinOp} {t:TypeId} {a b:ByteArray} (ho:op≠ .shl/\op≠ .shr):av P (binOp op t (.string a) (.string b))=av P (Op.stringOp op a b):=by
 cases op<;>first |rfl |(exact absurd rfl ho.1) |(exact absurd rfl ho.2)
section
variable {sh:AF} {K:Value->Prop} {dst:Option Tmp} {ty:TypeId} {pos:String} {after:Array Edge} {guard:Option (Nat × Bool)}
theorem Cp {op:BinOp} {t:TypeId} {x y:Operand} {yt:TypeId} {neg:Bool} {l:List LK} (hop:op= .eql/\neg=false\/op= .neq/\neg=true) (hfl:pP P 4 t=some l) (hg:P.eqGuardType P.depth t=false) (hag:er P t=true)
  (h1:gQ (.binOp op t x y yt) (.agg neg l) sh ts K):
  ∃v,af P ts h (.gen {dst:=dst,op:=.binOp op t x y yt,type:=ty,pos:=pos,after:=after,guard:=guard})=some (v,h)/\K v:=by
 simp only [gQ] at h1
 split at h1
 ·rename_i a b ha hb
  obtain ⟨hok,hbr⟩:=ai.1 h1
  simp only [Bool.and_eq_true] at hok
  obtain ⟨r,hr1,hr2⟩:=zw (P:=P) 4 t l 9996 hfl a.toList b.toList hok.1 hok.2
  simp only [qL,hag,cond_true,Array.toArray_toList] at hr1
  have hcl:∀z∈(Op.binOp op t x y yt).operands,ay (aj ts z)=true:=by
   simp only [Op.operands]
   intro z hz
   simp only [Array.mem_def,List.mem_cons,List.not_mem_nil,or_false] at hz
   rcases hz with rfl |rfl
   ·rw [ha];exact zx hok.1
   ·rw [hb];exact zx hok.2
  refine ⟨.bool (neg != r),fk hcl ?_ rfl,?_⟩
  ·have e:execOp (aj ts) {dst:=dst,op:=.binOp op t x y yt,type:=ty,pos:=pos,after:=after,guard:=guard}=(do pure (.value (← (do eqGuard op t x y (aj ts x) (aj ts y);binOp op t (aj ts x) (aj ts y))))):=rfl
   rw [e,ha,hb,ag,ag,DT hg (by rcases hop with ⟨rfl,_⟩ |⟨rfl,_⟩<;>simp)]
   rcases hop with ⟨rfl,rfl⟩ |⟨rfl,rfl⟩
   ·simp only [Option.bind_some,tA hr1]
    cases r<;>rfl
   ·simp only [Option.bind_some,tB hr1]
    cases r<;>rfl
  ·cases r with
   |true=>have:=hbr.1 (hr2.1 rfl);cases neg<;>exact this
   |false=>
    have hne:¬(a.toList=b.toList):=fun e=>by have:=hr2.2 e;cases this
    have:=hbr.2 hne
    cases neg<;>exact this
 ·exact h1.elim
theorem Lo (u:UnOp) (t:TypeId) (x:Operand) (hs:gQ (.unOp u t x) (lD P {dst:=dst,op:=.unOp u t x,type:=ty,pos:=pos,after:=after,guard:=guard}) sh ts K):
  ∃v,af P ts h (.gen {dst:=dst,op:=.unOp u t x,type:=ty,pos:=pos,after:=after,guard:=guard})=some (v,h)/\K v:=by
 have hgk:∀g,lD P {dst:=dst,op:=.unOp u t x,type:=ty,pos:=pos,after:=after,guard:=guard}=g->gQ (.unOp u t x) g sh ts K:=fun g e=>by rw [← e];exact hs
 unfold lD at hgk
 simp only at hgk
 cases u<;>simp only at hgk
 case not=>
  have h1:=hgk _ rfl
  simp only [gQ] at h1
  split at h1
  ·rename_i b hb
   exact ⟨_,fk (by simp [Op.operands,hb,ay,dD,aS]) (by simp only [execOp,hb];rfl) rfl,h1⟩
  ·exact h1.elim
 case neg=>
  have h1:=hgk _ rfl
  simp only [gQ] at h1
  split at h1
  ·rename_i k n hb
   exact ⟨_,fk (by simp [Op.operands,hb,ay,dD,aS]) (by simp only [execOp,hb];rfl) rfl,bY h1⟩
  ·exact h1.elim
 case xor=>
  have h1:=hgk _ rfl
  simp only [gQ] at h1
  split at h1
  ·rename_i k n hb
   exact ⟨_,fk (by simp [Op.operands,hb,ay,dD,aS]) (by simp only [execOp,hb];rfl) rfl,bY h1⟩
  ·exact h1.elim
 case plus=>exact (hgk _ rfl).elim
theorem JU (op:BinOp) (t:TypeId) (x y:Operand) (yt:TypeId) (hs:gQ (.binOp op t x y yt) (lD P {dst:=dst,op:=.binOp op t x y yt,type:=ty,pos:=pos,after:=after,guard:=guard}) sh ts K):
  ∃v,af P ts h (.gen {dst:=dst,op:=.binOp op t x y yt,type:=ty,pos:=pos,after:=after,guard:=guard})=some (v,h)/\K v:=by
 have hgk:∀g,lD P {dst:=dst,op:=.binOp op t x y yt,type:=ty,pos:=pos,after:=after,guard:=guard}=g->gQ (.binOp op t x y yt) g sh ts K:=fun g e=>by rw [← e];exact hs
 unfold lD at hgk
 simp only at hgk
 split at hgk
 ·rename_i hu
  cases op<;>simp only at hgk
  case eql=>
   have h1:=hgk _ rfl
   simp only [gQ] at h1
   split at h1
   ·rename_i a b ha hb
    refine ⟨_,fk (by simp [Op.operands,ha,hb,ay,dD,aS]) (v:=.bool (a == b)) ?_ rfl,h1⟩
    simp only [execOp,ha,hb,ag,kX,uK hu,Option.bind_some]
    rfl
   ·exact h1.elim
  case neq=>
   have h1:=hgk _ rfl
   simp only [gQ] at h1
   split at h1
   ·rename_i a b ha hb
    refine ⟨_,fk (by simp [Op.operands,ha,hb,ay,dD,aS]) (v:=.bool (!(a == b))) ?_ rfl,h1⟩
    simp only [execOp,ha,hb,ag,kX,uL hu,Option.bind_some]
    rfl
   ·exact h1.elim
  all_goals (have h1:=hgk _ rfl;exact h1.elim)
 ·rename_i hu
  have h1:=hgk _ rfl
  simp only [gQ] at h1
  split at h1
  ·rename_i a b ha hb
   have hcl:∀z∈(Op.binOp op t x y yt).operands,ay (aj ts z)=true:=by simp [Op.operands,ha,hb,ay,dD,aS]
   cases op<;>simp only [NS] at h1
   case add=>
    refine ⟨_,fk hcl (v:=.string (a++b)) ?_ rfl,h1.2⟩
    have:¬(((a.size+b.size:Nat):Int) > IntKind.i64.max):=by
     have h2:IntKind.i64.max=9223372036854775807:=by decide
     rw [h2];omega
    simp only [execOp,ha,hb,ag,iP,Option.bind_some,jn (op:=.add) ⟨by decide,by decide⟩,Op.stringOp,m7]
    rw [if_neg this]
    rfl
   case eql=>
    refine ⟨_,fk hcl (v:=.bool (a.toList == b.toList)) ?_ rfl,?_⟩
    ·simp only [execOp,ha,hb,ag,iP,Option.bind_some,jn (P:=P) (op:=.eql) ⟨by decide,by decide⟩,Op.stringOp]
     rfl
    ·have:=lS h1
     rw [← beq_toListBytes]
     by_cases hab:a=b
     ·have e:(a == b)=true:=(bytes_beq a b).2 hab
      rw [e];simpa [hab] using this
     ·have e:(a == b)=false:=by
       cases hc:a == b with
       |false=>rfl
       |true=>exact absurd ((bytes_beq a b).1 hc) hab
      rw [e];simpa [hab] using this
   case neq=>
    refine ⟨_,fk hcl (v:=.bool (!(a.toList == b.toList))) ?_ rfl,?_⟩
    ·simp only [execOp,ha,hb,ag,iP,Option.bind_some,jn (P:=P) (op:=.neq) ⟨by decide,by decide⟩,Op.stringOp]
     rfl
    ·have:=DQ (n:=true) (K:=K) h1
     rw [← beq_toListBytes]
     by_cases hab:a=b
     ·have e:(a == b)=true:=(bytes_beq a b).2 hab
      rw [e];simpa [hab] using this
     ·have e:(a == b)=false:=by
       cases hc:a == b with
       |false=>rfl
       |true=>exact absurd ((bytes_beq a b).1 hc) hab
      rw [e];simpa [hab] using this
   all_goals exact h1.elim
  ·exact h1.elim
 ·rename_i hu
  have hag:er P t=true:=by simp [er,hu]
  split at hgk
  ·rename_i l hfl hg
   exact Cp (.inl ⟨rfl,rfl⟩) hfl hg hag (hgk _ rfl)
  ·rename_i l hfl hg
   exact Cp (.inr ⟨rfl,rfl⟩) hfl hg hag (hgk _ rfl)
  ·have h1:=hgk _ rfl;exact h1.elim
 ·rename_i hu
  have hag:er P t=true:=by simp [er,hu]
  split at hgk
  ·rename_i l hfl hg
   exact Cp (.inl ⟨rfl,rfl⟩) hfl hg hag (hgk _ rfl)
  ·rename_i l hfl hg
   exact Cp (.inr ⟨rfl,rfl⟩) hfl hg hag (hgk _ rfl)
  ·have h1:=hgk _ rfl;exact h1.elim
 ·have h1:=hgk _ rfl;exact h1.elim
theorem JV (t:TypeId) (x i:Operand) (hs:gQ (.index t x i) (lD P {dst:=dst,op:=.index t x i,type:=ty,pos:=pos,after:=after,guard:=guard}) sh ts K):
  ∃v,af P ts h (.gen {dst:=dst,op:=.index t x i,type:=ty,pos:=pos,after:=after,guard:=guard})=some (v,h)/\K v:=by
 have hgk:∀g,lD P {dst:=dst,op:=.index t x i,type:=ty,pos:=pos,after:=after,guard:=guard}=g->gQ (.index t x i) g sh ts K:=fun g e=>by rw [← e];exact hs
 unfold lD at hgk
 simp only at hgk
 split at hgk
 ·rename_i hu
  have h1:=hgk _ rfl
  simp only [gQ] at h1
  split at h1
  ·rename_i s k n hs' hn
   obtain ⟨b,hb1,hb2⟩:=Fw h1.1 h1.2.1
   refine ⟨_,fk (by simp [Op.operands,hs',hn,ay,dD,aS]) (v:=.int .u8 (kP s n)) ?_ rfl,bY h1.2.2⟩
   have:av P (asIntOf (.int k n))=some (k,n):=rfl
   simp only [execOp,Instr.index,hs',hn,ag,this,Option.bind_some,aF hu,if_pos h1.1,hb1,hb2]
   rfl
  ·exact h1.elim
 ·rename_i len e hu
  have key:∀(size:Nat) (d:TypeDesc) (inf:TypeInfo),P.underlying e=some d->er P e=false->P.info? e=some inf->inf.size=size->gQ (.index t x i) (.gF len size) sh ts K->
    ∃v,af P ts h (.gen {dst:=dst,op:=.index t x i,type:=ty,pos:=pos,after:=after,guard:=guard})=some (v,h)/\K v:=by
   intro size d inf hd ha hi hsz h1
   simp only [gQ] at h1
   split at h1
   ·rename_i cs k n a hcs hn
    obtain ⟨hsc,h0,hlt,v,hv1,hv2⟩:=ai.1 h1
    have hmem:a.enc v∈cs.toList:=List.mem_of_getElem? hv1
    have hsv:=List.all_eq_true.1 hsc _ hmem
    have hclv:ay (a.enc v)=true:=by
     have:dD (a.enc v)=true:=by
      revert hsv
      generalize a.enc v=z
      intro hsv
      cases z<;>simp_all [aS,dD]
     revert this hsv
     generalize a.enc v=z
     intro hsv this
     cases z<;>simp_all [aS,dD,ay]
    have hcl:∀z∈(Op.index t x i).operands,ay (aj ts z)=true:=by
     simp only [Op.operands]
     intro z hz
     simp only [Array.mem_def,List.mem_cons,List.not_mem_nil,or_false] at hz
     rcases hz with rfl |rfl
     ·rw [hcs];simpa [ay,dD] using hsc
     ·rw [hn];rfl
    refine ⟨a.enc v,fk hcl ?_ hclv,hv2⟩
    have h2:av P (asIntOf (.int k n))=some (k,n):=rfl
    have h3:cs[n.toNat]?=some (a.enc v):=by simpa using hv1
    simp only [execOp,Instr.index,hcs,hn,ag,h2,Option.bind_some,aF hu,m7]
    rw [if_pos ⟨h0,hlt⟩]
    simp only [ag,mu hi,Option.bind_some,hsz,Nat.mul_one,part,sM hd,ha,Bool.false_eq_true,if_false,h3]
    rfl
   ·exact h1.elim
  split at hgk
  ·rename_i inf k hi he
   exact key _ _ inf he (by simp [er,he]) hi rfl (hgk _ rfl)
  ·rename_i inf hi he
   exact key _ _ inf he (by simp [er,he]) hi rfl (hgk _ rfl)
  ·rename_i inf hi he
   exact key _ _ inf he (by simp [er,he]) hi rfl (hgk _ rfl)
  ·have h1:=hgk _ rfl;exact h1.elim
 ·have h1:=hgk _ rfl;exact h1.elim
theorem JW (t:TypeId) (x:Operand) (lo hi mx:Option Operand) (hs:gQ (.slice t x lo hi mx) (lD P {dst:=dst,op:=.slice t x lo hi mx,type:=ty,pos:=pos,after:=after,guard:=guard}) sh ts K):
  ∃v,af P ts h (.gen {dst:=dst,op:=.slice t x lo hi mx,type:=ty,pos:=pos,after:=after,guard:=guard})=some (v,h)/\K v:=by
 have hgk:∀g,lD P {dst:=dst,op:=.slice t x lo hi mx,type:=ty,pos:=pos,after:=after,guard:=guard}=g->gQ (.slice t x lo hi mx) g sh ts K:=fun g e=>by rw [← e];exact hs
 unfold lD at hgk
 simp only at hgk
 cases mx with
 |some m=>have h1:=hgk _ rfl;exact h1.elim
 |none=>
  simp only at hgk
  split at hgk
  ·rename_i hu
   have h1:=hgk _ rfl
   simp only [gQ] at h1
   split at h1
   ·rename_i s hs'
    obtain ⟨l,hl,hlo⟩:=wZ h1
    obtain ⟨u,⟨g1,g2,g3,g4⟩,hhi⟩:=wZ hl
    have hsz:av P (Instr.sliceBounds false s.size s.size (lo.map (aj ts)) (hi.map (aj ts)) none)=some (l.toNat,u.toNat,s.size):=by
     rcases hhi with ⟨rfl,rfl⟩ |⟨x2,k2,rfl,hk2⟩<;>rcases hlo with ⟨rfl,rfl⟩ |⟨x1,k1,rfl,hk1⟩
     ·simp [-bind_pure_comp,-pure_bind,Instr.sliceBounds,ag,bL]
     ·simp [-bind_pure_comp,-pure_bind,Instr.sliceBounds,ag,bL,hk1,fZ g1 g2]
     ·simp [-bind_pure_comp,-pure_bind,Instr.sliceBounds,ag,bL,hk2,fZ (show 0<=u by omega) g3]
     ·have g2':l<=(u.toNat:Int):=by omega
      simp [-bind_pure_comp,-pure_bind,Instr.sliceBounds,ag,bL,hk1,hk2,fZ (show 0<=u by omega) g3,fZ g1 g2']
    refine ⟨_,fk ?_ (v:=.string (s.extract l.toNat u.toNat)) ?_ rfl,g4⟩
    ·simp only [Op.operands]
     intro z hz
     have hcs:∀w,(∃k n,w=Value.int k n)\/(∃s,w=Value.string s)->ay w=true:=by
      rintro w (⟨k,n,rfl⟩ |⟨s,rfl⟩)<;>rfl
     refine hcs _ ?_
     rcases hlo with ⟨rfl,rfl⟩ |⟨x1,k1,rfl,hk1⟩<;>rcases hhi with ⟨rfl,rfl⟩ |⟨x2,k2,rfl,hk2⟩<;>simp at hz
     ·subst hz;exact .inr ⟨_,hs'⟩
     ·rcases hz with rfl |rfl
      ·exact .inr ⟨_,hs'⟩
      ·exact .inl ⟨_,_,hk2⟩
     ·rcases hz with rfl |rfl
      ·exact .inr ⟨_,hs'⟩
      ·exact .inl ⟨_,_,hk1⟩
     ·rcases hz with rfl |rfl |rfl
      ·exact .inr ⟨_,hs'⟩
      ·exact .inl ⟨_,_,hk1⟩
      ·exact .inl ⟨_,_,hk2⟩
    ·simp only [execOp,Instr.sliceAt,Instr.slice,hs',ag,aF hu,Option.bind_some,Option.map_none,Option.isSome_none,Bool.false_eq_true,if_false,hsz]
     rfl
   ·exact h1.elim
  ·have h1:=hgk _ rfl;exact h1.elim
theorem Fx (s t:TypeId) (x:Operand) (hs:gQ (.convert s t x) (lD P {dst:=dst,op:=.convert s t x,type:=ty,pos:=pos,after:=after,guard:=guard}) sh ts K):
  ∃v,af P ts h (.gen {dst:=dst,op:=.convert s t x,type:=ty,pos:=pos,after:=after,guard:=guard})=some (v,h)/\K v:=by
 have hgk:∀g,lD P {dst:=dst,op:=.convert s t x,type:=ty,pos:=pos,after:=after,guard:=guard}=g->gQ (.convert s t x) g sh ts K:=fun g e=>by rw [← e];exact hs
 unfold lD at hgk
 simp only at hgk
 split at hgk
 ·rename_i k0 k hus hut
  have h1:=hgk _ rfl
  simp only [gQ] at h1
  split at h1
  ·rename_i k1 n hn
   refine ⟨_,fk (by simp [Op.operands,hn,ay,dD,aS]) (v:=.int k (k.wrap n)) ?_ rfl,bY h1⟩
   simp only [execOp,hn,convert,ag,aF hus,aF hut,Option.bind_some]
   rfl
  ·exact h1.elim
 ·rename_i hus hut
  have h1:=hgk _ rfl
  simp only [gQ] at h1
  split at h1
  ·rename_i s' hn
   refine ⟨_,fk (by simp [Op.operands,hn,ay,dD,aS]) (v:=.string s') ?_ rfl,h1⟩
   simp only [execOp,hn,convert,ag,aF hus,aF hut,Option.bind_some]
   rfl
  ·exact h1.elim
 ·have h1:=hgk _ rfl;exact h1.elim
theorem Lp (c:Call) (hs:gQ (.call c) (lD P {dst:=dst,op:=.call c,type:=ty,pos:=pos,after:=after,guard:=guard}) sh ts K):
  ∃v,af P ts h (.gen {dst:=dst,op:=.call c,type:=ty,pos:=pos,after:=after,guard:=guard})=some (v,h)/\K v:=by
 have hgk:∀g,lD P {dst:=dst,op:=.call c,type:=ty,pos:=pos,after:=after,guard:=guard}=g->gQ (.call c) g sh ts K:=fun g e=>by rw [← e];exact hs
 unfold lD at hgk
 simp only at hgk
 obtain ⟨callee,args,argTypes⟩:=c
 simp only at hgk
 split at hgk
 ·rename_i t l hty
  have hty0:argTypes[0]?=some t:=by
   have:argTypes.toList[0]?=some t:=by rw [hty];rfl
   simpa using this
  split at hgk
  ·rename_i hu
   have h1:=hgk _ rfl
   simp only [gQ] at h1
   split at h1
   ·rename_i x hx
    split at h1
    ·rename_i s hs'
     refine ⟨_,fk (by
      intro z hz
      simp only [Op.operands,Call.operands,Array.mem_append] at hz
      rcases hz with hz |hz
      ·simp at hz
      ·have:z∈args.toList:=by simpa using hz
       rw [hx] at this
       simp at this
       subst this
       rw [hs'];rfl) (v:=.int .i64 (s.size:Int)) ?_ rfl,h1⟩
     have ha:(args.map (aj ts))[0]?=some (.string s):=by
      have:(args.map (aj ts)).toList=[.string s]:=by simp [hx,hs']
      have h2:=congrArg (fun l=>l[0]?) this
      simpa using h2
     simp only [execOp,resolve,invoke,builtin,Builtin.len_,ag,bL,Option.bind_some,hty0,ha,aF hu]
     rfl
    ·exact h1.elim
   ·exact h1.elim
  ·have h1:=hgk _ rfl;exact h1.elim
 ·have h1:=hgk _ rfl
  simp only [gQ] at h1
  split at h1
  ·rename_i x r hx
   split at h1
   ·rename_i k n hn
    have hall:=qM h1
    obtain ⟨m,hm1,hm2⟩:=zy (P:=P) (f:=Builtin.max2) (fun k k' x y=>rfl) (k:=k) h1
    refine ⟨.int k m,fk (by
      intro z hz
      simp only [Op.operands,Call.operands,Array.mem_append] at hz
      rcases hz with hz |hz
      ·simp at hz
      ·have:z∈args.toList:=by simpa using hz
       rw [hx] at this
       rcases List.mem_cons.1 this with rfl |this
       ·rw [hn];rfl
       ·obtain ⟨k',y,hy⟩:=hall z this
        rw [hy];rfl) ?_ rfl,bY hm2⟩
    have ha:(args.map (aj ts)).toList= .int k n :: r.map (aj ts):=by simp [hx,hn]
    simp only [execOp,resolve,invoke,builtin,Builtin.max_,ag,bL,Option.bind_some,ha,hm1]
   ·exact h1.elim
  ·exact h1.elim
 ·have h1:=hgk _ rfl
  simp only [gQ] at h1
  split at h1
  ·rename_i x r hx
   split at h1
   ·rename_i k n hn
    have hall:=qM h1
    obtain ⟨m,hm1,hm2⟩:=zy (P:=P) (f:=Builtin.min2) (fun k k' x y=>rfl) (k:=k) h1
    refine ⟨.int k m,fk (by
      intro z hz
      simp only [Op.operands,Call.operands,Array.mem_append] at hz
      rcases hz with hz |hz
      ·simp at hz
      ·have:z∈args.toList:=by simpa using hz
       rw [hx] at this
       rcases List.mem_cons.1 this with rfl |this
       ·rw [hn];rfl
       ·obtain ⟨k',y,hy⟩:=hall z this
        rw [hy];rfl) ?_ rfl,bY hm2⟩
    have ha:(args.map (aj ts)).toList= .int k n :: r.map (aj ts):=by simp [hx,hn]
    simp only [execOp,resolve,invoke,builtin,Builtin.min_,ag,bL,Option.bind_some,ha,hm1]
   ·exact h1.elim
  ·exact h1.elim
 ·have h1:=hgk _ rfl;exact h1.elim
end
theorem tC {o:Oper} {sh:AF} {K:Value->Prop} (hs:gQ o.op (lD P o) sh ts K):∃v,af P ts h (.gen o)=some (v,h)/\K v:=by
 obtain ⟨dst,op,ty,pos,after,guard⟩:=o
 cases op
 case unOp u t x=>exact Lo u t x hs
 case binOp op t x y yt=>exact JU op t x y yt hs
 case index t x i=>exact JV t x i hs
 case slice t x lo hi mx=>exact JW t x lo hi mx hs
 case convert s t x=>exact Fx s t x hs
 case call c=>exact Lp c hs
 all_goals exact hs.elim
end Go.Ev
namespace Go.Ev
open Go Go.RowKit
variable {P:Program} {ts:List Value} {h:H}
theorem DU {n:Nat} {p:Addr} {xs:List Value} {K:H->Prop} (hs:JL n p xs h K):
  ∃tight cs e rows,xs.length=n/\(xs.all (·.oneCell'))=true/\p.spot=none/\h.get p.block=some (.cells tight cs e rows)/\p.off+n<=cs.length/\
   K (h.set p.block (.cells tight (cs.take p.off++xs++cs.drop (p.off+n)) e rows)):=by
 obtain ⟨h1,tight,cs,e,rows,h2,h3,h4⟩:=ai.1 hs
 simp only [Bool.and_eq_true] at h1
 obtain ⟨⟨hl,ho⟩,hsp⟩:=h1
 have hl':=Nat.eq_of_beq_eq_true hl
 refine ⟨tight,cs,e,rows,hl',ho,qK hsp,h2,h3,?_⟩
 have:=jV h4
 unfold wr at this
 rwa [hl'] at this
theorem rL {sh:AF} {op:j8} {K:Value->H->Prop} (hs:kV P sh op ts h K):∃v h',af P ts h op=some (v,h')/\K v h':=by
 cases op
 case move x=>exact ⟨_,_,rfl,hs⟩
 case pick c a b=>
  simp only [kV] at hs
  simp only [af]
  split at hs
  ·rename_i t ht
   rw [ht]
   rcases gu hs with ⟨rfl,h⟩ |⟨rfl,h⟩
   ·exact ⟨_,_,rfl,h⟩
   ·exact ⟨_,_,rfl,h⟩
  ·exact hs.elim
 case alloc e zero=>exact ⟨_,_,rfl,jV hs⟩
 case box e size x=>
  simp only [kV] at hs
  obtain ⟨h1,h2⟩:=ai.1 hs
  exact ⟨_,_,by simp only [af];rw [if_pos (Nat.eq_of_beq_eq_true h1)],jV h2⟩
 case build zero ps=>
  simp only [kV] at hs
  split at hs
  ·rename_i l hl
   exact ⟨_,_,by simp only [af,hl,Option.map_some],hs⟩
  ·exact hs.elim
 case buildSlice e n size zero ps=>
  simp only [kV] at hs
  split at hs
  ·rename_i l hl
   exact ⟨_,_,by simp only [af,hl,Option.map_some],jV hs⟩
  ·exact hs.elim
 case load agg n a=>
  simp only [kV] at hs
  split at hs
  ·rename_i p hp
   obtain ⟨cs,v,h1,h2,h3⟩:=zo hs
   refine ⟨v,h,?_,h3⟩
   simp only [af,hp,h1]
   cases agg with
   |true=>simp only [if_true,Option.some.injEq] at h2 ⊢;rw [h2]
   |false=>simp only [Bool.false_eq_true,if_false] at h2 ⊢;rw [h2];rfl
  ·exact hs.elim
 case store n a x=>
  simp only [kV] at hs
  split at hs
  ·rename_i p hp
   obtain ⟨tight,cs,e,rows,h1,h2,h3,h4,h5,h6⟩:=DU hs
   refine ⟨_,_,?_,h6⟩
   simp only [af,hp,h3,h4]
   have hc:(decide ((aX (aj ts x)).length=n) && Nat.ble (p.off+n) cs.length && (aX (aj ts x)).all (·.oneCell'))=true:=by
    simp only [Bool.and_eq_true,decide_eq_true_eq,Nat.ble_eq]
    exact ⟨⟨h1,h5⟩,h2⟩
   rw [if_pos hc]
  ·exact hs.elim
 case nilCheck x=>
  simp only [kV] at hs
  simp only [af]
  split at hs
  ·rename_i a ha
   obtain ⟨b,o,rfl,h1⟩:=hs
   rw [ha]
   exact ⟨_,_,rfl,h1⟩
  ·rename_i p _ hp
   rw [hp];exact ⟨_,_,rfl,hs⟩
  ·rename_i f a b hp
   rw [hp];exact ⟨_,_,rfl,hs⟩
  ·rename_i f a b hp
   rw [hp];exact ⟨_,_,rfl,hs⟩
  ·exact hs.elim
 case lp op x y=>
  simp only [kV] at hs
  simp only [af]
  split at hs
  ·rename_i k a k' b ha hb
   obtain ⟨h1,v,h2,h3⟩:=zm hs
   rw [ha,hb]
   simp only
   have hc:(decide (k=k') || decide (op=BinOp.shl) || decide (op=BinOp.shr))=true:=by
    rcases h1 with h1 |h1 |h1<;>simp [h1]
   simp only [Bool.or_eq_true,decide_eq_true_eq] at hc ⊢
   first |rw [if_pos hc,h2] |rw [if_pos h1,h2] |(rw [if_pos (by rcases h1 with h1 |h1 |h1<;>simp [h1]),h2])
   exact ⟨_,_,rfl,h3⟩
  ·exact hs.elim
 case gen o=>
  obtain ⟨v,h1,h2⟩:=tC (P:=P) (h:=h) (K:=fun v=>K v h) hs
  exact ⟨v,h,h1,h2⟩
 case fieldAddr off x=>
  simp only [kV] at hs
  simp only [af]
  split at hs
  ·rename_i p hp
   obtain ⟨h1,h2⟩:=ai.1 hs
   rw [hp]
   simp only
   rw [if_pos (qK h1)]
   exact ⟨_,_,rfl,h2⟩
  ·exact hs.elim
 case field agg n off x=>
  simp only [kV] at hs
  simp only [af]
  split at hs
  ·rename_i cs hcs
   obtain ⟨h1,h2⟩:=ai.1 hs
   rw [hcs]
   simp only
   rw [if_pos (by simpa [Nat.ble_eq] using h1)]
   cases agg with
   |true=>exact ⟨_,_,rfl,h2⟩
   |false=>
    simp only at h2
    split at h2
    ·rename_i v hv
     refine ⟨v,h,?_,h2⟩
     simp only [Bool.false_eq_true,if_false,hv,one,Option.map_some]
    ·exact h2.elim
  ·exact hs.elim
 case qo size x i=>
  simp only [kV] at hs
  simp only [af]
  split at hs
  ·rename_i a len c k n ha hn
   obtain ⟨b,o,rfl,h1,h2,h3⟩:=hs
   rw [ha,hn]
   simp only
   rw [if_pos ⟨h1,h2,trivial⟩]
   exact ⟨_,_,rfl,h3⟩
  ·exact hs.elim
 case gF len size x i=>
  simp only [kV] at hs
  simp only [af]
  split at hs
  ·rename_i a k n ha hn
   obtain ⟨h0,h1,h2,h3⟩:=ai.1 hs
   rw [ha,hn]
   simp only
   rw [if_pos ⟨h1,h2,qK h0⟩]
   exact ⟨_,_,rfl,h3⟩
  ·exact hs.elim
 case gI size x lo hi=>
  simp only [kV] at hs
  obtain ⟨v,h',h1,h2⟩:=zn hs
  rw [JS] at h1
  exact ⟨v,h',h1,h2⟩
 case oC f a b=>exact ⟨_,_,rfl,hs⟩
 case mR t x=>exact ⟨_,_,rfl,hs⟩
 case extract x i=>
  simp only [kV] at hs
  simp only [af]
  split at hs
  ·rename_i vs hvs
   split at hs
   ·rename_i v hv
    rw [hvs]
    simp only [hv,Option.map_some]
    exact ⟨_,_,rfl,hs⟩
   ·exact hs.elim
  ·exact hs.elim
 case qp x=>
  simp only [kV] at hs
  simp only [af]
  split at hs
  ·rename_i hv;rw [hv];exact ⟨_,_,rfl,hs⟩
  ·exact hs.elim
 case nK kind neg x y=>
  simp only [kV] at hs
  simp only [af]
  split at hs
  ·rename_i a hx hy
   rw [hx,hy]
   cases a with
   |none=>exact ⟨_,_,rfl,hs⟩
   |some a=>exact ⟨_,_,rfl,hs⟩
  ·rename_i b _ hx hy
   rw [hx,hy]
   exact ⟨_,_,rfl,hs⟩
  ·rename_i a _ _ _ _ hx hy
   rw [hx,hy]
   cases a with
   |none=>exact ⟨_,_,rfl,hs⟩
   |some a=>exact ⟨_,_,rfl,hs⟩
  ·rename_i hx hy
   rw [hx,hy]
   exact ⟨_,_,rfl,hs⟩
  ·rename_i hx hy
   rw [hx,hy]
   refine ⟨_,_,rfl,?_⟩
   simpa using hs
  ·exact hs.elim
 all_goals
  simp only [kV] at hs
  obtain ⟨v,h',h1,h2⟩:=zn hs
  exact ⟨v,h',h1,h2⟩
section
variable {W:Rec} {Γ:Hints}
theorem zz {f:Value} {args:List Value} {sh:AF} {K Kp:Value->H->Prop} (hs:JM W Γ f args sh h K Kp):
  (∃v rc h',W.call f args .dF h=some (.ret v,rc,h')/\K v h')\/(∃v rc h',W.call f args .dF h=some (.panic v,rc,h')/\Kp v h'):=by
 unfold JM at hs
 split at hs
 ·obtain ⟨v,h',⟨rc,h1⟩,h2⟩:=mq hs
  exact .inl ⟨v,rc,h',h1,h2⟩
 ·rcases hs with hs |⟨v,h',⟨rc,h1⟩,h2⟩
  ·obtain ⟨v,h',⟨rc,h1⟩,h2⟩:=mq hs
   exact .inl ⟨v,rc,h',h1,h2⟩
  ·exact .inr ⟨v,rc,h',h1,h2⟩
def gX (ts:List Value) (df:List fF) (rc:RC) (rd:Bool):aD:={tmps:=ts,defers:=df,rc:=rc,round:=rd}
theorem JX {rd:Bool} {o:AO} {df:List fF} {rc:RC} {K:List Value->List fF->H->Prop} {Kp:Value->H->Prop} (hw:aq o.guard ts=true) (hs:OK P W Γ rd o ts df h K Kp):
  (∃ts' df' h',cG P W o (gX ts df rc rd) h=some (.on (gX ts' df' rc rd) h')/\K ts' df' h')\/(∃v h',cG P W o (gX ts df rc rd) h=some (.panic v (gX ts df rc rd) h')/\Kp v h'):=by
 have hw':aq o.guard (gX ts df rc rd).tmps=true:=hw
 unfold cG
 rw [if_pos hw']
 unfold OK at hs
 have other:∀(hx:∃v h',af P ts h o.op=some (v,h')/\K (dB o.dst v ts) df h'),
   ∃ts' df' h',(match af P (gX ts df rc rd).tmps h o.op with
    |some (v,h')=>some (Step.on ((gX ts df rc rd).put o.dst v) h')
    |none=>none)=some (.on (gX ts' df' rc rd) h')/\K ts' df' h':=by
  rintro ⟨v,h',h1,h2⟩
  refine ⟨dB o.dst v ts,df,h',?_,h2⟩
  show (match af P ts h o.op with
    |some (v,h')=>some (Step.on ((gX ts df rc rd).put o.dst v) h')
    |none=>none)=_
  rw [h1];rfl
 cases hop:o.op<;>rw [hop] at hs other<;>simp only at hs ⊢
 case call f args=>
  rcases zz hs with ⟨v,rc',h',h1,h2⟩ |⟨v,rc',h',h1,h2⟩
  ·left
   refine ⟨dB o.dst v ts,df,h',?_,fO (K:=fun ts'=>K ts' df h') h2⟩
   simp only [gX] at h1 ⊢;rw [h1];rfl
  ·right
   refine ⟨v,h',?_,h2⟩
   simp only [gX] at h1 ⊢;rw [h1]
 case dA f args=>
  rcases zz hs with ⟨v,rc',h',h1,h2⟩ |⟨v,rc',h',h1,h2⟩
  ·left
   refine ⟨dB o.dst v ts,df,h',?_,fO (K:=fun ts'=>K ts' df h') h2⟩
   simp only [gX] at h1 ⊢;rw [h1];rfl
  ·right
   refine ⟨v,h',?_,h2⟩
   simp only [gX] at h1 ⊢;rw [h1]
 case defer f args=>
  left
  split at hs
  ·rename_i g x y hf
   refine ⟨_,_,h,?_,hs⟩
   simp only [gX,hf];rfl
  ·exact hs.elim
 case panic x=>
  right
  split at hs
  ·rename_i t v hv
   refine ⟨_,h,?_,hs⟩
   simp only [gX,hv]
  ·exact hs.elim
 all_goals
  left
  obtain ⟨v,h',h1,h2⟩:=rL hs
  exact other ⟨v,h',h1,fO (K:=fun ts'=>K ts' df h') h2⟩
theorem vL {rd:Bool} {rc:RC}:∀{l:List AO} {ts:List Value} {df:List fF} {h:H} {Q:aM->List Value->List fF->H->Prop},JN P W Γ rd l ts df h Q->
  ∃x ts' df' h',eW P W l (gX ts df rc rd) h=some (x,gX ts' df' rc rd,h')/\Q x ts' df' h'
 | [],ts,df,h,Q,hs=>⟨.normal,ts,df,h,rfl,hs⟩
 |o :: r,ts,df,h,Q,hs=>by
  simp only [JN] at hs
  simp only [eW]
  rcases kJ hs with ⟨hw,hs⟩ |⟨hw,hs⟩
  ·rcases JX (rc:=rc) hw hs with ⟨ts',df',h',h1,h2⟩ |⟨v,h',h1,h2⟩
   ·rw [h1];exact vL h2
   ·rw [h1];exact ⟨_,_,_,_,rfl,h2⟩
  ·have h1:cG P W o (gX ts df rc rd) h=some (.on (gX (dB o.dst undef ts) df rc rd) h):=by
    unfold cG
    rw [if_neg (by show ¬aq o.guard ts=true;rw [hw];simp)]
    rfl
   rw [h1];exact vL hs
theorem DV:∀{l:List AO} {G:List (List Value × H)} {ts:List Value} {h:H} {K:List (List Value × H)->List Value->H->Prop},KW P W Γ l G ts h K->
  ∃G' ts' h',trace P W l ts h=some G'/\K (G'.reverse++G) ts' h'/\G'[l.length]?=some (ts',h')/\G'.length=l.length+1
 | [],G,ts,h,K,hs=>⟨[(ts,h)],ts,h,rfl,hs,rfl,rfl⟩
 |o :: r,G,ts,h,K,hs=>by
  simp only [KW] at hs
  simp only [trace]
  have go:∀v h',iE P W o ts h=some (v,h')->KW P W Γ r ((ts,h) :: G) (dB o.dst v ts) h' K->∃G' ts' h'',(match iE P W o ts h with
     |some (v,h')=>(trace P W r (dB o.dst v ts) h').map ((ts,h) :: ·)
     |none=>none)=some G'/\K (G'.reverse++G) ts' h''/\G'[(o :: r).length]?=some (ts',h'')/\G'.length=(o :: r).length+1:=by
   intro v h' hv hr
   obtain ⟨G',ts',h'',h1,h2,h3,h4⟩:=DV hr
   refine ⟨(ts,h) :: G',ts',h'',?_,by simpa using h2,by simpa using h3,by simp [h4]⟩
   rw [hv];simp [h1]
  rcases kJ hs with ⟨hw,hs⟩ |⟨hw,hs⟩
  ·have other:∀{v h'},af P ts h o.op=some (v,h')->(∀f a,o.op≠ .call f a)->(∀f a,o.op≠ .dA f a)->iE P W o ts h=some (v,h'):=by
    intro v h' hx hc hp
    unfold iE
    rw [if_pos hw]
    cases hop:o.op<;>rw [hop] at hx hc hp<;>simp only at hx ⊢<;>first |exact hx |exact absurd rfl (hc _ _) |exact absurd rfl (hp _ _)
   cases hop:o.op<;>rw [hop] at hs other<;>simp only at hs
   case call f args=>
    obtain ⟨v,h',⟨rc,h1⟩,h2⟩:=mq hs
    exact go v h' (by unfold iE;rw [if_pos hw,hop];simp only;rw [h1]) (fO (K:=fun ts'=>KW P W Γ r ((ts,h) :: G) ts' h' K) h2)
   case dA f args=>
    obtain ⟨v,h',⟨rc,h1⟩,h2⟩:=mq hs
    exact go v h' (by unfold iE;rw [if_pos hw,hop];simp only;rw [h1]) (fO (K:=fun ts'=>KW P W Γ r ((ts,h) :: G) ts' h' K) h2)
   all_goals
    obtain ⟨v,h',h1,h2⟩:=rL hs
    exact go v h' (other h1 (fun _ _ e=>by cases e) (fun _ _ e=>by cases e)) (fO (K:=fun ts'=>KW P W Γ r ((ts,h) :: G) ts' h' K) h2)
  ·exact go undef h (by unfold iE;rw [if_neg (by rw [hw];simp)]) hs
theorem Bv {ops:List AO} {G:List (List Value × H)}:∀{cs:List (Nat × Nat)} {K:Prop},ML ops G cs K->(cs.all (gG ops G))=true/\K
 | [],K,h=>⟨rfl,h⟩
 |c :: cs,K,hs=>by
  obtain ⟨h1,h2⟩:=hs
  obtain ⟨h3,h4⟩:=Bv h2
  refine ⟨?_,h4⟩
  simp only [List.all_cons,h3,Bool.and_true]
  split at h1
  ·rename_i o ts h h' _ e1 e2 e3
   simp only [gG,e1,e2,e3]
   rcases kJ h1 with ⟨hw,h1⟩ |⟨hw,h1⟩
   ·rw [if_pos hw]
    cases hop:o.op<;>rw [hop] at h1<;>simp only at h1 ⊢<;>try exact h1.elim
    split at h1
    ·rename_i p hp;rw [hp];exact h1
    ·exact h1.elim
   ·rw [if_neg (by rw [hw];simp)]
  ·exact h1.elim
theorem jW {p:Nat->Bool} {base:Nat}:∀{F:List (Nat × eo)} {h:H} {K:H->Prop},uG p base F h K->K (br p base F h)
 | [],_,_,hs=>hs
 |(j,b) :: F,h,K,hs=>by
  simp only [uG] at hs
  simp only [br]
  split at hs
  ·rename_i hp;rw [hp];exact jW (jV hs)
  ·rename_i hp;rw [hp];exact jW hs
theorem Fy {n:Nat} {op:j8} {ts:List Value} {K:Value->Option eo->Prop} (hs:JO n op ts K):∃v ob,eN n ts op=some (v,ob)/\K v ob:=by
 unfold JO at hs
 split at hs
 ·exact ⟨_,_,rfl,hs⟩
 ·obtain ⟨h1,h2⟩:=ai.1 hs
  exact ⟨_,_,by simp only [eN];rw [if_pos (Nat.eq_of_beq_eq_true h1)],h2⟩
 ·split at hs
  ·rename_i l hl
   exact ⟨_,_,by simp only [eN,hl,Option.map_some],hs⟩
  ·exact hs.elim
 ·split at hs
  ·rename_i h1 h2
   obtain ⟨g1,g2,g3,g4,g5⟩:=hs
   exact ⟨_,_,by simp only [eN,h1,h2];rw [if_pos ⟨g1,g2,g3,g4⟩],g5⟩
  ·exact hs.elim
 ·exact hs.elim
theorem Bw {b:List Nat} {base:Nat}:∀{l:List AO} {i:Nat} {G:List LS} {s:LS} {K:List LS->LS->Prop},nA P W Γ b base l i G s K->
  ∃G' s',dz P W b base l i s=some G'/\K (G'.reverse++G) s'/\G'[l.length]?=some s'/\G'.length=l.length+1/\G'[0]?=some s
 | [],i,G,s,K,hs=>⟨[s],s,rfl,hs,rfl,rfl,rfl⟩
 |o :: r,i,G,s,K,hs=>by
  simp only [nA] at hs
  simp only [dz]
  have go:∀s1,gq P W b base i o s=some s1->nA P W Γ b base r (i+1) (s :: G) s1 K->∃G' s',(match gq P W b base i o s with
    |some s'=>(dz P W b base r (i+1) s').map (s :: ·)
    |none=>none)=some G'/\K (G'.reverse++G) s'/\G'[(o :: r).length]?=some s'/\G'.length=(o :: r).length+1/\G'[0]?=some s:=by
   intro s1 hv hr
   obtain ⟨G',s',h1,h2,h3,h4,h5⟩:=Bw hr
   refine ⟨s :: G',s',?_,by simpa using h2,by simpa using h3,by simp [h4],rfl⟩
   rw [hv];simp [h1]
  rcases kJ hs with ⟨hw,hs⟩ |⟨hw,hs⟩
  ·cases hf:fV o.op with
   |true=>
    rw [hf] at hs
    obtain ⟨v,ob,h1,h2⟩:=Fy hs
    exact go _ (by unfold gq;rw [if_pos hw,hf];simp only [cond_true,h1,Option.map_some]) (fO (K:=fun ts'=>nA P W Γ b base r (i+1) (s :: G) {ts:=ts',h:=s.h,F:=s.F++(ob.toList.map fun b=>(i,b))} K) h2)
   |false=>
    rw [hf] at hs
    have fin:∀v h',iE P W o s.ts (br (fun j=>dW b j i) base s.F s.h)=some (v,h')->nA P W Γ b base r (i+1) (s :: G) {ts:=dB o.dst v s.ts,h:=bif ew o.op then h' else s.h,F:=s.F} K->∃G' s',(match gq P W b base i o s with
    |some s'=>(dz P W b base r (i+1) s').map (s :: ·)
    |none=>none)=some G'/\K (G'.reverse++G) s'/\G'[(o :: r).length]?=some s'/\G'.length=(o :: r).length+1/\G'[0]?=some s:=
     fun v h' h1 h2=>go _ (by unfold gq;rw [if_pos hw,hf];simp only [cond_false,h1,Option.map_some]) h2
    have other:∀{v h1 h'},af P s.ts h1 o.op=some (v,h')->(∀f a,o.op≠ .call f a)->(∀f a,o.op≠ .dA f a)->iE P W o s.ts h1=some (v,h'):=by
     intro v h1 h' hx hc hp
     unfold iE
     rw [if_pos hw]
     cases hop:o.op<;>rw [hop] at hx hc hp<;>simp only at hx ⊢<;>first |exact hx |exact absurd rfl (hc _ _) |exact absurd rfl (hp _ _)
    have rest:∀op,o.op=op->(∀f a,op≠ .call f a)->(∀f a,op≠ .dA f a)->(match ew op || eJ op with
     |true=>uG (fun j=>dW b j i) base s.F s.h fun h1=>kV P (jU Γ o.dst) op s.ts h1 fun v h'=>sv (jU Γ o.dst) o.dst v s.ts fun ts'=>
       nA P W Γ b base r (i+1) (s :: G) {ts:=ts',h:=bif ew op then h' else s.h,F:=s.F} K
     |false=>kV P (jU Γ o.dst) op s.ts s.h fun v _=>sv (jU Γ o.dst) o.dst v s.ts fun ts'=>nA P W Γ b base r (i+1) (s :: G) {ts:=ts',h:=s.h,F:=s.F} K)->∃G' s',(match gq P W b base i o s with
    |some s'=>(dz P W b base r (i+1) s').map (s :: ·)
    |none=>none)=some G'/\K (G'.reverse++G) s'/\G'[(o :: r).length]?=some s'/\G'.length=(o :: r).length+1/\G'[0]?=some s:=by
     intro op hop hc hp hs
     subst hop
     cases hl:(ew o.op || eJ o.op) with
     |true=>
      rw [hl] at hs
      obtain ⟨v,h',h1,h2⟩:=rL (jW (K:=fun h1=>kV P (jU Γ o.dst) o.op s.ts h1 fun v h'=>sv (jU Γ o.dst) o.dst v s.ts fun ts'=>
       nA P W Γ b base r (i+1) (s :: G) {ts:=ts',h:=bif ew o.op then h' else s.h,F:=s.F} K) hs)
      exact fin v h' (other h1 hc hp) (fO (K:=fun ts'=>nA P W Γ b base r (i+1) (s :: G) {ts:=ts',h:=bif ew o.op then h' else s.h,F:=s.F} K) h2)
     |false=>
      rw [hl] at hs
      simp only [Bool.or_eq_false_iff] at hl
      obtain ⟨v,h',h1,h2⟩:=rL hs
      refine fin v (br (fun j=>dW b j i) base s.F s.h) (other (rE hl.1 hl.2 h1 _) hc hp) ?_
      rw [hl.1]
      exact fO (K:=fun ts'=>nA P W Γ b base r (i+1) (s :: G) {ts:=ts',h:=s.h,F:=s.F} K) h2
    cases hop:o.op
    case call f args=>
     rw [hop] at hs
     obtain ⟨v,h',⟨rc,h1⟩,h2⟩:=mq (jW (K:=fun h1=>Lh (jU Γ o.dst) fun v=>∃h',MK W (aj s.ts f) (args.map (aj s.ts)) h1 v h'/\
      sv (jU Γ o.dst) o.dst v s.ts fun ts'=>nA P W Γ b base r (i+1) (s :: G) {ts:=ts',h:=h',F:=s.F} K) hs)
     refine fin v h' (by unfold iE;rw [if_pos hw,hop];simp only;rw [h1]) ?_
     rw [hop]
     exact fO (K:=fun ts'=>nA P W Γ b base r (i+1) (s :: G) {ts:=ts',h:=h',F:=s.F} K) h2
    case dA f args=>
     rw [hop] at hs
     obtain ⟨v,h',⟨rc,h1⟩,h2⟩:=mq (jW (K:=fun h1=>Lh (jU Γ o.dst) fun v=>∃h',MK W (aj s.ts f) (args.map (aj s.ts)) h1 v h'/\
      sv (jU Γ o.dst) o.dst v s.ts fun ts'=>nA P W Γ b base r (i+1) (s :: G) {ts:=ts',h:=s.h,F:=s.F} K) hs)
     refine fin v h' (by unfold iE;rw [if_pos hw,hop];simp only;rw [h1]) ?_
     rw [hop]
     exact fO (K:=fun ts'=>nA P W Γ b base r (i+1) (s :: G) {ts:=ts',h:=s.h,F:=s.F} K) h2
    case defer f args=>rw [hop] at hs;exact hs.elim
    case recover=>rw [hop] at hs;exact hs.elim
    case panic x=>rw [hop] at hs;exact hs.elim
    all_goals (rw [hop] at hs;exact rest _ hop (fun _ _ e=>by cases e) (fun _ _ e=>by cases e) hs)
  ·exact go _ (by unfold gq;rw [if_neg (by rw [hw];simp)]) hs
theorem zA {b:List Nat} {base:Nat} {ops:List AO} {F:List (Nat × eo)} {G:List LS}:∀{cs:List (Nat × Nat)} {K:Prop},JP b base ops F G cs K->(cs.all (oL b base ops F G))=true/\K
 | [],K,h=>⟨rfl,h⟩
 |c :: cs,K,hs=>by
  obtain ⟨h1,h2⟩:=hs
  obtain ⟨h3,h4⟩:=zA h2
  refine ⟨?_,h4⟩
  simp only [List.all_cons,h3,Bool.and_true]
  split at h1
  ·rename_i o s s' e1 e2 e3
   simp only [oL,e1,e2,e3]
   rcases kJ h1 with ⟨hw,h1⟩ |⟨hw,h1⟩
   ·rw [if_pos hw]
    cases hop:o.op<;>rw [hop] at h1<;>simp only at h1 ⊢<;>try exact h1.elim
    split at h1
    ·rename_i p hp;rw [hp];exact h1
    ·exact h1.elim
   ·rw [if_neg (by rw [hw];simp)]
  ·exact h1.elim
end
end Go.Ev
namespace Go.Ev
open Go Go.RowKit
variable {P:Program}
def sN (D:List Tmp) (a b:List Value):Prop:=b.length=a.length/\∀t,kI D t=false->b.getD t undef=a.getD t undef
theorem sN.refl (D:List Tmp) (a:List Value):sN D a a:=⟨rfl,fun _ _=>rfl⟩
theorem sN.trans {D:List Tmp} {a b c:List Value} (h:sN D a b) (k:sN D b c):sN D a c:=⟨k.1.trans h.1,fun t ht=>(k.2 t ht).trans (h.2 t ht)⟩
theorem uM {D:List Nat} {n:Nat}:kI D n=true↔n∈D:=by
 induction D with
 |nil=>simp [kI]
 |cons x r ih=>
  simp only [kI,List.mem_cons]
  cases hb:Nat.beq x n with
  |true=>simp [Nat.eq_of_beq_eq_true hb]
  |false=>
   simp only [cond_false,ih]
   have:n≠x:=fun e=>by subst e;simp [Nat.beq_refl] at hb
   simp [this]
theorem sN.mono {D D':List Tmp} {a b:List Value} (h:sN D a b) (hs:∀t∈D,t∈D'):sN D' a b:=
 ⟨h.1,fun t ht=>h.2 t (by
  cases hm:kI D t with
  |false=>rfl
  |true=>have:=uM.2 (hs t (uM.1 hm));rw [ht] at this;cases this)⟩
theorem Cq {d:Option Tmp} {v:Value} {ts:List Value} {D:List Tmp} (h:∀t,d=some t->t∈D):sN D ts (dB d v ts):=by
 cases d with
 |none=>exact .refl _ _
 |some t=>
  refine ⟨by simp [dB],fun u hu=>?_⟩
  have hne:t≠u:=by
   rintro rfl
   have:=uM.2 (h t rfl)
   rw [hu] at this;cases this
  simp [dB,List.getD_eq_getElem?_getD,List.getElem?_set_ne hne]
section
variable {W:Rec}
theorem GG {o:AO} {a:aD} {h:H} {st:Step} (he:cG P W o a h=some st):match st with
  | .on a' _=>sN (fE [o]) a.tmps a'.tmps
  | .panic _ a' _=>a'=a:=by
 have hput:∀(v:Value),sN (fE [o]) a.tmps (dB o.dst v a.tmps):=fun v=>Cq fun t ht=>by simp [fE,ht]
 unfold cG at he
 split at he
 ·cases hop:o.op<;>rw [hop] at he<;>simp only at he<;>(repeat' split at he)<;>first
   |(cases he;done)
   |(cases he;exact hput _)
   |(cases he;rfl)
 ·cases he;exact hput _
theorem zB:∀{l:List AO} {a:aD} {h:H} {x:aM} {a':aD} {h':H},eW P W l a h=some (x,a',h')->sN (fE l) a.tmps a'.tmps
 | [],_,_,_,_,_,he=>by cases he;exact .refl _ _
 |o :: l,a,h,x,a',h',he=>by
  have s1:∀t∈fE [o],t∈fE (o :: l):=fun t ht=>by
   simp only [fE] at ht ⊢
   split at ht
   ·simp at ht;subst ht;exact List.mem_cons_self ..
   ·cases ht
  have s2:∀t∈fE l,t∈fE (o :: l):=fun t ht=>by
   simp only [fE]
   split
   ·exact List.mem_cons_of_mem _ ht
   ·exact ht
  simp only [eW] at he
  split at he
  ·rename_i h1
   exact ((GG h1).mono s1).trans ((zB he).mono s2)
  ·rename_i h1
   cases he
   have:=GG h1
   simp only at this
   subst this
   exact .refl _ _
  ·cases he
theorem uN:∀{l:List AO} {ts:List Value} {h:H} {G:List (List Value × H)},trace P W l ts h=some G->∀(m:Nat) (us:List Value) (h':H),G[m]?=some (us,h')->sN (fE l) ts us
 | [],ts,h,G,he,m,us,h',hm=>by
   simp only [trace,Option.some.injEq] at he
   subst he
   cases m with
   |zero=>simp at hm;rw [← hm.1];exact .refl _ _
   |succ m=>simp at hm
 |o :: l,ts,h,G,he,m,us,h',hm=>by
  simp only [trace] at he
  split at he
  ·rename_i v h1 hv
   obtain ⟨G',hG',rfl⟩:=aa he
   cases m with
   |zero=>simp at hm;rw [← hm.1];exact .refl _ _
   |succ m=>
    have:=uN hG' m us h' (by simpa using hm)
    refine sN.trans (Cq (v:=v) (d:=o.dst) fun t ht=>?_) (this.mono fun t ht=>?_)
    ·simp only [fE,ht];exact List.mem_cons_self ..
    ·simp only [fE]
     split
     ·exact List.mem_cons_of_mem _ ht
     ·exact ht
  ·cases he
end
theorem Bx {W:Rec} {b:List Nat} {base:Nat}:∀{l:List AO} {i:Nat} {s:LS} {G:List LS},dz P W b base l i s=some G->∀(m:Nat) (u:LS),G[m]?=some u->sN (fE l) s.ts u.ts
 | [],i,s,G,he,m,u,hm=>by
   simp only [dz,Option.some.injEq] at he
   subst he
   cases m with
   |zero=>simp at hm;rw [← hm];exact .refl _ _
   |succ m=>simp at hm
 |o :: l,i,s,G,he,m,u,hm=>by
  simp only [dz] at he
  split at he
  ·rename_i s' hs
   obtain ⟨G',hG',rfl⟩:=aa he
   cases m with
   |zero=>simp at hm;rw [← hm];exact .refl _ _
   |succ m=>
    have:=Bx hG' m u (by simpa using hm)
    have hput:∃v,s'.ts=dB o.dst v s.ts:=by
     unfold gq at hs
     split at hs
     ·cases hf:fV o.op with
      |true=>rw [hf] at hs;obtain ⟨x,_,rfl⟩:=aa hs;exact ⟨_,rfl⟩
      |false=>rw [hf] at hs;obtain ⟨x,_,rfl⟩:=aa hs;exact ⟨_,rfl⟩
     ·cases hs;exact ⟨_,rfl⟩
    obtain ⟨v,hv⟩:=hput
    rw [hv] at this
    refine sN.trans (Cq (v:=v) (d:=o.dst) fun t ht=>?_) (this.mono fun t ht=>?_)
    ·simp only [fE,ht];exact List.mem_cons_self ..
    ·simp only [fE]
     split
     ·exact List.mem_cons_of_mem _ ht
     ·exact ht
  ·cases he
structure JY (P:Program) (T:Nat->Option kM) (nk:Nat->Bool) (W:Rec):Prop where
 loop:∀c a h x,cT P W (.loop c) a h=some x->W.loop c a h=some x
 call:∀g a b args rc h x,nk g=true->c5 P W T (.func (.func g) a b) args rc h=some x->W.call (.func (.func g) a b) args rc h=some x
 yield:∀l a b args h x,c5 P W T (.func (.yield l) a b) args .dF h=some x->W.call (.func (.yield l) a b) args .dF h=some x
section
variable {D:List Tmp} {car:List (Tmp × Value)} {j:Nat->Value}
theorem By:∀(ts:List Value) (i t:Nat),t < ts.length->(wY D car j i ts)[t]?=some (match uH car (i+t) with |some x=>x |none=>bif kI D (i+t) then j (i+t) else ts.getD t undef)
 | [],_,_,h=>by simp at h
 |v :: ts,i,0,_=>by
  simp only [wY,List.getElem?_cons_zero,Nat.add_zero,List.getD_cons_zero]
  all_goals rfl
 |v :: ts,i,t+1,h=>by
  simp only [wY,List.getElem?_cons_succ]
  rw [By ts (i+1) t (by simpa using h)]
  simp [Nat.add_assoc,Nat.add_comm 1 t]
theorem uO:∀(ts:List Value) (i:Nat),(wY D car j i ts).length=ts.length
 | [],_=>rfl
 |_ :: ts,i=>by simp [wY,uO ts]
theorem DW {ts us:List Value} (hf:sN D ts us) (hc:∀t v,uH car t=some v->t < us.length->us.getD t undef=v):us=wY D car (fun i=>us.getD i undef) 0 ts:=by
 apply List.ext_getElem?
 intro t
 by_cases ht:t < ts.length
 ·rw [By ts 0 t ht]
  have htu:t < us.length:=by rw [hf.1];exact ht
  have hget:us[t]?=some (us.getD t undef):=by simp [List.getD_eq_getElem?_getD,htu]
  rw [hget,Nat.zero_add]
  congr 1
  cases hv:uH car t with
  |some v=>exact hc t v hv htu
  |none=>
   simp only
   cases hm:kI D t with
   |true=>rfl
   |false=>exact hf.2 t hm
 ·rw [List.getElem?_eq_none (by rw [hf.1];omega),List.getElem?_eq_none (by rw [uO];omega)]
end
theorem GH {a:At} {v:Value} {K:a.T->Prop} (h:a.look v K):∃x,v=a.enc x/\K x:=by
 cases a<;>simp only [At.look] at h
 case int k=>
  split at h
  ·obtain ⟨h1,h2⟩:=ai.1 h
   simp only [decide_eq_true_eq] at h1
   subst h1
   exact ⟨_,rfl,h2⟩
  ·exact h.elim
 case val=>exact ⟨v,rfl,h⟩
 all_goals
  split at h
  ·exact ⟨_,rfl,h⟩
  ·exact h.elim
inductive Typed:(l:List At)->tu l (H->Prop)->tu l (H->Nat)->List Value->(H->Prop)->(H->Nat)->Prop where
 |nil (I:H->Prop) (M:H->Nat):Typed [] I M [] I M
 |cons {a:At} {l:List At} (x:a.T) {I:tu (a :: l) (H->Prop)} {M:tu (a :: l) (H->Nat)} {vs:List Value} {i:H->Prop} {m:H->Nat} (h:Typed l (I x) (M x) vs i m):Typed (a :: l) I M (a.enc x :: vs) i m
theorem rM:∀{l:List At} {vs:List Value} {I:tu l (H->Prop)} {M:tu l (H->Nat)} {K:(H->Prop)->(H->Nat)->Prop},Ot l vs I M K->∃i m,Typed l I M (vs.take l.length) i m/\K i m
 | [],vs,I,M,K,h=>⟨I,M,by simpa using Typed.nil I M,h⟩
 |a :: l,[],_,_,_,h=>h.elim
 |a :: l,v :: vs,I,M,K,h=>by
  obtain ⟨x,rfl,h2⟩:=GH h
  obtain ⟨i,m,h3,h4⟩:=rM h2
  exact ⟨i,m,by simpa using Typed.cons x h3,h4⟩
theorem zC {l:List At} {I:tu l (H->Prop)} {M:tu l (H->Nat)} {vs:List Value} {i:H->Prop} {m:H->Nat} (t:Typed l I M vs i m):
  ∀{K:List Value->(H->Prop)->(H->Nat)->Prop},MM l I M K->K vs i m:=by
 induction t with
 |nil I M=>intro K h;exact h
 |cons x t ih=>intro K h;exact ih (h x)
theorem lF:∀{car:List (Tmp × Sh)} {ts:List Value},uI car ts=true->(m6 car ts).length=(tv car).length
 | [],_,_=>rfl
 |(t,.at a) :: r,ts,h=>by simp [m6,tv,Sh.ats,lF (car:=r) (ts:=ts) h]
 |(t,.agg l) :: r,ts,h=>by
  simp only [uI,Bool.and_eq_true] at h
  have ih:=lF (car:=r) (ts:=ts) h.2
  have h1:=h.1
  split at h1
  ·rename_i cs hcs
   simp only [m6,hcs,tv,Sh.ats,List.length_append,ih,List.length_take,Nat.eq_of_beq_eq_true h1,Nat.min_self]
  ·cases h1
theorem rN:∀{car:List (Tmp × Sh)} {ts:List Value},uI car ts=true->∀{t:Tmp} {v:Value},uH (Bt car (m6 car ts)) t=some v->ts.getD t undef=v
 | [],_,_,_,_,h=>by simp [Bt,uH] at h
 |(t,.at a) :: r,ts,hok,u,v,h=>by
  simp only [m6,Bt,Sh.val,Sh.ats,List.length_cons,List.length_nil,Nat.zero_add,List.drop_succ_cons,List.drop_zero,uH] at h
  cases hb:Nat.beq t u with
  |true=>
   rw [hb] at h
   simp only [cond_true,Option.some.injEq] at h
   rw [← Nat.eq_of_beq_eq_true hb];exact h
  |false=>
   rw [hb] at h
   exact rN (car:=r) hok h
 |(t,.agg l) :: r,ts,hok,u,v,h=>by
  simp only [uI,Bool.and_eq_true] at hok
  have h1:=hok.1
  split at h1
  ·rename_i cs hcs
   have hl:=Nat.eq_of_beq_eq_true h1
   simp only [m6,hcs,Bt,Sh.val,Sh.ats,uH] at h
   have e1:(cs.toList.take l.length++m6 r ts).take l.length=cs.toList:=by
    rw [← hl,List.take_length,List.take_left'];rfl
   have e2:(cs.toList.take l.length++m6 r ts).drop l.length=m6 r ts:=by
    rw [← hl,List.take_length,List.drop_left'];rfl
   rw [e1,e2] at h
   cases hb:Nat.beq t u with
   |true=>
    rw [hb] at h
    simp only [cond_true,Option.some.injEq] at h
    rw [← Nat.eq_of_beq_eq_true hb,hcs];exact h
   |false=>
    rw [hb] at h
    exact rN (car:=r) hok.2 h
  ·cases h1
end Go.Ev
namespace Go.Ev
open Go Go.RowKit
variable {P:Program} {W:Rec} {Γ:Hints} {T:Nat->Option kM} {nk:Nat->Bool}
theorem Lq (hW:JY P T nk W):∀(c:AC) {rd:Bool} {ts:List Value} {df:List fF} {h:H} {Q:aM->List Value->List fF->H->Prop} (rc:RC),S P W Γ c rd ts df h Q->
  ∃x ts' df' h',cT P W c (gX ts df rc rd) h=some (x,gX ts' df' rc rd,h')/\Q x ts' df' h'/\sN (aZ c) ts ts':=by
 intro c
 induction c with
 |skip=>intro rd ts df h Q rc hs;exact ⟨_,_,_,_,rfl,hs,.refl _ _⟩
 |IJ ops=>
  intro rd ts df h Q rc hs
  obtain ⟨x,ts',df',h',h1,h2⟩:=vL (rc:=rc) hs
  exact ⟨x,ts',df',h',h1,h2,zB h1⟩
 |yq ops aC cuts=>
  intro rd ts df h Q rc hs
  obtain ⟨G,ts',h',h1,h2,h3,h4⟩:=DV (P:=P) (W:=W) (Γ:=Γ) hs
  simp only [List.append_nil,List.reverse_reverse] at h2
  obtain ⟨h5,h6⟩:=Bv h2
  refine ⟨.normal,ts',df,h',?_,h6,uN h1 _ _ _ h3⟩
  simp only [cT,fM]
  have h1':trace P W ops (gX ts df rc rd).tmps h=some G:=h1
  rw [h1']
  simp only [h5,if_true,h3]
  rfl
 |yu b ops aC=>
  intro rd ts df h Q rc hs
  obtain ⟨G,s',h1,h2,h3,h4,h5⟩:=Bw (P:=P) (W:=W) (Γ:=Γ) (jV hs)
  simp only [List.append_nil,List.reverse_reverse] at h2
  obtain ⟨h6,h7⟩:=zA h2
  refine ⟨.normal,s'.ts,df,_,?_,jW h7,Bx h1 _ _ h3⟩
  simp only [cT,fN]
  have h1':dz P W b h.next ops 0 {ts:=(gX ts df rc rd).tmps,h:={next:=h.next+ops.length,t:=h.t},F:=[]}=some G:=h1
  rw [h1']
  cases G with
  |nil=>simp at h4
  |cons s0 r=>
   have hl:nP s0 r=s':=by
    have hr:r.length=ops.length:=by simpa using h4
    have:=vB r s0
    rw [hr,h3] at this
    exact (Option.some.inj this).symm
   simp only [hl,h6,if_true]
   rfl
 |seq a b iha ihb=>
  intro rd ts df h Q rc hs
  obtain ⟨x,ts1,df1,h1,e1,q1,f1⟩:=iha rc hs
  have m1:∀t∈aZ a,t∈aZ (a.seq b):=fun t ht=>List.mem_append.2 (.inl ht)
  have m2:∀t∈aZ b,t∈aZ (a.seq b):=fun t ht=>List.mem_append.2 (.inr ht)
  simp only [cT,e1]
  cases x with
  |normal=>
   obtain ⟨y,ts2,df2,h2,e2,q2,f2⟩:=ihb rc q1
   exact ⟨y,ts2,df2,h2,e2,q2,(f1.mono m1).trans (f2.mono m2)⟩
  |exit id=>exact ⟨_,ts1,df1,h1,rfl,q1,f1.mono m1⟩
  |ret=>exact ⟨_,ts1,df1,h1,rfl,q1,f1.mono m1⟩
  |panic v=>exact ⟨_,ts1,df1,h1,rfl,q1,f1.mono m1⟩
 |cond c a b iha ihb=>
  intro rd ts df h Q rc hs
  have m1:∀t∈aZ a,t∈aZ (.cond c a b):=fun t ht=>List.mem_append.2 (.inl ht)
  have m2:∀t∈aZ b,t∈aZ (.cond c a b):=fun t ht=>List.mem_append.2 (.inr ht)
  simp only [S] at hs
  split at hs
  ·rename_i t ht
   have ht':aj (gX ts df rc rd).tmps c= .bool t:=ht
   simp only [cT,ht']
   rcases gu hs with ⟨rfl,h1⟩ |⟨rfl,h1⟩
   ·obtain ⟨x,ts1,df1,h1,e1,q1,f1⟩:=iha rc h1
    exact ⟨x,ts1,df1,h1,e1,q1,f1.mono m1⟩
   ·obtain ⟨x,ts1,df1,h1,e1,q1,f1⟩:=ihb rc h1
    exact ⟨x,ts1,df1,h1,e1,q1,f1.mono m2⟩
  ·exact hs.elim
 |block id c ih=>
  intro rd ts df h Q rc hs
  obtain ⟨x,ts1,df1,h1,e1,q1,f1⟩:=ih rc hs
  simp only [cT]
  rw [e1]
  cases x with
  |normal=>exact ⟨_,ts1,df1,h1,rfl,q1,f1⟩
  |exit id'=>
   simp only at q1 ⊢
   cases hb:Nat.beq id' id with
   |true=>
    rw [hb] at q1
    rw [if_pos (Nat.eq_of_beq_eq_true hb)]
    exact ⟨_,ts1,df1,h1,rfl,q1,f1⟩
   |false=>
    rw [hb] at q1
    rw [if_neg (fun e=>by subst e;simp [Nat.beq_refl] at hb)]
    exact ⟨_,ts1,df1,h1,rfl,q1,f1⟩
  |ret=>exact ⟨_,ts1,df1,h1,rfl,q1,f1⟩
  |panic v=>exact ⟨_,ts1,df1,h1,rfl,q1,f1⟩
 |loop c ih=>
  intro rd ts df h Q rc hs
  simp only [S] at hs
  generalize hcar:uF Γ.loops (c6 (aZ c))=car at hs
  obtain ⟨I,M,hentry,hall⟩:=hs
  obtain ⟨hok,hrd⟩:=ai.1 hentry
  have key:∀(n:Nat) (ts1:List Value) (h1:H) (i:H->Prop) (m:H->Nat),m h1<=n->sN (aZ c) ts ts1->uI car ts1=true->Typed (tv car) I M (m6 car ts1) i m->i h1->
    ∃x ts' df' h',cT P W (.loop c) (gX ts1 df rc rd) h1=some (x,gX ts' df' rc rd,h')/\Q x ts' df' h'/\sN (aZ c) ts ts':=by
   intro n
   induction n with
   |zero=>
    intro ts1 h1 i m hm hf hk ht hi
    have hb:=zC ht (hall fun i=>ts1.getD i undef) h1 hi
    rw [← DW hf (fun t v hv hlt=>rN hk hv)] at hb
    obtain ⟨x,ts2,df2,h2,e2,q2,f2⟩:=ih rc hb
    simp only [cT,e2]
    cases x with
    |normal=>
     obtain ⟨rfl,q3⟩:=q2
     obtain ⟨hk2,hr2⟩:=ai.1 q3
     obtain ⟨i',m',ht2,hi2,hm2⟩:=rM hr2
     omega
    |exit id=>exact ⟨_,_,_,_,rfl,q2,hf.trans f2⟩
    |ret=>exact ⟨_,_,_,_,rfl,q2,hf.trans f2⟩
    |panic v=>exact ⟨_,_,_,_,rfl,q2,hf.trans f2⟩
   |succ n ihn=>
    intro ts1 h1 i m hm hf hk ht hi
    have hb:=zC ht (hall fun i=>ts1.getD i undef) h1 hi
    rw [← DW hf (fun t v hv hlt=>rN hk hv)] at hb
    obtain ⟨x,ts2,df2,h2,e2,q2,f2⟩:=ih rc hb
    simp only [cT,e2]
    cases x with
    |normal=>
     obtain ⟨rfl,q3⟩:=q2
     obtain ⟨hk2,hr2⟩:=ai.1 q3
     obtain ⟨i',m',ht2,hi2,hm2⟩:=rM hr2
     rw [List.take_of_length_le (by rw [lF hk2];exact Nat.le_refl _)] at ht2
     obtain ⟨y,ts3,df3,h3,e3,q4,f3⟩:=ihn ts2 h2 i' m' (by omega) (hf.trans f2) hk2 ht2 hi2
     exact ⟨y,ts3,df3,h3,hW.loop _ _ _ _ e3,q4,f3⟩
    |exit id=>exact ⟨_,_,_,_,rfl,q2,hf.trans f2⟩
    |ret=>exact ⟨_,_,_,_,rfl,q2,hf.trans f2⟩
    |panic v=>exact ⟨_,_,_,_,rfl,q2,hf.trans f2⟩
  obtain ⟨i,m,ht,hi⟩:=rM hrd
  rw [List.take_of_length_le (by rw [lF hok];exact Nat.le_refl _)] at ht
  exact key (m h) ts h i m (Nat.le_refl _) (.refl _ _) hok ht hi
 |rangeFunc f ps as bd iha ihb=>intro rd ts df h Q rc hs;exact hs.elim
 |exit id=>intro rd ts df h Q rc hs;exact ⟨_,_,_,_,rfl,hs,.refl _ _⟩
 |ret=>intro rd ts df h Q rc hs;exact ⟨_,_,_,_,rfl,hs,.refl _ _⟩
 |stuck=>intro rd ts df h Q rc hs;exact hs.elim
theorem vM:∀{df:List fF} {h:H} {K:H->Prop} (m:Option Value),JQ df h K->∃h',bt W df m h=some (m,h')/\K h'
 | [],h,K,m,hs=>⟨h,rfl,hs⟩
 | .coll d :: r,h,K,m,hs=>by
   obtain ⟨h1,h2⟩:=hs
   obtain ⟨h',h3,h4⟩:=vM m (jV h2)
   exact ⟨h',by simp only [bt,h1,h3],h4⟩
 | .call _ _ :: _,_,_,_,hs=>hs.elim
theorem rO {ts:List Value} {h:H}:∀{l:List Db} {sh:List Sh} {K:List Value->Prop},JR h ts l sh K->∃vs,ia h ts l=some vs/\K vs
 | [],_,K,hs=>⟨[],rfl,hs⟩
 | .tmp t :: r,sh,K,hs=>by
   obtain ⟨h1,h2⟩:=ai.1 hs
   simp only [Bool.not_eq_true'] at h1
   obtain ⟨vs,h3,h4⟩:=rO h2
   exact ⟨_,by simp only [ia,h1,Bool.false_eq_true,if_false,h3,Option.map_some],h4⟩
 | .cell t agg n :: r,sh,K,hs=>by
   simp only [JR] at hs
   split at hs
   ·rename_i p hp
    obtain ⟨cs,v,h1,h2,h3⟩:=zo hs
    obtain ⟨vs,h4,h5⟩:=rO h3
    refine ⟨v :: vs,?_,h5⟩
    simp only [ia,hp,h1,h2,h4]
   ·exact hs.elim
theorem HR {fn:kM} {x:aM} {ts:List Value} {df:List fF} {h:H} {R:fR->H->Prop} {rc:RC} {rd:Bool} (hs:NV Γ fn x ts df h R):
  ∃r h',eC W fn x (gX ts df rc rd) h=some (r,rc,h')/\R r h':=by
 have fin:∀(K:H->Prop),(∀h',K h'->∃vs,ia h' ts fn.results=some vs/\R (.ret (iq vs)) h')->JQ df h K->
   ∃r h',(match bt W df none h with
    |some (none,h')=>(ia h' ts fn.results).map fun l=>(fR.ret (iq l),rc,h')
    |some (some v,h')=>some (.panic v,rc,h')
    |none=>none)=some (r,rc,h')/\R r h':=by
  intro K hK hu
  obtain ⟨h',h1,h2⟩:=vM (W:=W) none hu
  obtain ⟨vs,h3,h4⟩:=hK h' h2
  exact ⟨_,h',by rw [h1];simp only [h3,Option.map_some],h4⟩
 cases x with
 |normal=>exact fin _ (fun h' k=>rO k) hs
 |ret=>exact fin _ (fun h' k=>rO k) hs
 |panic v=>
  obtain ⟨h',h1,h2⟩:=vM (W:=W) (some v) hs
  refine ⟨.panic v,h',?_,h2⟩
  show (match bt W df (some v) h with
    |some (none,h')=>(ia h' ts fn.results).map fun l=>(fR.ret (iq l),rc,h')
    |some (some v,h')=>some (.panic v,rc,h')
    |none=>none)=_
  rw [h1]
 |exit id=>exact hs.elim
def Mk (W:Rec) (f:Value) (args:List Value) (h:H) (R:fR->H->Prop):Prop:=∃r rc h',W.call f args .dF h=some (r,rc,h')/\R r h'
theorem HS (hW:JY P T nk W) {g:Nat} (hg:nk g=true) {a b:Array Value} {args:List Value} {h:H} {R:fR->H->Prop} (hs:Ou P W Γ T g (a.toList++args++b.toList) h R):
  Mk W (.func (.func g) a b) args h R:=by
 unfold Ou at hs
 split at hs
 ·rename_i fn hfn
  obtain ⟨x,ts',df',h',h1,h2,_⟩:=Lq hW fn.body .dF hs
  obtain ⟨r,h'',h3,h4⟩:=HR (W:=W) (rc:=.dF) (rd:=false) h2
  refine ⟨r,.dF,h'',hW.call _ _ _ _ _ _ _ hg ?_,h4⟩
  unfold c5
  simp only [hfn]
  have e:s6 fn (a.toList++args++b.toList) .dF=gX (a.toList++args++b.toList++List.replicate (fn.ntmps - (a.toList++args++b.toList).length) undef) [] .dF false:=rfl
  rw [e,h1]
  exact h3
 ·exact hs.elim
def w5 (cs:jl) (g:Nat):Bool:=cs.all fun c=>!(Nat.beq c.g g)
theorem tD {hh:H}:∀{cs:jl} {g:Nat} {args:List Value},w5 cs g=true->fG hh cs g args=some none
 | [],_,_,_=>rfl
 |c :: cs,g,args,h=>by
  simp only [w5,List.all_cons,Bool.and_eq_true,Bool.not_eq_true'] at h
  simp only [fG,h.1]
  exact tD h.2
theorem Lr {tabs:fY} {cs:jl}:JY P T (w5 cs) (JE P T tabs cs):=by
 refine ⟨fun c a h x he=>JF he,fun g a b args rc h x hg he=>DO ?_ he,fun l a b args h x he=>DO rfl he⟩
 cases rc with
 |dF=>
  simp only [eB,tD hg]
  split<;>rfl
 |_=>rfl
end Go.Ev
namespace Go.Ev
open Go Go.RowKit
def nB (h:H):Prop:=∀i,h.next<=i->h.get i=none
theorem nB.lt {h:H} (t:nB h) {i:Nat} {b:eo} (hg:h.get i=some b):i < h.next:=by
 rcases Nat.lt_or_ge i h.next with h1 |h1
 ·exact h1
 ·rw [t i h1] at hg;cases hg
theorem nB.alloc {h:H} (t:nB h) (b:eo):nB (h.alloc b):=fun i hi=>by
 rw [H.bx] at hi
 rw [H.aI h b (by omega)];exact t i (by omega)
theorem nB.set {h:H} (t:nB h) {r:Nat} (hr:r < h.next) (b:eo):nB (h.set r b):=fun i hi=>by
 have hi':h.next<=i:=hi
 rw [H.ah h b (by omega)];exact t i hi'
theorem nB.res {h:H} (t:nB h) (n:Nat):nB (h.res n):=fun i hi=>t i (by have:h.next+n<=i:=hi;omega)
theorem H.JZ (h:H) (n:Nat):(h.res n).next=h.next+n:=rfl
theorem H.yf (h:H) (n i:Nat):(h.res n).get i=h.get i:=rfl
theorem vN {h:H} {r:Nat} {b:eo} (hg:h.get r=none):jc h r b=h.set r b:=by unfold jc;rw [hg]
theorem HU {h:H} {r:Nat} {b c:eo} (hg:h.get r=some c):jc h r b=h:=by unfold jc;rw [hg]
structure cI (L:List Nat) (h h':H):Prop where
 top:nB h'
 next:h.next<=h'.next
 get:∀i,i < h.next->i ∉ L->h'.get i=h.get i
theorem cI.refl {h:H} (t:nB h) (L:List Nat):cI L h h:=⟨t,Nat.le_refl _,fun _ _ _=>rfl⟩
theorem cI.trans {L:List Nat} {h h' h'':H} (k:cI L h h') (k':cI L h' h''):cI L h h'':=
 ⟨k'.top,Nat.le_trans k.next k'.next,fun i hi hl=>(k'.get i (Nat.lt_of_lt_of_le hi k.next) hl).trans (k.get i hi hl)⟩
theorem cI.mono {L L':List Nat} {h h':H} (k:cI L h h') (hs:∀i∈L,i < h.next->i∈L'):cI L' h h':=
 ⟨k.top,k.next,fun i hi hl=>k.get i hi fun hm=>hl (hs i hm hi)⟩
theorem cI.alloc {L:List Nat} {h h':H} (k:cI L h h') (b:eo):cI L h (h'.alloc b):=
 ⟨k.top.alloc b,Nat.le_trans k.next (by rw [H.bx];omega),fun i hi hl=>by
  rw [H.aI h' b (by have:=k.next;omega)];exact k.get i hi hl⟩
theorem cI.set {L:List Nat} {h h':H} (k:cI L h h') {r:Nat} (hr:r < h'.next) (hn:h.next<=r\/r∈L) (b:eo):cI L h (h'.set r b):=
 ⟨k.top.set hr b,k.next,fun i hi hl=>by
  rw [H.ah h' b (by rintro rfl;rcases hn with h1 |h1<;>first |omega |exact hl h1)];exact k.get i hi hl⟩
theorem cI.res {L:List Nat} {h h':H} (k:cI L h h') (n:Nat):cI L h (h'.res n):=⟨k.top.res n,Nat.le_trans k.next (Nat.le_add_right _ _),k.get⟩
theorem cI.from {L:List Nat} {h h1 h':H} (k1:cI [] h h1) (k:cI L h1 h') (hL:∀i∈L,h.next<=i):cI [] h h':=
 ⟨k.top,Nat.le_trans k1.next k.next,fun i hi _=>by
  rw [k.get i (Nat.lt_of_lt_of_le hi k1.next) (fun hm=>by have:=hL i hm;omega)]
  exact k1.get i hi (by simp)⟩
structure Ls (h:H) (b:Nat) (cs:List Value):Prop where
 lt:b < h.next
 at':∃k,h.get b=some k/\k.read=some cs
theorem Ls.keep {L:List Nat} {h h':H} {b:Nat} {cs:List Value} (l:Ls h b cs) (k:cI L h h') (hb:b ∉ L):Ls h' b cs:=by
 obtain ⟨x,h1,h2⟩:=l.at'
 exact ⟨Nat.lt_of_lt_of_le l.lt k.next,x,by rw [k.get b l.lt hb];exact h1,h2⟩
theorem Ls.cells {h:H} {b:Nat} {cs:List Value} (l:Ls h b cs) {o n:Nat} (hl:o+n<=cs.length):h.cells ⟨b,o,none⟩ n=some ((cs.drop o).take n):=by
 obtain ⟨x,h1,h2⟩:=l.at'
 simp only [H.cells,h1,Option.bind_some,h2]
 rw [if_pos hl]
structure xJ (h:H) (q:SV) (sz:Nat) (rows:List (List Value)):Prop where
 len:q.n=rows.length
 all:∀r∈rows,r.length=sz
 lay:0 < rows.length->∃b o cs,q.p=some ⟨b,o,none⟩/\Ls h b cs/\o+rows.length * sz<=cs.length/\∀i r,rows[i]?=some r->(cs.drop (o+i * sz)).take sz=r
theorem xJ.keep {L:List Nat} {h h':H} {q:SV} {sz:Nat} {rows:List (List Value)} (s:xJ h q sz rows) (k:cI L h h') (hL:∀b o,q.p=some ⟨b,o,none⟩->b ∉ L):xJ h' q sz rows:=
 ⟨s.len,s.all,fun hp=>by
  obtain ⟨b,o,cs,h1,h2,h3⟩:=s.lay hp
  exact ⟨b,o,cs,h1,h2.keep k (hL b o h1),h3⟩⟩
theorem xJ.Ml {h h':H} {q:SV} {sz:Nat} {rows:List (List Value)} (s:xJ h q sz rows) (k:cI [] h h'):xJ h' q sz rows:=s.keep k fun _ _ _=>by simp
def Gr (h:H) (q:SV) (e sz:Nat) (rows:List (List Value)):Prop:=
 (∀r∈rows,r.length=sz)/\((q=⟨none,0,0⟩/\rows=[])\/∃b t,q=⟨some ⟨b,0,none⟩,rows.length,0⟩/\b < h.next/\h.get b=some (.cells t rows.flatten e rows.length))
theorem MN (h:H) (e sz:Nat):Gr h ⟨none,0,0⟩ e sz []:=⟨by simp,.inl ⟨rfl,rfl⟩⟩
theorem dR {sz:Nat}:∀{rows:List (List Value)},(∀r∈rows,r.length=sz)->rows.flatten.length=rows.length * sz
 | [],_=>by simp
 |r :: rs,h=>by
  simp only [List.flatten_cons,List.length_append,List.length_cons,dR (rows:=rs) fun x hx=>h x (List.mem_cons_of_mem _ hx),h r (List.mem_cons_self ..),Nat.add_mul,Nat.one_mul]
  omega
theorem gY {sz:Nat}:∀{rows:List (List Value)} {i:Nat} {r:List Value},(∀r∈rows,r.length=sz)->rows[i]?=some r->(rows.flatten.drop (i * sz)).take sz=r
 | [],_,_,_,hi=>by simp at hi
 |x :: rs,0,r,h,hi=>by
  simp only [List.getElem?_cons_zero,Option.some.injEq] at hi
  subst hi
  have:=h x (List.mem_cons_self ..)
  simp [← this]
 |x :: rs,i+1,r,h,hi=>by
  simp only [List.getElem?_cons_succ] at hi
  have hx:=h x (List.mem_cons_self ..)
  have ih:=gY (fun y hy=>h y (List.mem_cons_of_mem _ hy)) hi
  rw [List.flatten_cons,Nat.add_mul,Nat.one_mul,Nat.add_comm (i * sz) sz,← List.drop_drop]
  have e:(x++rs.flatten).drop sz=rs.flatten:=by rw [← hx];exact List.drop_left ..
  rw [e];exact ih
theorem Gr.MP {h:H} {q:SV} {e sz:Nat} {rows:List (List Value)} (g:Gr h q e sz rows):xJ h q sz rows:=by
 obtain ⟨ha,hb⟩:=g
 rcases hb with ⟨rfl,rfl⟩ |⟨b,t,rfl,hlt,hg⟩
 ·exact ⟨rfl,by simp,fun h=>by simp at h⟩
 ·refine ⟨rfl,ha,fun _=>⟨b,0,rows.flatten,rfl,⟨hlt,_,hg,rfl⟩,by rw [Nat.zero_add,dR ha];exact Nat.le_refl _,fun i r hi=>?_⟩⟩
  rw [Nat.zero_add];exact gY ha hi
def SV.Lt (q:SV):List Nat:=match q.p with
 |some a=>[a.block]
 |none=>[]
theorem Gr.app {P:Program} {h:H} (t:nB h) {q:SV} {e sz bytes:Nat} {rows new:List (List Value)} (g:Gr h q e sz rows) {x:Value} (hnew:∀r∈new,r.length=sz)
  (hx:cg h sz x=some (new.length,new.flatten)) (hone:(new.flatten.all (·.oneCell'))=true) (hpos:new≠[]) (hb:(rows.length+new.length) * bytes<=cF) (hm:rows.length+new.length<=maxLen):
  ∃h',AG P h e sz bytes (.slice q.p q.n q.c) x=some (.slice (some ⟨h.next,0,none⟩) (rows.length+new.length) 0,h')/\Gr h' ⟨some ⟨h.next,0,none⟩,rows.length+new.length,0⟩ e sz (rows++new)/\cI q.Lt h h'/\h.next < h'.next:=by
 obtain ⟨ha,hb'⟩:=g
 have hnl:0 < new.length:=List.length_pos_iff.2 hpos
 have hlen:new.flatten.length=new.length * sz:=dR hnew
 have hall:∀r∈rows++new,r.length=sz:=fun r hr=>by
  rcases List.mem_append.1 hr with h1 |h1
  ·exact ha r h1
  ·exact hnew r h1
 have hc:(decide (new.flatten.length=new.length * sz) && new.flatten.all (·.oneCell'))=true:=by simp [hlen,hone]
 have hcc:new.flatten.length=new.length * sz/\(new.flatten.all (·.oneCell'))=true:=⟨hlen,hone⟩
 rcases hb' with ⟨rfl,rfl⟩ |⟨b,tg,rfl,hlt,hg⟩
 ·refine ⟨h.alloc (.cells false new.flatten e new.length),?_,⟨by simpa using hall,.inr ⟨h.next,false,by simp,by rw [H.bx];omega,by simpa using H.aH h _⟩⟩,(cI.refl t _).alloc _,by rw [H.bx];omega⟩
  simp only [AG,af,aj,hx]
  rw [if_pos (by first |exact hc |exact hcc |simp [hlen,hone])]
  simp only [eS]
  rw [if_neg (by omega),if_pos ⟨by simpa using hb,by simpa using hm⟩]
  simp
 ·refine ⟨(bif tg then h else h.set b .dead).alloc (.cells false (rows.flatten++new.flatten) e (rows.length+new.length)),?_,⟨hall,.inr ⟨h.next,false,by simp,?_,?_⟩⟩,?_,?_⟩
  ·simp only [AG,af,aj,hx]
   rw [if_pos (by first |exact hc |exact hcc |simp [hlen,hone])]
   simp only [eS]
   rw [if_neg (by omega)]
   simp only [hg]
   rw [if_pos ⟨trivial,trivial,trivial,trivial,trivial,dR ha,hb,hm⟩]
  ·cases tg<;>simp only [cond_true,cond_false,H.bx,H.ey]<;>omega
  ·rw [List.flatten_append,List.length_append]
   have:(bif tg then h else h.set b .dead).next=h.next:=by cases tg<;>rfl
   rw [← this]
   exact H.aH _ _
  ·cases tg with
   |true=>exact (cI.refl t _).alloc _
   |false=>exact ((cI.refl t _).set hlt (.inr (by simp [SV.Lt])) _).alloc _
  ·cases tg<;>simp only [cond_true,cond_false,H.bx,H.ey]<;>omega
theorem xJ.src {h:H} {q:SV} {sz:Nat} {rows:List (List Value)} (s:xJ h q sz rows):cg h sz (.slice q.p q.n q.c)=some (rows.length,rows.flatten):=by
 cases hr:rows with
 |nil=>
  have hn:q.n=0:=by rw [s.len,hr];rfl
  rw [hn]
  cases q.p<;>simp [cg]
 |cons r rs=>
  obtain ⟨b,o,cs,e1,e2,e3,e4⟩:=s.lay (by rw [hr];simp)
  rw [e1,s.len]
  simp only [cg]
  rw [if_neg (by rw [hr];simp),e2.cells e3]
  simp only [Option.map_some,Option.some.injEq,Prod.mk.injEq]
  rw [← hr]
  refine ⟨rfl,?_⟩
  apply List.ext_getElem?
  intro j
  have hfl:=dR s.all
  by_cases hj:j < rows.length * sz
  ·have hsz:0 < sz:=by
    rcases Nat.eq_zero_or_pos sz with h0 |h0
    ·rw [h0] at hj;simp at hj
    ·exact h0
   have hdiv:j / sz < rows.length:=by rw [Nat.div_lt_iff_lt_mul hsz];exact hj
   have hri:=List.getElem?_eq_getElem hdiv
   have h1:=e4 _ _ hri
   have h2:=gY s.all hri
   have hjm:j=(j / sz) * sz+j % sz:=by rw [Nat.mul_comm];exact (Nat.div_add_mod j sz).symm
   have hmod:=Nat.mod_lt j hsz
   have g1:((cs.drop (o+j / sz * sz)).take sz)[j % sz]?=cs[o+j]?:=by
    rw [List.getElem?_take_of_lt hmod,List.getElem?_drop]
    congr 1;omega
   have g2:((rows.flatten.drop (j / sz * sz)).take sz)[j % sz]?=rows.flatten[j]?:=by
    rw [List.getElem?_take_of_lt hmod,List.getElem?_drop]
    congr 1;omega
   rw [List.getElem?_take_of_lt hj,List.getElem?_drop,← g1,h1,← h2,g2]
  ·rw [List.getElem?_eq_none (by rw [List.length_take];omega),List.getElem?_eq_none (by omega)]
end Go.Ev
namespace Go.Ev
open Go
def qQ:Value->Bool
 | .bool _ | .int _ _ | .string _ | .pointer _ | .slice _ _ _ | .map _ | .nilFunc | .nilIface=>true
 | .func (.func _) a b=>a.toList.isEmpty && b.toList.isEmpty
 |_=>false
theorem J6 {v:Value} (hv:qQ v=true):MC v v=true:=by
 cases v with
 |func f a b=>
  cases f<;>simp only [qQ,Bool.false_eq_true,Bool.and_eq_true] at hv
  simp [MC,hv.1,hv.2]
 |_=>first |(simp [MC];done) |(simp [qQ] at hv)
theorem rQ:∀{l:List Value},l.all qQ=true->Az l l=true
 | [],_=>rfl
 |v :: l,h=>by
  simp only [List.all_cons,Bool.and_eq_true] at h
  simp only [Az,J6 h.1,rQ h.2,Bool.and_self]
end Go.Ev
