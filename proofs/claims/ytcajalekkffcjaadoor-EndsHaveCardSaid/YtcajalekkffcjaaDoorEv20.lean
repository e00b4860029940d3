/- The evaluator over a small code, and that what it finds of a call holds of the machine, part 20. -/
import Derived.Test.YtcajalekkffcjaaDoorEv18e
import Derived.FnData
import Derived.OpenShut
import Derived.ChangeArms
import Derived.MakeChecks
import Derived.ChangeShapes
import Derived.RowKit
namespace Go.Ev
open Go Go.RowKit
def kU (P:Program) (g:Nat):Option kM:=(P.funcs[g]?).bind (Dl P)
theorem Ck {P:Program} (h:P.funcs.toList.all (fun f=>!(f.name == "runtime.NumGoroutine"))=true):Nr P (kU P):=by
 intro g fn hT
 obtain ⟨f,hf,hc⟩:=kj hT
 refine ⟨f,hf,hc,?_⟩
 have:=List.all_eq_true.1 h f (by simpa using Array.mem_of_getElem? hf)
 simpa using this
abbrev fY:=List (Nat × List Value)
def hstart (n:Nat):fY->H
 | []=>{next:=n,t:=.leaf}
 |p :: r=>(hstart n r).set p.1 (.ro p.2)
def oV (W:World) (tabs:fY):Prop:=∀p∈tabs,∀j u,p.2[j]?=some u->W.cell? ⟨p.1,j,none⟩=some u
def nV (n:Nat) (tabs:fY):Bool:=tabs.all fun p=>p.2.all aS && !p.2.isEmpty && Nat.blt p.1 n
def td (n:Nat):bz:=fun i=>if i < n then some (⟨i,0,none⟩,0) else none
theorem lR {n:Nat} {tabs:fY} (h:nV n tabs=true) {p:Nat × List Value} (hp:p∈tabs):p.2.all aS=true/\p.2≠[]/\p.1 < n:=by
 have:=List.all_eq_true.1 h p hp
 simp only [Bool.and_eq_true,Bool.not_eq_true',List.isEmpty_eq_false_iff,Nat.blt_eq] at this
 exact ⟨this.1.1,this.1.2,this.2⟩
theorem jS {n:Nat}:∀{tabs:fY} {i:Nat} {b:eo},(hstart n tabs).get i=some b->∃p∈tabs,p.1=i/\b= .ro p.2
 | [],i,b,h=>by
   have:({next:=n,t:=.leaf}:H).get i=none:=Trie.qG _
   simp only [hstart] at h
   rw [this] at h;cases h
 |p :: r,i,b,h=>by
  simp only [hstart] at h
  by_cases e:i=p.1
  ·subst e
   rw [H.an] at h
   exact ⟨p,List.mem_cons_self ..,rfl,(Option.some.inj h).symm⟩
  ·rw [H.ah _ _ (Ne.symm e)] at h
   obtain ⟨q,h1,h2⟩:=jS h
   exact ⟨q,List.mem_cons_of_mem _ h1,h2⟩
theorem iW (n:Nat):∀tabs,(hstart n tabs).next=n
 | []=>rfl
 |_ :: r=>(H.ey _ _ _).trans (iW n r)
theorem Bn {P:Program} {W:World} {tabs:fY} (hB:nV P.globals.size tabs=true) (hW:oV W tabs):
  bW P (td P.globals.size) W.heap.size W (hstart P.globals.size tabs) W:=by
 refine ⟨Below.refl _ _,Nat.le_refl _,?_,?_,?_,?_,?_,?_,?_⟩
 ·intro i hi
  rw [iW] at hi
  have:¬i < P.globals.size:=Nat.not_lt.2 hi
  simp [td,this]
 ·intro i hi
  rw [iW] at hi
  cases hg:(hstart P.globals.size tabs).get i with
  |none=>rfl
  |some b=>
   obtain ⟨p,hp,rfl,rfl⟩:=jS hg
   have:=(lR hB hp).2.2
   omega
 ·intro i hi _
  have:¬i < P.globals.size:=Nat.not_lt.2 hi
  simp [td,this]
 ·intro i b hb
  obtain ⟨p,hp,rfl,rfl⟩:=jS hb
  obtain ⟨hs,hne,hg⟩:=lR hB hp
  have hlt:p.1 < W.heap.size:=by
   obtain ⟨v,l,hl⟩:=List.exists_cons_of_ne_nil hne
   have h0:=hW p hp 0 v (by rw [hl];rfl)
   rcases Nat.lt_or_ge p.1 W.heap.size with h |h
   ·exact h
   ·have hn:W.heap[p.1]?=none:=Array.getElem?_eq_none_iff.2 h
    simp [World.cell?,hn] at h0
  exact ⟨p.1,0,0,p.2,by simp [td,hg],hlt,cN bX hs,fun j u hu=>by rw [Nat.zero_add];exact hW p hp j u hu⟩
 ·intro i j b b' x y h1 h2 hne ho
  obtain ⟨p,_,_,rfl⟩:=jS h1
  cases ho
 ·intro i b x h1 ho
  obtain ⟨p,_,_,rfl⟩:=jS h1
  cases ho
 ·intro g hg'
  exact ⟨0,by simp [td,hg']⟩
theorem Fe {P:Program} {W:World} {gi t e:Nat} {ns:List Int} {k:IntKind} {cs:Array Value} {fuel:Nat} {p:List MemPlace} {name:String} (hg:P.globalNamed name=some gi)
  (hu:P.underlying t=some (.array ns.length e)) (he:P.underlying e=some (.int k)) (hc:P.cellsOf e=1) (hv:W.var? P name=some cs)
  (hd:DataW.trod (fun _=>()) P W 0 (fun _=>true) false fuel t cs.toList=some (.agg (ns.map fun n=>.lit (.int k n)),p)):
  ∀j u,(ns.map (Value.int k))[j]?=some u->W.cell? ⟨gi,j,none⟩=some u:=by
 obtain ⟨xs,m,rfl,hx,hlen,hn,hel⟩:=DataW.trod_array hu hd
 intro j u hj
 rw [List.getElem?_map] at hj
 obtain ⟨n,hnj,rfl⟩:=aa hj
 have hjl:j < ns.length:=(List.getElem?_eq_some_iff.1 hnj).1
 have h1:=hel j hjl
 rw [hc,Nat.mul_one] at h1
 have hxj:j < xs.length:=by omega
 rw [List.getElem?_eq_getElem hxj] at h1
 obtain ⟨i,e1,e2,_⟩:=DataW.trod_int he h1
 simp only [Prod.mk.injEq,DataW.agg.injEq] at hx
 have h2:=congrArg (fun l=>l[j]?) hx.1
 simp only [List.getElem?_map,hnj,List.getElem?_eq_getElem hxj,Option.map_some,Option.some.injEq] at h2
 rw [e2] at h2
 simp only [DataW.lit.injEq,Lit.int.injEq,true_and] at h2
 subst h2
 rw [World.var?_cell hg hv j]
 have h3:cs.toList[j]?=some (.int k n):=by
  have:=congrArg (fun l=>l[0]?) e1
  simpa using this
 simpa using h3
theorem HD {P:Program} {W:World} {gi t:Nat} {k:IntKind} {x y:Int} {f0 f1:Field} {cs:Array Value} {fuel:Nat} {p:List MemPlace} {name:String} (hg:P.globalNamed name=some gi)
  (hu:P.underlying t=some (.struct #[f0,f1])) (h0:P.underlying f0.type=some (.int k)) (h1:P.underlying f1.type=some (.int k)) (o0:f0.offset=0) (o1:f1.offset=1)
  (c0:P.cellsOf f0.type=1) (c1:P.cellsOf f1.type=1) (hv:W.var? P name=some cs)
  (hd:DataW.trod (fun _=>()) P W 0 (fun _=>true) false fuel t cs.toList=some (.agg [.lit (.int k x),.lit (.int k y)],p)):
  ∀j u,[Value.int k x,.int k y][j]?=some u->W.cell? ⟨gi,j,none⟩=some u:=by
 obtain ⟨xs,m,rfl,hx,hlen,hn,hel⟩:=DataW.trod_struct hu hd
 have e0:=hel 0 f0 rfl
 have e1:=hel 1 f1 rfl
 rw [c0,o0] at e0
 rw [c1,o1] at e1
 match xs,hn with
 | [a,b],_=>
   simp only [List.map_cons,List.map_nil,Prod.mk.injEq,DataW.agg.injEq,List.cons.injEq,and_true] at hx
   obtain ⟨n0,a1,a2,_⟩:=DataW.trod_int h0 (show _=some a from e0)
   obtain ⟨n1,b1,b2,_⟩:=DataW.trod_int h1 (show _=some b from e1)
   rw [a2,b2] at hx
   simp only [DataW.lit.injEq,Lit.int.injEq,true_and] at hx
   obtain ⟨⟨rfl,rfl⟩,_⟩:=hx
   intro j u hj
   rw [World.var?_cell hg hv j]
   match j with
   | 0=>
     simp only [List.getElem?_cons_zero,Option.some.injEq] at hj
     subst hj
     have:=congrArg (fun l=>l[0]?) a1
     simpa using this
   | 1=>
     simp only [List.getElem?_cons_succ,List.getElem?_cons_zero,Option.some.injEq] at hj
     subst hj
     have:=congrArg (fun l=>l[0]?) b1
     simpa using this
   |j+2=>simp at hj
def Om:Value->Value->Bool
 | .agg a,.agg b=>Az a.toList b.toList
 |v,u=>MC v u
def La:List Value->List Value->Bool
 | [],[]=>true
 |a :: r,b :: s=>Om a b && La r s
 |_,_=>false
def On:Value->Value->Bool
 | .tuple a,.tuple b=>La a.toList b.toList
 |v,u=>Om v u
theorem Bo {v u:Value} (h:Om v u=true):v=u:=by
 unfold Om at h
 split at h
 ·rw [qH (jN h)]
 ·exact A4 h
theorem y5:∀{l m:List Value},La l m=true->l=m
 | [],[],_=>rfl
 |a :: l,b :: m,h=>by
  simp only [La,Bool.and_eq_true] at h
  rw [Bo h.1,y5 h.2]
 | [],_ :: _,h=>by cases h
 |_ :: _,[],h=>by cases h
theorem Bp {v u:Value} (h:On v u=true):v=u:=by
 unfold On at h
 split at h
 ·rw [qH (y5 h)]
 ·exact Bo h
inductive AD where
 |val (v:Value)
 |sl (n:Nat) (cs:List Value)
structure Can where
 g:Nat
 args:List AD
 res:Value
abbrev jl:=List Can
def tf (h:H):AD->Value->Option Bool
 | .val v,u=>some (On v u)
 | .sl n cs,.slice (some a) m _=>if n=m then (h.cells a cs.length).map (Az cs) else some false
 | .sl _ _,_=>some false
def jm (h:H):List AD->List Value->Option Bool
 | [],[]=>some true
 |p :: ps,v :: vs=>match tf h p v with
  |some true=>jm h ps vs
  |r=>r
 |_,_=>some false
def fG (h:H):jl->Nat->List Value->Option (Option Value)
 | [],_,_=>some none
 |c :: r,g,args=>match Nat.beq c.g g with
  |true=>(match jm h c.args args with
   |some true=>some (some c.res)
   |some false=>fG h r g args
   |none=>none)
  |false=>fG h r g args
def nt (tabs:fY) (h:H):Bool:=tabs.all fun p=>match h.get p.1 with |some (.ro l)=>Az p.2 l |_=>false
def eB (T:Nat->Option kM) (tabs:fY) (cs:jl) (f:Value) (args:List Value) (rc:RC) (h:H):Option (Option Value):=
 match f,rc with
 | .func (.func g) a b,.dF=>(match a.toList.isEmpty && b.toList.isEmpty with
   |true=>(match fG h cs g args with
    |some (some v)=>(match (T g).isSome && nt tabs h with
     |true=>some (some v)
     |false=>some none)
    |r=>r)
   |false=>some none)
 |_,_=>some none
def iF (k:Option (Option Value)) (h:H) (r:Option (fR × RC × H)):Option (fR × RC × H):=
 match k with
 |some (some v)=>some (.ret v,.dF,h)
 |some none=>r
 |none=>none
def rI (P:Program) (T:Nat->Option kM) (tabs:fY) (cs:jl):Nat->Rec
 | 0=>{call:=fun _ _ _ _=>none,loop:=fun _ _ _=>none}
 |n+1=>{call:=fun f args rc h=>iF (eB T tabs cs f args rc h) h (c5 P (rI P T tabs cs n) T f args rc h),loop:=fun c a h=>cT P (rI P T tabs cs n) (.loop c) a h}
noncomputable def Lb (P:Program) (T:Nat->Option kM) (tabs:fY) (cs:jl):Nat->fD:=fun n=>
 Nat.rec ⟨fun _ _ _ _=>none,fun _ _ _=>none⟩ (fun _ ih=>⟨fun f args rc h=>iF (eB T tabs cs f args rc h) h (y4 P ih T f args rc h),fun c a h=>(kF P (.loop c)).run ih a h⟩) n
theorem GA (P:Program) (T:Nat->Option kM) (tabs:fY) (cs:jl):∀n,Rr (Lb P T tabs cs n) (rI P T tabs cs n)
 | 0=>⟨rfl,fun _ _ _ _ _=>.none⟩
 |n+1=>by
  have ih:=GA P T tabs cs n
  refine ⟨?_,fun c a b h ha=>uB ih (.loop c) ha⟩
  show (fun f args rc h=>iF (eB T tabs cs f args rc h) h (y4 P (Lb P T tabs cs n) T f args rc h))=_
  simp only [DF ih]
  rfl
theorem bW.forget {P:Program} {ρ:bz} {N:Nat} {w0 w w':World} {h:H} (R:bW P ρ N w0 h w) (hb:Below w.heap.size w w'):bW P ρ N w0 h w':=
 ⟨R.below.trans (hb.mono R.size),Nat.le_trans R.size hb.size,R.fresh,R.top,R.hole,fun i b hg=>(R.blk i b hg).y6 hb.size fun x hl hx=>by
   obtain ⟨y,hy,hlt⟩:=(R.blk i b hg).DH hl
   rw [hx] at hy;cases hy
   exact hb.block _ hlt,R.y7,R.above,R.dU⟩
def AD.ok:AD->Bool
 | .val v=>dD v
 | .sl n cs=>cs.all aS && !cs.isEmpty && !(Nat.beq n 0)
def NP (W:World):AD->Value->Prop
 | .val v,u=>u=v
 | .sl n cs,u=>∃B O c,u= .slice (some ⟨B,O,none⟩) n c/\n<=c/\∀j x,cs[j]?=some x->W.cell? ⟨B,O+j,none⟩=some x
def DI (W:World):List AD->List Value->Prop
 | [],[]=>True
 |p :: ps,u :: us=>NP W p u/\DI W ps us
 |_,_=>False
structure Mh (P:Program) (tabs:fY) (c:Can):Prop where
 pure:mT P c.g=false
 args:c.args.all AD.ok=true
 res:ay c.res=true
 calls:∀(W:World) (cargs:Array Value),oV W tabs->DI W c.args cargs.toList->Calls P c.g cargs W fun e W'=>e= .returned c.res/\Below W.heap.size W W'
def oW (P:Program) (tabs:fY) (cs:jl):Prop:=∀c∈cs,Mh P tabs c
theorem sK {h:H}:∀{cs:jl} {g:Nat} {args:List Value} {v:Value},fG h cs g args=some (some v)->∃c∈cs,c.g=g/\c.res=v/\jm h c.args args=some true
 | [],_,_,_,hk=>by simp [fG] at hk
 |c :: r,g,args,v,hk=>by
  have rest:fG h r g args=some (some v)->∃c'∈c :: r,c'.g=g/\c'.res=v/\jm h c'.args args=some true:=fun hk=>by
   obtain ⟨c',h1,h2⟩:=sK hk
   exact ⟨c',List.mem_cons_of_mem _ h1,h2⟩
  simp only [fG] at hk
  split at hk
  ·rename_i hg
   split at hk
   ·rename_i hm
    simp only [Option.some.injEq] at hk
    exact ⟨c,List.mem_cons_self ..,Nat.eq_of_beq_eq_true hg,hk,hm⟩
   ·exact rest hk
   ·cases hk
  ·exact rest hk
theorem HE {P:Program} {ρ:bz} {N:Nat} {w0 w:World} {h:H} (hR:bW P ρ N w0 h w) {p:AD} (hp:p.ok=true) {v u:Value} (hv:Rv ρ v u) (hm:tf h p v=some true):NP w p u:=by
 cases p with
 |val x=>
  simp only [tf,Option.some.injEq] at hm
  have e:=Bp hm
  subst e
  exact yd hp hv
 |sl n cs=>
  simp only [AD.ok,Bool.and_eq_true] at hp
  unfold tf at hm
  split at hm
  ·rename_i heq;cases heq
  ·rename_i n' cs' a m sk heq
   cases heq
   split at hm
   ·rename_i hn
    subst hn
    obtain ⟨xs,hxs,he⟩:=aa hm
    have e:=jN he
    subst e
    obtain ⟨i,off,s⟩:=a
    have hn0:n≠0:=fun e=>by have:=hp.2;rw [e] at this;simp at this
    obtain ⟨rfl,B,O,c,hρ,hle,rfl⟩:=tj hv hn0
    obtain ⟨_,_,ds,hrl,hcell⟩:=uC hR hxs hρ
    have:=oX (p:=aS) kf hp.1.1 hrl
    subst this
    exact ⟨B,O+off,_,rfl,hle,fun j x hx=>by have:=hcell j x hx;rwa [Addr.add_lit] at this⟩
   ·cases hm
  ·cases hm
theorem y8 {P:Program} {ρ:bz} {N:Nat} {w0 w:World} {h:H} (hR:bW P ρ N w0 h w):∀{ps:List AD},ps.all AD.ok=true->∀{vs us:List Value},RL ρ vs us->jm h ps vs=some true->DI w ps us
 | [],_,[],us,hv,_=>by cases hv;trivial
 | [],_,_ :: _,us,hv,hm=>by simp [jm] at hm
 |_ :: _,_,[],us,hv,hm=>by simp [jm] at hm
 |p :: ps,hp,v :: vs,us,hv,hm=>by
  simp only [List.all_cons,Bool.and_eq_true] at hp
  cases hv with
  |cons h1 h2=>
   simp only [jm] at hm
   split at hm
   ·rename_i hm1
    exact ⟨HE hR hp.1 h1 hm1,y8 hR hp.2 h2 hm⟩
   ·rename_i r hr
    exact absurd hm hr
theorem HF {P:Program} {ρ:bz} {N:Nat} {w0 w:World} {h:H} (hR:bW P ρ N w0 h w) {tabs:fY} (hB:nV P.globals.size tabs=true) (htab:nt tabs h=true):oV w tabs:=by
 intro p hp j u hu
 have hpt:=List.all_eq_true.1 htab p hp
 obtain ⟨hs,_,hgi⟩:=lR hB hp
 split at hpt
 ·rename_i l hgl
  have hl:=jN hpt
  obtain ⟨B,O,c,ds,h1,h2,h3,h4⟩:=hR.blk _ _ hgl
  obtain ⟨c',hc'⟩:=hR.dU p.1 hgi
  rw [hc'] at h1
  simp only [Option.some.injEq,Prod.mk.injEq,Addr.mk.injEq,and_true] at h1
  obtain ⟨⟨rfl,rfl⟩,rfl⟩:=h1
  rw [← hl] at h3
  have:=oX kf hs h3
  subst this
  have:=h4 j u hu
  rwa [Nat.zero_add] at this
 ·cases hpt
theorem Ff {T:Nat->Option kM} {tabs:fY} {cs:jl} {f:Value} {args:List Value} {rc:RC} {h:H} {v:Value} (hk:eB T tabs cs f args rc h=some (some v)):
  ∃g a b,f= .func (.func g) a b/\rc= .dF/\a.toList=[]/\b.toList=[]/\(T g).isSome=true/\nt tabs h=true/\fG h cs g args=some (some v):=by
 unfold eB at hk
 split at hk
 ·rename_i g a b
  split at hk
  ·rename_i hab
   simp only [Bool.and_eq_true,List.isEmpty_iff] at hab
   split at hk
   ·rename_i v' hc
    split at hk
    ·rename_i ht
     simp only [Bool.and_eq_true] at ht
     simp only [Option.some.injEq] at hk
     subst hk
     exact ⟨g,a,b,rfl,rfl,hab.1,hab.2,ht.1,ht.2,hc⟩
    ·cases hk
   ·rename_i hne
    exact absurd hk (hne _)
  ·cases hk
 ·cases hk
theorem Jy {P:Program} {T:Nat->Option kM} (hT:Nr P T) {tabs:fY} {cs:jl} (hcs:oW P tabs cs) (hB:nV P.globals.size tabs=true)
  {f:Value} {args:List Value} {rc:RC} {h:H} {v:Value} (hk:eB T tabs cs f args rc h=some (some v)) {ρ:bz} {N:Nat} {w0 w:World} (hR:bW P ρ N w0 h w) {cf:Value} {cargs:Array Value}
  (hf:Rv ρ f cf) (ha:RL ρ args cargs.toList):
  ∃nx fr0,(do let d ← Deferred.ofValue cf cargs;invoke d.target d.args:Sem Next).run P w= .ok nx w/\lq P nx=some fr0/\
   ∀c cs,∃ρ' w',ρ.le ρ'/\bW P ρ' N w0 h w'/\Gc P ρ' fr0 c cs w w' (.ret v):=by
 obtain ⟨g,a,b,rfl,rfl,ha0,hb0,hTg,htab,hcan⟩:=Ff hk
 obtain ⟨c,hc,rfl,rfl,hm⟩:=sK hcan
 have hok:=hcs c hc
 have hC:=hok.calls w cargs (HF hR hB htab) (y8 hR hok.args ha hm)
 obtain ⟨fn,hfn⟩:=Option.isSome_iff_exists.1 hTg
 obtain ⟨pf,hpf,hcf,hname⟩:=hT c.g fn hfn
 obtain ⟨c',hb,_⟩:=kE hcf
 cases hf with
 |func _ _ a' _ b' hx hy=>
  have h1:a'=#[]:=by
   have:=hx.length
   rw [ha0] at this
   exact Array.eq_empty_of_size_eq_zero (by simpa using this.symm)
  have h2:b'=#[]:=by
   have:=hy.length
   rw [hb0] at this
   exact Array.eq_empty_of_size_eq_zero (by simpa using this.symm)
  subst h1 h2
  refine ⟨.enter c.g cargs,Frame.enter P c.g cargs .normal,?_,rfl,fun c0 cs0=>?_⟩
  ·simp only [Deferred.ofValue,Sem.run_bind,Sem.run_pure,Result.andThen,invoke,Array.empty_append,Array.append_empty]
   exact ji hpf hname hb _ _
  ·obtain ⟨e,w',fr,⟨rfl,hbel⟩,hst,hfnn,hleave⟩:=hC (c0 :: cs0)
   exact ⟨ρ,w',ρ.le_refl,hR.forget hbel,c.res,kG hok.res,Steps.trans hst (.one (step_leave_returned hleave))⟩
theorem wX {X:XD} {h h2:H} (p:bS X h h2) {q:AD} {v:Value} {b:Bool} (hm:tf h q v=some b):tf h2 q v=some b:=by
 unfold tf at hm ⊢
 split at hm
 ·exact hm
 ·split at hm
  ·rename_i hn
   rw [if_pos hn]
   obtain ⟨xs,hxs,he⟩:=aa hm
   rw [p.cells hxs,Option.map_some,he]
  ·rename_i hn
   rw [if_neg hn]
   exact hm
 ·exact hm
theorem oY {X:XD} {h h2:H} (p:bS X h h2):∀{ps:List AD} {vs:List Value} {b:Bool},jm h ps vs=some b->jm h2 ps vs=some b
 | [],[],_,hm=>hm
 | [],_ :: _,_,hm=>hm
 |_ :: _,[],_,hm=>hm
 |q :: ps,v :: vs,b,hm=>by
  simp only [jm] at hm ⊢
  split at hm
  ·rename_i h1
   rw [wX p h1]
   exact oY p hm
  ·rename_i hne
   rw [wX p hm]
   cases b with
   |false=>rfl
   |true=>exact absurd hm hne
theorem lC {X:XD} {h h2:H} (p:bS X h h2):∀{cs:jl} {g:Nat} {args:List Value} {x:Option Value},fG h cs g args=some x->fG h2 cs g args=some x
 | [],_,_,_,hk=>hk
 |c :: r,g,args,x,hk=>by
  simp only [fG] at hk ⊢
  split at hk
  ·split at hk
   ·rename_i hm;rw [oY p hm];exact hk
   ·rename_i hm;rw [oY p hm];exact lC p hk
   ·cases hk
  ·exact lC p hk
theorem DJ {tabs:fY} {n:Nat} (hB:nV n tabs=true) {X:XD} (hX:∀i,i < n->X.f i=none) {h h2:H} (p:bS X h h2):nt tabs h2=nt tabs h:=by
 have:∀l:fY,(∀q∈l,q.1 < n)->nt l h2=nt l h:=by
  intro l
  induction l with
  |nil=>intro _;rfl
  |cons q l ih=>
   intro hq
   have h1:=p.2.1 q.1
   rw [hX q.1 (hq q (List.mem_cons_self ..))] at h1
   simp only at h1
   have:=ih fun q' hq'=>hq q' (List.mem_cons_of_mem _ hq')
   unfold nt at this ⊢
   simp only [List.all_cons,h1,this]
 exact this tabs fun q hq=>(lR hB hq).2.2
theorem Fg {T:Nat->Option kM} {tabs:fY} {cs:jl} {n:Nat} (hB:nV n tabs=true) {X:XD} (hX:∀i,i < n->X.f i=none) {h h2:H} (p:bS X h h2) {f:Value} {args:List Value} {rc:RC} {x:Option Value}
  (hk:eB T tabs cs f args rc h=some x):eB T tabs cs f args rc h2=some x:=by
 unfold eB at hk ⊢
 split at hk
 ·split at hk
  ·rw [DJ hB hX p]
   split at hk
   ·rename_i v hc
    rw [lC p hc]
    exact hk
   ·rename_i hne
    rw [lC p hk]
    cases x with
    |none=>rfl
    |some v=>exact absurd hk (hne v)
  ·exact hk
 ·exact hk
theorem uD {P:Program} {T:Nat->Option kM} {tabs:fY} {cs:jl} {G:Nat} (hB:nV G tabs=true):∀n,A2 G (rI P T tabs cs n)
 | 0=>⟨fun _ _ _ _ _ _ _ _ _ _ _ h=>by simp [rI] at h,fun _ _ _ _ _ _ _ _ _ _ h=>by simp [rI] at h⟩
 |n+1=>⟨fun X f args rc h r rc' h' h2 hX p he=>by
   have he':iF (eB T tabs cs f args rc h) h (c5 P (rI P T tabs cs n) T f args rc h)=some (r,rc',h'):=he
   show ∃h2',iF (eB T tabs cs f args rc h2) h2 (c5 P (rI P T tabs cs n) T f args rc h2)=some (r,rc',h2')/\_
   cases hk:eB T tabs cs f args rc h with
   |none=>rw [hk] at he';cases he'
   |some x=>
    rw [Fg hB hX p hk]
    rw [hk] at he'
    cases x with
    |some v=>
     simp only [iF,Option.some.injEq,Prod.mk.injEq] at he' ⊢
     obtain ⟨rfl,rfl,rfl⟩:=he'
     exact ⟨h2,⟨rfl,rfl,rfl⟩,p⟩
    |none=>exact EX (uD hB n) hX p he',
  fun X c a h x a' h' h2 hX p he=>uj (uD hB n) hX (c:=.loop c) p he⟩
theorem Fh {P:Program} (hm:P.follows .mixedOrders=true) {T:Nat->Option kM} (hT:Nr P T) {tabs:fY} {cs:jl} (hcs:oW P tabs cs) (hB:nV P.globals.size tabs=true):
  ∀n,l8 P (rI P T tabs cs n)
 | 0=>⟨uD hB _,fun _ _ _ _ _ _ h=>by simp [rI] at h,fun _ _ _ _ _ _ _ _ _ h=>by simp [rI] at h,fun _ _ _ _ _ _ h=>by simp [rI] at h,fun _ _ _ _ _ _ _ h=>by simp [rI] at h⟩
 |n+1=>by
  have ih:=Fh hm hT hcs hB n
  refine ⟨uD hB _,fun f args h res rc' h' he ρ N w0 w cf cargs hR hf ha=>?_,fun g x y args rc h v rc' h' he ρ N w0 w x' y' args' c0 fs hR hx hy ha hmode=>?_,?_,fun g args h res rc' h' hp he=>?_⟩
  ·have he':iF (eB T tabs cs f args .dF h) h (c5 P (rI P T tabs cs n) T f args .dF h)=some (res,rc',h'):=he
   cases hk:eB T tabs cs f args .dF h with
   |none=>rw [hk] at he';cases he'
   |some x=>
    rw [hk] at he'
    cases x with
    |some v=>
     simp only [iF,Option.some.injEq,Prod.mk.injEq] at he'
     obtain ⟨rfl,rfl,rfl⟩:=he'
     exact Jy hT hcs hB hk hR hf ha
    |none=>exact E2 ih hm hT he' hR hf ha
  ·have he':iF (eB T tabs cs (.func (.func g) x y) args rc h) h (c5 P (rI P T tabs cs n) T (.func (.func g) x y) args rc h)=some (.ret v,rc',h'):=he
   have hk:eB T tabs cs (.func (.func g) x y) args rc h=some none:=by
    cases rc<;>first |rfl |exact hmode.elim
   rw [hk] at he'
   exact Dm ih hm hT he' hR hx hy ha hmode
  ·intro code a h x a' h' he ρ N w0 w b k cs' ca hR hst
   have he':cT P (rI P T tabs cs n) (.loop (cl P code)) a h=some (x,a',h'):=he
   simp only [cT] at he'
   refine .pre (.one stepR_inLoop) ?_
   split at he'
   ·rename_i a1 h1 h1e
    exact .andThen hst (yG ih hm code hR hst h1e) fun ρ1 w1 ca1 cs1 hle hR1 hs1=>ih.loop code _ _ _ _ _ he' _ _ _ _ _ _ _ _ hR1 hs1
   ·rename_i hne
    refine (yG ih hm code (k:=.inLoop code :: k) hR hst he').I5 (fun id=>rfl) ?_
    rintro rfl
    exact hne _ _ he'
  ·have hk:∀h,eB T tabs cs (.func (.func g) #[] #[]) args .dF h=some none:=fun h=>by
    have hno:∀{ds:jl},(∀c∈ds,Mh P tabs c)->fG h ds g args=some none:=by
     intro ds
     induction ds with
     |nil=>intro _;rfl
     |cons c r ihd=>
      intro hds
      simp only [fG]
      cases hg:Nat.beq c.g g with
      |false=>exact ihd fun c hc=>hds c (List.mem_cons_of_mem _ hc)
      |true=>
       have:=(hds c (List.mem_cons_self ..)).pure
       rw [Nat.eq_of_beq_eq_true hg,hp] at this;cases this
    simp only [eB,hno hcs]
    rfl
   have he':iF (eB T tabs cs (.func (.func g) #[] #[]) args .dF h) h (c5 P (rI P T tabs cs n) T (.func (.func g) #[] #[]) args .dF h)=some (res,rc',h'):=he
   rw [hk] at he'
   obtain ⟨e1,e2⟩:=E3 hT hp he'
   refine ⟨e1,fun h2=>?_⟩
   show iF (eB T tabs cs (.func (.func g) #[] #[]) args .dF h2) h2 (c5 P (rI P T tabs cs n) T (.func (.func g) #[] #[]) args .dF h2)=_
   rw [hk]
   exact e2 h2
def y9 (h:H):Prop:=∀i b,h.get i=some b->b.own=false
theorem uE (n:Nat) (tabs:fY):y9 (hstart n tabs):=fun i b hb=>by
 obtain ⟨p,_,_,rfl⟩:=jS hb;rfl
theorem y9.ro {h:H} (hn:y9 h) (cs:List Value):y9 (h.alloc (.ro cs)):=fun i b hb=>by
 by_cases e:i=h.next
 ·subst e;rw [H.aH] at hb;cases hb;rfl
 ·rw [H.aI h _ e] at hb;exact hn i b hb
theorem bW.Oo {P:Program} {ρ:bz} {N:Nat} {w0 w:World} {h:H} (R:bW P ρ N w0 h w) (hn:y9 h) (cs:List Value) (a:Addr) (c:Nat) (hs:a.spot=none) (hlt:a.block < w.heap.size) {ds:List Value} (hr:RL ρ cs ds)
  (hc:∀j u,ds[j]?=some u->w.cell? ⟨a.block,a.off+j,none⟩=some u):bW P (ρ.lN h.next (a,c)) N w0 (h.alloc (.ro cs)) w:=by
 obtain ⟨B,O,s⟩:=a
 simp only at hs hlt hc
 subst hs
 have hfr:=R.fresh h.next (Nat.le_refl _)
 have hle:=bz.eM (⟨B,O,none⟩,c) hfr
 have hno:=hn.ro cs
 refine ⟨R.below,R.size,?_,?_,?_,?_,?_,?_,?_⟩
 ·intro i hi
  rw [H.bx] at hi
  rw [bz.iO ρ _ (by omega)]
  exact R.fresh i (by omega)
 ·intro i hi
  rw [H.bx] at hi
  rw [H.aI h _ (by omega)]
  exact R.top i (by omega)
 ·intro i hi hg
  by_cases e:i=h.next
  ·subst e;rw [H.aH] at hg;cases hg
  ·rw [H.aI h _ e] at hg
   rw [bz.iO ρ _ e]
   exact R.hole i hi hg
 ·intro i b' hg
  by_cases e:i=h.next
  ·subst e
   rw [H.aH] at hg
   cases hg
   exact ⟨B,O,c,ds,bz.aY _ _ _,hlt,hr.mono hle,hc⟩
  ·rw [H.aI h _ e] at hg
   exact (R.blk i b' hg).mono hle
 ·intro i j b1 b2 x y h1 _ _ ho
  rw [hno i b1 h1] at ho;cases ho
 ·intro i b1 x h1 ho
  rw [hno i b1 h1] at ho;cases ho
 ·intro g hg
  obtain ⟨c',hc'⟩:=R.dU g hg
  exact ⟨c',hle _ _ hc'⟩
def qI:List AD->H->List Value × H
 | [],h=>([],h)
 | .val v :: r,h=>let x:=qI r h;(v :: x.1,x.2)
 | .sl n cs :: r,h=>let x:=qI r (h.alloc (.ro cs));(.slice (some ⟨h.next,0,none⟩) n 0 :: x.1,x.2)
theorem tn {P:Program} {N:Nat} {w0 W:World}:∀{ps:List AD} {us:List Value} {h:H} {ρ:bz},ps.all AD.ok=true->DI W ps us->bW P ρ N w0 h W->y9 h->
  ∃ρ',ρ.le ρ'/\bW P ρ' N w0 (qI ps h).2 W/\RL ρ' (qI ps h).1 us
 | [],[],h,ρ,_,_,R,_=>⟨ρ,ρ.le_refl,R,.nil⟩
 | [],_ :: _,_,_,_,hw,_,_=>hw.elim
 |_ :: _,[],_,_,_,hw,_,_=>hw.elim
 | .val v :: ps,u :: us,h,ρ,hp,hw,R,hn=>by
   simp only [List.all_cons,Bool.and_eq_true] at hp
   obtain ⟨ρ',h1,h2,h3⟩:=tn hp.2 hw.2 R hn
   have e:u=v:=hw.1
   subst e
   exact ⟨ρ',h1,h2,.cons (rJ hp.1) h3⟩
 | .sl n cs :: ps,u :: us,h,ρ,hp,hw,R,hn=>by
   simp only [List.all_cons,Bool.and_eq_true] at hp
   obtain ⟨B,O,c,rfl,hle,hcell⟩:=hw.1
   have hp1:=hp.1
   simp only [AD.ok,Bool.and_eq_true,Bool.not_eq_true',List.isEmpty_eq_false_iff] at hp1
   have hp1:=hp1.1
   have hlt:B < W.heap.size:=by
    obtain ⟨v,l,hl⟩:=List.exists_cons_of_ne_nil hp1.2
    have h0:=hcell 0 v (by rw [hl];rfl)
    rcases Nat.lt_or_ge B W.heap.size with h |h
    ·exact h
    ·have hn:W.heap[B]?=none:=Array.getElem?_eq_none_iff.2 h
     simp [World.cell?,hn] at h0
   have R1:=R.Oo hn cs ⟨B,O,none⟩ c rfl hlt (cN bX hp1.1) hcell
   obtain ⟨ρ',h1,h2,h3⟩:=tn hp.2 hw.2 R1 (hn.ro cs)
   refine ⟨ρ',bz.le_trans (bz.eM _ (R.fresh h.next (Nat.le_refl _))) h1,h2,.cons ?_ h3⟩
   have:=Rv.l9 (ρ:=ρ') h.next 0 n B O c (h1 _ _ (bz.aY _ _ _)) hle
   simpa using this
def Jz (v:Value):Option (fR × RC × H)->Bool
 |some (.ret u,_,_)=>On v u
 |_=>false
theorem HG {P:Program} {tabs:fY} {cs:jl} {g n:Nat} {ps:List AD} {v:Value} (hm:P.follows .mixedOrders=true) (hN:P.funcs.toList.all (fun f=>!(f.name == "runtime.NumGoroutine"))=true)
  (hcs:oW P tabs cs) (hB:nV P.globals.size tabs=true) (hps:ps.all AD.ok=true) (hv:ay v=true)
  (he:Jz v (y4 P (Lb P (kU P) tabs cs n) (kU P) (.func (.func g) #[] #[]) (qI ps (hstart P.globals.size tabs)).1 .dF (qI ps (hstart P.globals.size tabs)).2)=true) (W:World)
  (hW:oV W tabs) (cargs:Array Value) (hc:DI W ps cargs.toList):
  Calls P g cargs W fun e W'=>e= .returned v/\Below W.heap.size W W':=by
 rw [DF (GA P (kU P) tabs cs n)] at he
 unfold Jz at he
 split at he
 ·rename_i u0 rc h' hrun
  have eu:=Bp he
  subst eu
  have hrec:=Fh hm (Ck hN) hcs hB n
  obtain ⟨ρ0,_,hR,hargs⟩:=tn hps hc (Bn (P:=P) hB hW) (uE _ _)
  intro cs0
  simp only [c5] at hrun
  split at hrun
  ·rename_i fn hTg
   obtain ⟨pf,hpf,hcf,hname⟩:=Ck hN g fn hTg
   split at hrun
   ·rename_i x a' h1 hev
    obtain ⟨ρ1,w1,cs1,fr,hle,R1,hcs1,hst,hk,hd,hfn,u,hu,hmo,hru⟩:=ya hrec hm hpf hcf (kind:=.normal) (cs:=cs0) (targs:=cargs) (by simpa using hargs)
     (show xG _ _ _ .dF from trivial) hev hrun hR
    have e:=kD hcs1
    subst e
    have:=nW hv hu
    subst this
    exact ⟨.returned _,w1,fr,⟨rfl,R1.below⟩,hst,hfn,hmo,hd,hk,pf,by rw [hfn];exact hpf,hru⟩
   ·cases hrun
  ·cases hrun
 ·cases he
theorem HH {P:Program} {tabs:fY} {cs:jl} {n:Nat} (hm:P.follows .mixedOrders=true) (hN:P.funcs.toList.all (fun f=>!(f.name == "runtime.NumGoroutine"))=true)
  (hB:nV P.globals.size tabs=true) {ds:jl} (hds:oW P tabs ds) (hsc:(cs.all fun c=>c.args.all AD.ok && ay c.res && !(mT P c.g))=true)
  (he:(cs.all fun c=>Jz c.res (y4 P (Lb P (kU P) tabs ds n) (kU P) (.func (.func c.g) #[] #[]) (qI c.args (hstart P.globals.size tabs)).1 .dF (qI c.args (hstart P.globals.size tabs)).2))=true):oW P tabs cs:=by
 intro c hc
 rw [List.all_eq_true] at hsc he
 have h1:=hsc c hc
 simp only [Bool.and_eq_true,Bool.not_eq_true'] at h1
 exact ⟨h1.2,h1.1.1,h1.1.2,fun W cargs hW hp=>HG hm hN hds hB h1.1.1 h1.1.2 (he c hc) W hW cargs hp⟩
theorem Fi {P:Program} {tabs:fY}:oW P tabs []:=fun _ h=>by cases h
end Go.Ev
