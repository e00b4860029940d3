/- The evaluator over a small code, and that what it finds of a call holds of the machine, part 16. -/
import Derived.Test.YtcajalekkffcjaaDoorEv16p
namespace Go.Ev
open Go Go.RowKit
variable {P:Program} {ρ ρ':bz} {N:Nat} {w0 w:World} {h h':H}
def ur (tmps:Array Value):ResultVar->Sem Value
 | .tmp t=>pure (tmps.getD t undef)
 | .cell a t=>do loadVar t (← asAddr (tmps.getD a undef))
theorem wL {x:ResultVar} {r:List ResultVar} {l:List Db} (hc:mh P (x :: r)=some l):∃y m,l=y :: m/\Dj P x=some y/\mh P r=some m:=by
 simp only [mh] at hc
 split at hc
 ·rename_i x m h1 h2;cases hc;exact ⟨x,m,rfl,h1,h2⟩
 ·cases hc
theorem Dk (a:Array Value) (i:Nat):a.getD i undef=a.toList.getD i undef:=by simp [Array.getD_eq_getD_getElem?,List.getD_eq_getElem?_getD]
theorem vE {ts us:List Value} (hw:∀t:Nat,nO (ts.getD t undef)=true\/ts.getD t undef=us.getD t undef):∀(l:List Db) (vs:List Value),ia h ts l=some vs->ia h us l=some vs
 | [],_,hv=>hv
 | .tmp t :: r,vs,hv=>by
   simp only [ia] at hv ⊢
   rcases hw t with hb |he
   ·rw [if_pos hb] at hv;cases hv
   ·rw [← he]
    split at hv
    ·cases hv
    ·rename_i hb
     rw [if_neg hb]
     obtain ⟨vs',hv',rfl⟩:=aa hv
     rw [vE hw r vs' hv'];rfl
 | .cell t agg n :: r,vs,hv=>by
   simp only [ia] at hv ⊢
   have he:ts.getD t undef=us.getD t undef:=by
    rcases hw t with hb |he
    ·split at hv
     ·rename_i p hp;rw [hp] at hb;cases hb
     ·cases hv
    ·exact he
   rw [← he]
   split at hv
   ·split at hv
    ·split at hv
     ·rename_i v l' hv1 hv2
      have:=vE hw r l' hv2
      simp only [hv1,this]
      exact hv
     ·cases hv
    ·cases hv
   ·cases hv
theorem Cb (hR:bW P ρ N w0 h w) {ts:List Value} {tmps:Array Value} (ht:RL ρ ts tmps.toList):∀(rs:List ResultVar) (l:List Db),mh P rs=some l->∀vs,ia h ts l=some vs->
  ∃us,(rs.mapM (ur tmps)).run P w= .ok us w/\RL ρ vs us
 | [],l,hc,vs,hv=>by
   simp only [mh,Option.some.injEq] at hc
   subst hc
   simp only [ia,Option.some.injEq] at hv
   subst hv
   exact ⟨[],by simp,.nil⟩
 |x :: r,l,hc,vs,hv=>by
  obtain ⟨y,m,rfl,hx,hr⟩:=wL hc
  cases x with
  |tmp t=>
   simp only [Dj,Option.some.injEq] at hx
   subst hx
   simp only [ia] at hv
   split at hv
   ·cases hv
   obtain ⟨vs',hv',rfl⟩:=aa hv
   obtain ⟨us,h1,h2⟩:=Cb hR ht r m hr vs' hv'
   refine ⟨tmps.getD t undef :: us,?_,.cons ?_ h2⟩
   ·simp only [List.mapM_cons,Sem.run_bind,ur,Sem.run_pure,Result.andThen,h1]
   ·rw [Dk];exact ht.getD t
  |cell c t=>
   simp only [Dj] at hx
   obtain ⟨⟨agg,n⟩,hl,rfl⟩:=aa hx
   simp only [ia] at hv
   have ha:Rv ρ (ts.getD c undef) (tmps.getD c undef):=by rw [Dk];exact ht.getD c
   split at hv
   ·rename_i p hp
    rw [hp] at ha
    split at hv
    ·rename_i cells hcells
     split at hv
     ·rename_i v l' hv1 hv2
      simp only [Option.some.injEq] at hv
      subst hv
      obtain ⟨us,h1,h2⟩:=Cb hR ht r m hr l' hv2
      obtain ⟨u,h3,h4⟩:=Gh hR hl ha hcells hv1
      refine ⟨u :: us,?_,.cons h4 h2⟩
      generalize hcu:tmps.getD c undef=cu at ha h3
      cases ha with
      |ptr i off B O cc hρ=>
       simp only [Instr.loadAt,Instr.sureAddr,Sem.run_bind,Sem.run_pure,Result.andThen] at h3
       simp only [List.mapM_cons,Sem.run_bind,ur,hcu,asAddr,Sem.run_pure,Result.andThen,h3,h1]
     ·cases hv
    ·cases hv
   ·cases hv
theorem E0 (hR:bW P ρ N w0 h w) {ts:List Value} {tmps:Array Value} (ht:RL ρ ts tmps.toList) {fn:Func} {l:List Db} (hc:mh P fn.results.toList=some l) {vs:List Value}
  (hv:ia h ts l=some vs):∃u,(results fn tmps).run P w= .ok u w/\Rv ρ (iq vs) u:=by
 obtain ⟨us,h1,h2⟩:=Cb hR ht _ _ hc _ hv
 refine ⟨if h:us.toArray.size=1 then us.toArray[0] else .tuple us.toArray,?_,?_⟩
 ·have e:results fn tmps=(do
    let vs ← fn.results.mapM (ur tmps)
    pure (if h:vs.size=1 then vs[0] else .tuple vs)):=by
   unfold results
   congr 2
  rw [e,Array.mapM_eq_mapM_toList]
  simp [h1,Result.andThen]
 ·cases h2 with
  |nil=>simpa [iq] using Rv.tuple _ _ .nil
  |cons hx ht=>
   cases ht with
   |nil=>simpa [iq] using hx
   |cons hy ht=>simpa [iq] using Rv.tuple _ _ (.cons hx (.cons hy ht))
def oS (ρ:bz):Option Value->FrameMode->Prop
 |none,m=>m= .returning
 |some v,m=>∃u,Rv ρ v u/\m= .panicking [{v:=u,recovered:=false}]
theorem oS.mono (hle:ρ.le ρ') {m:Option Value} {u:FrameMode} (h:oS ρ m u):oS ρ' m u:=by
 cases m with
 |none=>exact h
 |some v=>obtain ⟨x,h1,h2⟩:=h;exact ⟨x,h1.mono hle,h2⟩
theorem oS.I6 {m:Option Value} {u:FrameMode} (h:oS ρ m u):u≠ .run:=by
 cases m with
 |none=>rw [show u= .returning from h];exact fun e=>by cases e
 |some v=>obtain ⟨x,_,rfl⟩:=h;exact fun e=>by cases e
theorem oT {rec:Rec} (hrec:l8 P rec):∀(l:List fF) {ρ:bz} {N:Nat} {w0 w:World} {h:H} {m m':Option Value} {h':H} {fr:Frame} {cs:List Frame},
  bt rec l m h=some (m',h')->bW P ρ N w0 h w->wM ρ l fr.defers->oS ρ m fr.mode->
  ∃ρ' w' u,ρ.le ρ'/\bW P ρ' N w0 h' w'/\oS ρ' m' u/\Steps P (lone fr cs w) (lone {fr with defers:=[],mode:=u} cs w')
 | [],ρ,N,w0,w,h,m,m',h',fr,cs,he,hR,hd,hm=>by
   simp only [bt,Option.some.injEq,Prod.mk.injEq] at he
   obtain ⟨rfl,rfl⟩:=he
   refine ⟨ρ,w,fr.mode,ρ.le_refl,hR,hm,?_⟩
   have:fr.defers=[]:=by generalize fr.defers=d at hd;cases hd;rfl
   have e:{fr with defers:=[],mode:=fr.mode}=fr:=by rw [← this]
   rw [e];exact .refl _ _
 | .coll d :: r,ρ,N,w0,w,h,m,m',h',fr,cs,he,hR,hd,hm=>by
   simp only [bt] at he
   split at he
   ·rename_i hg
    generalize hfd:fr.defers=fd at hd
    cases hd with
    |cons hx ht=>
     rename_i e l
     cases hx with
     |coll _ B c hρ=>
      obtain ⟨B',c',hρ',hb⟩:=hR.blk _ _ hg
      rw [hρ] at hρ'
      simp only [Option.some.injEq,Prod.mk.injEq,Addr.mk.injEq,and_true] at hρ'
      obtain ⟨rfl,rfl⟩:=hρ'
      have hst:=step_collected (cs:=cs) hm.I6 hfd rfl (run_takeDeferred (P:=P) hb)
      have hNle:=hR.above _ _ _ hg rfl hρ
      have R1:=hR.update hg rfl .dead hρ (lB N w B (.deferred none) hNle) (fun j hj hne=>World.putObj_heap_other hne) trivial
      obtain ⟨ρ2,w2,u,h1,h2,h3,h4⟩:=oT hrec r (fr:={fr with defers:=[]++l}) (cs:=cs) he R1 ht hm
      exact ⟨ρ2,w2,u,h1,h2,h3,.head hst h4⟩
   ·cases he
 | .call f args :: r,ρ,N,w0,w,h,m,m',h',fr,cs,he,hR,hd,hm=>by
   simp only [bt] at he
   split at he
   ·rename_i v rc' h1 hcall
    generalize hfd:fr.defers=fd at hd
    cases hd with
    |cons hx ht=>
     rename_i e l
     cases hx with
     |call g x x' y y' _ args' hx hy ha=>
      have hrun:=hrec.defer g x y args _ h v rc' h1 hcall ρ N w0 w x' y' args' {fr with defers:=l} cs hR hx hy ha (by
       cases m with
       |none=>exact hm
       |some v=>exact hm)
      obtain ⟨fargs,ρ1,w1,hinv,hle1,R1,hst⟩:=hrun
      have hst0:=step_defer (cs:=cs) hm.I6 hfd rfl hinv
      have hmode:oS ρ1 (if rc'.isDone then none else m) (if rc'.isDone then FrameMode.returning else fr.mode):=by
       cases rc'.isDone with
       |true=>rfl
       |false=>exact hm.mono hle1
      obtain ⟨ρ2,w2,u,h1,h2,h3,h4⟩:=oT hrec r (fr:={fr with defers:=l,mode:=(if rc'.isDone then FrameMode.returning else fr.mode)}) (cs:=cs) he R1 (ht.mono hle1) hmode
      exact ⟨ρ2,w2,u,bz.le_trans hle1 h1,h2,h3,.head hst0 (Steps.trans hst h4)⟩
   ·cases he
theorem kD {rc':RC} {cs cs':List Frame} (h:kQ .dF rc' cs cs'):cs'=cs:=by
 rcases h with ⟨_,rfl⟩ |⟨v,c0,rest,u,hh,_⟩
 ·rfl
 ·cases hh
theorem kE {f:Func} {fn:kM} (hc:Dl P f=some fn):∃c,f.body=some c/\fn.body=cl P c/\fn.ntmps=f.ntmps/\mh P f.results.toList=some fn.results:=by
 unfold Dl at hc
 split at hc
 ·rename_i c rs h1 h2;cases hc;exact ⟨c,h1,rfl,rfl,h2⟩
 ·cases hc
theorem ya {rec:Rec} (hrec:l8 P rec) (hm:P.follows .mixedOrders=true) {g:FuncId} {f:Func} {fn:kM} (hf:P.funcs[g]?=some f) (hc:Dl P f=some fn) {kind:CallKind}
  {ts:List Value} {targs:Array Value} (ht:RL ρ ts targs.toList) {rc rc':RC} {cs:List Frame} (hrc:xG ρ {(default:Frame) with fn:=g,kind:=kind} cs rc) {x:aM} {a':aD} {h1:H}
  (he:cT P rec fn.body (s6 fn ts rc) h=some (x,a',h1)) {res:fR}
  (hfin:eC rec fn x a' h1=some (res,rc',h')) (hR:bW P ρ N w0 h w):
  ∃ρ' w' cs' fr,ρ.le ρ'/\bW P ρ' N w0 h' w'/\kQ rc rc' cs cs'/\Steps P (lone (Frame.enter P g targs kind) cs w) (lone fr cs' w')/\fr.kind=kind/\fr.defers=[]/\fr.fn=g/\(match res with
   | .ret v=>∃u,Rv ρ' v u/\fr.mode= .returning/\(results f fr.tmps).run P w'= .ok u w'
   | .panic v=>∃u,Rv ρ' v u/\fr.mode= .panicking [{v:=u,recovered:=false}]):=by
 obtain ⟨c,hb,hbody,hnt,hrs⟩:=kE hc
 let b:Frame:={(default:Frame) with fn:=g,kind:=kind}
 let ca:Act:={tmps:=targs++Array.replicate (f.ntmps - targs.size) undef,defers:=[]}
 have henter:Frame.enter P g targs kind=b.atR ca [.code c]:=by
  simp [Frame.enter,Frame.atR,hf,hb,b,ca]
  rfl
 have hlen:ts.length=targs.size:=by simpa using ht.length
 have hs:eT ρ b cs (s6 fn ts rc) ca:=by
  refine ⟨⟨?_,.nil⟩,hrc,rfl⟩
  show RL ρ (ts++List.replicate (fn.ntmps - ts.length) undef) (targs++Array.replicate (f.ntmps - targs.size) undef).toList
  rw [Array.toList_append,Array.toList_replicate,hnt,hlen]
  exact ht.append (RL.replicate _)
 rw [hbody] at he
 obtain ⟨ρ1,w1,ca1,cs1,hle1,R1,hact,hcs,_,harr⟩:=yG hrec hm c (k:=[]) hR hs he
 rw [← henter] at harr
 have hactP:Ga ρ1 a' ca1:=by
  cases x with
  |panic v=>exact hact
  |_=>exact lZ.OA hact
 obtain ⟨ts1,hact1,hweak⟩:=hactP
 have hleave:∃m todo u,s7 x=some m/\oS ρ1 m u/\
   Steps P (lone (Frame.enter P g targs kind) cs w) (lone {b.atR ca1 todo with mode:=u} cs1 w1):=by
  cases x with
  |normal=>exact ⟨none,[],.returning,rfl,rfl,Steps.trans harr (.one (stepR_end rfl))⟩
  |ret=>obtain ⟨k1,hst⟩:=harr;exact ⟨none,_,.returning,rfl,rfl,Steps.trans hst (.one (stepR_ret rfl))⟩
  |panic v=>obtain ⟨todo,u,_,hu,hst⟩:=harr;exact ⟨some v,todo,_,rfl,⟨u,hu,rfl⟩,hst⟩
  |exit id=>simp [eC,s7] at hfin
 obtain ⟨m,todo,u,hmx,hmode,hst⟩:=hleave
 unfold eC at hfin
 simp only [hmx] at hfin
 split at hfin
 ·rename_i h2 hun
  obtain ⟨l,hl,hres⟩:=aa hfin
  simp only [Prod.mk.injEq] at hres
  obtain ⟨rfl,rfl,rfl⟩:=hres
  obtain ⟨ρ2,w2,u2,hle2,R2,hm2,hst2⟩:=oT hrec a'.defers (fr:={b.atR ca1 todo with mode:=u}) (cs:=cs1) hun R1 hact1.defers hmode
  obtain ⟨uv,hru,hrv⟩:=E0 R2 (hact1.tmps.mono hle2) hrs (vE hweak _ _ hl)
  exact ⟨ρ2,w2,cs1,_,bz.le_trans hle1 hle2,R2,hcs,Steps.trans hst hst2,rfl,rfl,rfl,uv,hrv,hm2,hru⟩
 ·rename_i v h2 hun
  simp only [Option.some.injEq,Prod.mk.injEq] at hfin
  obtain ⟨rfl,rfl,rfl⟩:=hfin
  obtain ⟨ρ2,w2,u2,hle2,R2,hm2,hst2⟩:=oT hrec a'.defers (fr:={b.atR ca1 todo with mode:=u}) (cs:=cs1) hun R1 hact1.defers hmode
  obtain ⟨uv,hrv,rfl⟩:=hm2
  exact ⟨ρ2,w2,cs1,_,bz.le_trans hle1 hle2,R2,hcs,Steps.trans hst hst2,rfl,rfl,rfl,uv,hrv,rfl⟩
 ·cases hfin
theorem E1 {fr c:Frame} {cs:List Frame} {w:World} {chain:List PanicEntry} (hm:fr.mode= .panicking chain) (hd:fr.defers=[]) (hc:ES fr.todo):
  step P (lone fr (c :: cs) w)= .next (lone (c.raise chain) cs w):=by
 have hcat:fr.catches P=false:=by
  unfold Frame.catches
  split
  ·rename_i h;rw [h] at hc;exact hc.elim
  ·rfl
 exact step_lone_go (by simp [stepG,unwind,hm,hd,hcat])
theorem uu:∀(ps:List Tmp) (args cargs:List Value),RL ρ args cargs->∀(ts:List Value) (tmps:Array Value),RL ρ ts tmps.toList->
  RL ρ (fc ts ps args) ((ps.zip cargs).foldl (fun tmps (t,a)=>tmps.setIfInBounds t a) tmps).toList
 | [],args,cargs,ha,ts,tmps,ht=>by
   have:fc ts [] args=ts:=by cases args<;>rfl
   rw [this];exact ht
 |p :: ps,[],cargs,ha,ts,tmps,ht=>by
  cases ha
  exact ht
 |p :: ps,v :: vs,cargs,ha,ts,tmps,ht=>by
  cases ha with
  |cons h t=>
   rename_i u m
   simp only [fc,List.zip_cons_cons,List.foldl_cons]
   exact uu ps vs m t _ _ (by simpa using ht.set p h)
theorem Hv {rec:Rec} (hrec:l8 P rec) (hm:P.follows .mixedOrders=true) {l:Nat} {args:List Value} {res:fR} {rc':RC} (he:gH P rec l args h=some (res,rc',h')) (hR:bW P ρ N w0 h w)
  {B O c0:Nat} (hρ:ρ l=some (⟨B,O,none⟩,c0)) {cargs:Array Value} (ha:RL ρ args cargs.toList):
  ∃L:Loop,w.heap[B]?=some (.loop L)/\cargs.size=L.params.size/\∀c cs,∃ρ' w',ρ.le ρ'/\bW P ρ' N w0 h' w'/\
   Gc P ρ' (Frame.round B L.fn ((L.params.zip cargs).foldl (fun tmps (t,a)=>tmps.setIfInBounds t a) L.tmps) L.assign L.body .normal) c cs w w' res:=by
 unfold gH at he
 split at he
 ·rename_i pend ts ps as bd hg
  obtain ⟨B',c',L,hB,hL,hLs,_,hLt,hLps,hLa,hLb⟩:=hR.blk _ _ hg
  rw [hρ] at hB
  simp only [Option.some.injEq,Prod.mk.injEq,Addr.mk.injEq,and_true] at hB
  obtain ⟨⟨rfl,rfl⟩,rfl⟩:=hB
  split at he
  ·rename_i hlen
   have hsz:cargs.size=L.params.size:=by
    have h1:args.length=cargs.size:=by simpa using ha.length
    have h2:ps.length=L.params.size:=by rw [← hLps];simp
    omega
   refine ⟨L,hL,hsz,fun c cs=>?_⟩
   split at he
   ·rename_i a1 h1 hev1
    split at he
    ·rename_i pend1 ts1 ps1 as1 bd1 hg1
     split at he
     ·rename_i x a2 h2 hev2
      let b:Frame:={(default:Frame) with fn:=L.fn,kind:=.normal,roundOf:=some B}
      let tm:=(L.params.zip cargs).foldl (fun tmps (t,a)=>tmps.setIfInBounds t a) L.tmps
      have htm:RL ρ (fc ts ps args) tm.toList:=by
       have:=uu ps args cargs.toList ha ts L.tmps hLt
       rw [← hLps,← Array.toList_zip,Array.foldl_toList,hLps] at this
       exact this
      have hb0:Frame.round B L.fn tm L.assign L.body .normal=b.atR {tmps:=tm,defers:=[]} [.code L.assign,.beginRound,.code L.body]:=by
       simp [Frame.round,Frame.atR,b]
      have hs:eT ρ b (c :: cs) {tmps:=fc ts ps args,defers:=[],rc:=.dF,round:=true} {tmps:=tm,defers:=[]}:=⟨⟨htm,.nil⟩,trivial,rfl⟩
      rw [← hLa] at hev1
      obtain ⟨ρ1,w1,ca1,cs1,hle1,R1,hact1,hcs1,hrd1,harr1⟩:=yG hrec hm L.assign (k:=[.beginRound,.code L.body]) hR hs hev1
      have hs1:=hs.next hle1 hact1 hcs1 hrd1
      have e1:=kD hcs1
      subst e1
      obtain ⟨B1,c1,L1,hB1,hL1,hL1s,hL1p,hL1t,hL1ps,hL1a,hL1b⟩:=R1.blk _ _ hg1
      rw [hle1 _ _ hρ] at hB1
      simp only [Option.some.injEq,Prod.mk.injEq,Addr.mk.injEq,and_true] at hB1
      obtain ⟨rfl,rfl⟩:=hB1
      have hstb:=stepR_beginRound (b:=b) (a:=ca1) (k:=[.code L.body]) (cs:=c :: cs) (l:=B) rfl (run_beginRound (P:=P) hL1 hL1s)
      have hNle:=R1.above _ _ _ hg1 rfl (hle1 _ _ hρ)
      have R1':=R1.update hg1 rfl (.loop .busy pend1 ts1 ps1 as1 bd1) (hle1 _ _ hρ) (lB N w1 B (.loop {L1 with state:=.busy}) hNle) (fun j hj hne=>World.putObj_heap_other hne)
       ⟨B,c0,_,hle1 _ _ hρ,World.putObj_heap_same (Array.getElem?_eq_some_iff.1 hL1).1,rfl,hL1p,hL1t,hL1ps,hL1a,hL1b⟩
      rw [← hLb] at hev2
      obtain ⟨ρ2,w2,ca2,cs2,hle2,R2,hact2,hcs2,hrd2,harr2⟩:=yG hrec hm L.body (k:=[]) R1' hs1 hev2
      have e2:cs2=c :: cs:=by
       rcases hcs1 with ⟨e,_⟩ |⟨v,c0,rest,u,hh,_⟩
       ·rw [e] at hcs2;exact kD hcs2
       ·cases hh
      subst e2
      have hpre:=Steps.trans harr1 (.one hstb)
      rw [← hb0] at hpre
      split at he
      ·rename_i st2 pend2 ts2 ps2 as2 bd2 hd2 hg2
       obtain ⟨B2,c2,L2,hB2,hL2,hL2s,hL2p,hL2t,hL2ps,hL2a,hL2b⟩:=R2.blk _ _ hg2
       rw [hle2 _ _ (hle1 _ _ hρ)] at hB2
       simp only [Option.some.injEq,Prod.mk.injEq,Addr.mk.injEq,and_true] at hB2
       obtain ⟨rfl,rfl⟩:=hB2
       have hNle2:=R2.above _ _ _ hg2 rfl (hle2 _ _ (hle1 _ _ hρ))
       have key:∀(jump:Option (Option Nat)),bW P ρ2 N w0 (h2.set l (.loop (if (Gi jump).isNone then .ready else .done) jump ts2 ps2 as2 bd2)) (w2.putObj B (.loop {L2 with state:=if (Gi jump).isNone then .ready else .done,pending:=Gi jump})):=fun jump=>
        R2.update hg2 rfl _ (hle2 _ _ (hle1 _ _ hρ)) (lB N w2 B _ hNle2) (fun j hj hne=>World.putObj_heap_other hne)
         ⟨B,c0,_,hle2 _ _ (hle1 _ _ hρ),World.putObj_heap_same (Array.getElem?_eq_some_iff.1 hL2).1,rfl,rfl,hL2t,hL2ps,hL2a,hL2b⟩
       cases x with
       |normal=>
        simp only [Option.some.injEq,Prod.mk.injEq] at he
        obtain ⟨rfl,rfl,rfl⟩:=he
        exact ⟨ρ2,_,bz.le_trans hle1 hle2,key none,_,.bool true,Steps.trans hpre (Steps.trans harr2 (.one (stepR_round_end rfl rfl (run_endRound (P:=P) none hL2))))⟩
       |ret=>
        simp only [Option.some.injEq,Prod.mk.injEq] at he
        obtain ⟨rfl,rfl,rfl⟩:=he
        obtain ⟨k1,hst⟩:=harr2
        exact ⟨ρ2,_,bz.le_trans hle1 hle2,key (some none),_,.bool false,Steps.trans hpre (Steps.trans hst (.one (stepR_round_ret rfl rfl (run_endRound (P:=P) (some .ret) hL2))))⟩
       |exit id=>
        simp only [Option.some.injEq,Prod.mk.injEq] at he
        obtain ⟨rfl,rfl,rfl⟩:=he
        obtain ⟨k1,hk1,hst⟩:=harr2
        exact ⟨ρ2,_,bz.le_trans hle1 hle2,key (some (some id)),_,.bool false,Steps.trans hpre (Steps.trans hst (.one (stepR_round_exit rfl rfl hk1 (run_endRound (P:=P) (some (.exit id)) hL2))))⟩
       |panic v=>
        simp only [Option.some.injEq,Prod.mk.injEq] at he
        obtain ⟨rfl,rfl,rfl⟩:=he
        obtain ⟨todo,u,hnc,hu,hst⟩:=harr2
        have hdz:ca2.defers=[]:=by
         have:=(show Ga ρ2 a2 ca2 from hact2).choose_spec.1.defers
         rw [hd2] at this
         generalize ca2.defers=d at this
         cases this;rfl
        have hdz':({b.atR ca2 todo with mode:=.panicking [{v:=u,recovered:=false}]}:Frame).defers=[]:=hdz
        exact ⟨ρ2,_,bz.le_trans hle1 hle2,R2,u,hu,Steps.trans hpre (Steps.trans hst (.one (E1 rfl hdz' hnc)))⟩
      ·cases he
     ·cases he
    ·cases he
   ·cases he
  ·cases he
 ·cases he
def Nr (P:Program) (T:Nat->Option kM):Prop:=
 ∀g fn,T g=some fn->∃f,P.funcs[g]?=some f/\Dl P f=some fn/\f.name≠ "runtime.NumGoroutine"
theorem ji {g:FuncId} {f:Func} {c:Code} (hf:P.funcs[g]?=some f) (hn:f.name≠ "runtime.NumGoroutine") (hb:f.body=some c) (args:Array Value) (w:World):
  (callFunc g args).run P w= .ok (.enter g args) w:=by
 simp [callFunc,hf,hn,hb]
theorem E2 {rec:Rec} (hrec:l8 P rec) (hm:P.follows .mixedOrders=true) {T:Nat->Option kM} (hT:Nr P T) {f:Value} {args:List Value} {res:fR} {rc':RC}
  (he:c5 P rec T f args .dF h=some (res,rc',h')) (hR:bW P ρ N w0 h w) {cf:Value} {cargs:Array Value} (hf:Rv ρ f cf) (ha:RL ρ args cargs.toList):
  ∃nx fr0,(do let d ← Deferred.ofValue cf cargs;invoke d.target d.args:Sem Next).run P w= .ok nx w/\lq P nx=some fr0/\
   ∀c cs,∃ρ' w',ρ.le ρ'/\bW P ρ' N w0 h' w'/\Gc P ρ' fr0 c cs w w' res:=by
 unfold c5 at he
 split at he
 ·rename_i g first captured
  split at he
  ·rename_i fn hTg
   obtain ⟨pf,hpf,hcf,hname⟩:=hT g fn hTg
   obtain ⟨c,hb,_⟩:=kE hcf
   split at he
   ·rename_i x a' h1 hev
    cases hf with
    |func _ _ x' _ y' hx hy=>
     refine ⟨.enter g (x'++cargs++y'),Frame.enter P g (x'++cargs++y') .normal,?_,rfl,fun c0 cs=>?_⟩
     ·simp only [Deferred.ofValue,Sem.run_bind,Sem.run_pure,Result.andThen,invoke]
      exact ji hpf hname hb _ _
     ·obtain ⟨ρ1,w1,cs1,fr,hle,R1,hcs,hst,hk,hd,hfn,hres⟩:=ya hrec hm hpf hcf (kind:=.normal) (cs:=c0 :: cs) (targs:=x'++cargs++y') (by
        simp only [Array.toList_append];exact (hx.append ha).append hy) (show xG ρ _ _ .dF from trivial) hev he hR
      have e:=kD hcs
      subst e
      refine ⟨ρ1,w1,hle,R1,?_⟩
      cases res with
      |ret v=>
       obtain ⟨u,hu,hmode,hru⟩:=hres
       have hl:fr.leaving P w1 (.returned u):=⟨hmode,hd,hk,pf,by rw [hfn];exact hpf,hru⟩
       exact ⟨u,hu,Steps.trans hst (.one (step_leave_returned hl))⟩
      |panic v=>
       obtain ⟨u,hu,hmode⟩:=hres
       have hl:fr.leaving P w1 (.panicked [{v:=u,recovered:=false}]):=⟨hmode,hd,pf,by rw [hfn];exact hpf⟩
       exact ⟨u,hu,Steps.trans hst (.one (step_leave_panicked hl))⟩
   ·cases he
  ·cases he
 ·rename_i l first captured
  cases hf with
  |yield _ B O c hρ=>
   simp only [List.isEmpty_nil,Bool.and_self,if_true] at he
   obtain ⟨L,hL,hsz,hgo⟩:=Hv hrec hm he hR hρ ha
   refine ⟨.round B L.fn ((L.params.zip cargs).foldl (fun tmps (t,a)=>tmps.setIfInBounds t a) L.tmps) L.assign L.body,
    Frame.round B L.fn ((L.params.zip cargs).foldl (fun tmps (t,a)=>tmps.setIfInBounds t a) L.tmps) L.assign L.body .normal,?_,rfl,fun c0 cs=>?_⟩
   ·simp only [Deferred.ofValue,Sem.run_bind,Sem.run_pure,Result.andThen,invoke,Array.empty_append]
    exact run_yield hL hsz
   ·exact hgo c0 cs
 ·cases he
theorem Dm {rec:Rec} (hrec:l8 P rec) (hm:P.follows .mixedOrders=true) {T:Nat->Option kM} (hT:Nr P T) {g:FuncId} {x y:Array Value} {args:List Value} {rc rc':RC} {v:Value}
  (he:c5 P rec T (.func (.func g) x y) args rc h=some (.ret v,rc',h')) (hR:bW P ρ N w0 h w) {x' y':Array Value} {args':List Value} {c0:Frame} {cs:List Frame}
  (hx:RL ρ x.toList x'.toList) (hy:RL ρ y.toList y'.toList) (ha:RL ρ args args')
  (hmode:Gd ρ c0.mode rc):
  ∃fargs ρ' w',(invoke (.fn (.func g) y') (x'++args'.toArray)).run P w= .ok (.enter g fargs) w/\ρ.le ρ'/\bW P ρ' N w0 h' w'/\
   Steps P (lone (Frame.enter P g fargs .deferred) (c0 :: cs) w) (lone {c0 with mode:=if rc'.isDone then .returning else c0.mode} cs w'):=by
 simp only [c5] at he
 split at he
 ·rename_i fn hTg
  obtain ⟨pf,hpf,hcf,hname⟩:=hT g fn hTg
  obtain ⟨c,hb,_⟩:=kE hcf
  split at he
  ·rename_i xx a' h1 hev
   have hrc:xG ρ {(default:Frame) with fn:=g,kind:=.deferred} (c0 :: cs) rc:=by
    cases rc with
    |dF=>trivial
    |calm=>exact ⟨rfl,rfl,c0,cs,rfl,hmode⟩
    |eY v=>obtain ⟨u,hu,hmo⟩:=hmode;exact ⟨rfl,rfl,c0,cs,u,rfl,hmo,hu⟩
    |done v=>exact hmode.elim
   obtain ⟨ρ1,w1,cs1,fr,hle,R1,hcs,hst,hk,hd,hfn,u,hu,hmo,hru⟩:=ya hrec hm hpf hcf (kind:=.deferred) (cs:=c0 :: cs) (targs:=x'++args'.toArray++y') (by
     simp only [Array.toList_append];exact (hx.append ha).append hy) hrc hev he hR
   refine ⟨x'++args'.toArray++y',ρ1,w1,ji hpf hname hb _ _,hle,R1,Steps.trans hst (.one ?_)⟩
   have hgo:fr.going P w1 (.returned u):=⟨hmo,hd,pf,by rw [hfn];exact hpf,hru⟩
   rcases hcs with ⟨rfl,rfl⟩ |⟨v',c1,rest,u1,rfl,rfl,hc1,hm1,rfl⟩
   ·rw [step_going_returned hk hgo]
    have:settle c0.mode=if rc'.isDone then FrameMode.returning else c0.mode:=by
     cases rc' with
     |dF=>exact hmode.elim
     |calm=>rw [show c0.mode= .returning from hmode];rfl
     |eY v=>obtain ⟨u,hu,hmo⟩:=hmode;rw [hmo];rfl
     |done v=>exact hmode.elim
    rw [this]
   ·simp only [List.cons.injEq] at hc1
    obtain ⟨rfl,rfl⟩:=hc1
    rw [step_going_returned hk hgo]
    rfl
  ·cases he
 ·cases he
theorem Dn {ts:List Value} {h1 h2:H}:∀(rs:List ResultVar) (l:List Db),mh P rs=some l->(rs.all fun | .tmp _=>true |_=>false)=true->ia h1 ts l=ia h2 ts l
 | [],l,hc,_=>by simp only [mh,Option.some.injEq] at hc;subst hc;rfl
 |x :: r,l,hc,ha=>by
  obtain ⟨y,m,rfl,hx,hr⟩:=wL hc
  simp only [List.all_cons,Bool.and_eq_true] at ha
  cases x with
  |tmp t=>
   simp only [Dj,Option.some.injEq] at hx
   subst hx
   simp only [ia,Dn (h1:=h1) (h2:=h2) (ts:=ts) r m hr ha.2]
  |cell a t=>simp at ha
theorem E3 {rec:Rec} {T:Nat->Option kM} (hT:Nr P T) {g:FuncId} (hp:mT P g=true) {args:List Value} {res:fR} {rc':RC}
  (he:c5 P rec T (.func (.func g) #[] #[]) args .dF h=some (res,rc',h')):h'=h/\∀h2,c5 P rec T (.func (.func g) #[] #[]) args .dF h2=some (res,rc',h2):=by
 simp only [c5] at he ⊢
 cases hTg:T g with
 |none=>rw [hTg] at he;cases he
 |some fn=>
  rw [hTg] at he
  obtain ⟨f,hf,hc,_⟩:=hT g fn hTg
  obtain ⟨c,hb,hbody,_,hrs⟩:=kE hc
  unfold mT at hp
  simp only [hf,hb,Bool.and_eq_true] at hp
  obtain ⟨r,h1,h2⟩:=I7 (P:=P) (rec:=rec) c hp.1 (s6 fn (#[].toList++args++#[].toList) .dF)
  simp only [hbody,h1] at he ⊢
  cases r with
  |none=>simp at he
  |some p=>
   obtain ⟨x,a'⟩:=p
   obtain ⟨hd,_⟩:=h2 _ rfl
   have hd':a'.defers=[]:=hd
   simp only [Option.map_some,eC,hd',bt] at he ⊢
   cases hlb:s7 x with
   |none=>simp [hlb] at he
   |some m=>
    simp only [hlb] at he ⊢
    cases m with
    |none=>
     simp only at he ⊢
     obtain ⟨l,hl,hres⟩:=aa he
     simp only [Prod.mk.injEq] at hres
     obtain ⟨rfl,rfl,rfl⟩:=hres
     refine ⟨rfl,fun h2=>?_⟩
     rw [← Dn (h1:=h) _ _ hrs hp.2,hl];rfl
    |some v=>
     simp only [Option.some.injEq,Prod.mk.injEq] at he
     obtain ⟨rfl,rfl,rfl⟩:=he
     exact ⟨rfl,fun h2=>rfl⟩
end Go.Ev
