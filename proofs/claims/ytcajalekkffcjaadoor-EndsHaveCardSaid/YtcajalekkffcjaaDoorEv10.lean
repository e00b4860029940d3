/- The evaluator over a small code, and that what it finds of a call holds of the machine, part 10. -/
import Derived.Test.YtcajalekkffcjaaDoorEv9
import Derived.Test.YtcajalekkffcjaaDoorEv3m
namespace Go.Ev
open Go Go.RowKit
variable {P:Program} {ρ ρ':bz} {N:Nat} {w0 w:World} {h h':H}
def xG (ρ:bz) (b:Frame) (cs:List Frame):RC->Prop
 | .dF=>True
 | .calm=>b.kind= .deferred/\b.roundOf=none/\∃c0 rest,cs=c0 :: rest/\c0.mode= .returning
 | .eY v=>b.kind= .deferred/\b.roundOf=none/\∃c0 rest u,cs=c0 :: rest/\c0.mode= .panicking [{v:=u,recovered:=false}]/\Rv ρ v u
 | .done _=>∃c0 rest u,cs=c0 :: rest/\c0.mode= .panicking [{v:=u,recovered:=true}]
def kQ (rc rc':RC) (cs cs':List Frame):Prop:=
 (rc'=rc/\cs'=cs)\/
 ∃v c0 rest u,rc= .eY v/\rc'= .done v/\cs=c0 :: rest/\c0.mode= .panicking [{v:=u,recovered:=false}]/\cs'={c0 with mode:=.panicking [{v:=u,recovered:=true}]} :: rest
theorem kQ.refl (rc:RC) (cs:List Frame):kQ rc rc cs cs:=.inl ⟨rfl,rfl⟩
theorem kQ.trans {r1 r2 r3:RC} {c1 c2 c3:List Frame} (h1:kQ r1 r2 c1 c2) (h2:kQ r2 r3 c2 c3):kQ r1 r3 c1 c3:=by
 rcases h1 with ⟨rfl,rfl⟩ |⟨v,c0,rest,u,rfl,rfl,rfl,hm,rfl⟩
 ·exact h2
 ·rcases h2 with ⟨rfl,rfl⟩ |⟨v',c0',rest',u',h,_⟩
  ·exact .inr ⟨v,c0,rest,u,rfl,rfl,rfl,hm,rfl⟩
  ·cases h
theorem xG.mono (hle:ρ.le ρ') {b:Frame} {cs:List Frame} {rc:RC} (hr:xG ρ b cs rc):xG ρ' b cs rc:=by
 cases rc with
 |dF=>trivial
 |calm=>exact hr
 |eY v=>
  obtain ⟨h1,h2,c0,rest,u,h3,h4,h5⟩:=hr
  exact ⟨h1,h2,c0,rest,u,h3,h4,h5.mono hle⟩
 |done v=>exact hr
theorem xG.to {b:Frame} {cs cs':List Frame} {rc rc':RC} (hr:xG ρ b cs rc) (ht:kQ rc rc' cs cs'):xG ρ b cs' rc':=by
 rcases ht with ⟨rfl,rfl⟩ |⟨v,c0,rest,u,rfl,rfl,rfl,hm,rfl⟩
 ·exact hr
 ·exact ⟨_,rest,u,rfl,rfl⟩
def ES:List Item->Prop
 | .call .. :: _=>False
 |_=>True
def EJ (P:Program) (ρ:bz) (m:Machine) (b:Frame) (k:List Item) (cs:List Frame):aM->Act->World->Prop
 | .normal,a,w=>Steps P m (lone (b.atR a k) cs w)
 | .exit id,a,w=>∃k1,exitTo id k1=exitTo id k/\Steps P m (lone (b.atR a (.code (.exit id) :: k1)) cs w)
 | .ret,a,w=>∃k1,Steps P m (lone (b.atR a (.code .ret :: k1)) cs w)
 | .panic v,a,w=>∃todo u,ES todo/\Rv ρ v u/\Steps P m (lone {b.atR a todo with mode:=.panicking [{v:=u,recovered:=false}]} cs w)
theorem EJ.of_steps {m m1:Machine} {b:Frame} {k:List Item} {cs:List Frame} {x:aM} {a:Act} (hs:Steps P m m1) (ha:EJ P ρ m1 b k cs x a w):EJ P ρ m b k cs x a w:=by
 cases x with
 |normal=>exact hs.trans ha
 |exit id=>obtain ⟨k1,h1,h2⟩:=ha;exact ⟨k1,h1,hs.trans h2⟩
 |ret=>obtain ⟨k1,h2⟩:=ha;exact ⟨k1,hs.trans h2⟩
 |panic v=>obtain ⟨t,u,h0,h1,h2⟩:=ha;exact ⟨t,u,h0,h1,hs.trans h2⟩
def Ga (ρ:bz) (a:aD) (ca:Act):Prop:=∃ts,lZ ρ {a with tmps:=ts} ca/\∀t:Nat,nO (a.tmps.getD t undef)=true\/a.tmps.getD t undef=ts.getD t undef
def Gb (ρ:bz):aM->aD->Act->Prop
 | .panic _,a,ca=>Ga ρ a ca
 |_,a,ca=>lZ ρ a ca
theorem lZ.OA {a:aD} {ca:Act} (h:lZ ρ a ca):Ga ρ a ca:=⟨a.tmps,h,fun _=>.inr rfl⟩
theorem lZ.OB {a:aD} {ca:Act} (h:lZ ρ a ca) (x:aM):Gb ρ x a ca:=by
 cases x with
 |panic v=>exact h.OA
 |_=>exact h
structure jM (P:Program) (ρ:bz) (N:Nat) (w0:World) (m:Machine) (b:Frame) (k:List Item) (cs:List Frame) (a:aD) (x:aM) (a':aD) (h':H):Prop where
 out:∃ρ' w' ca' cs',ρ.le ρ'/\bW P ρ' N w0 h' w'/\Gb ρ' x a' ca'/\kQ a.rc a'.rc cs cs'/\a'.round=a.round/\EJ P ρ' m b k cs' x ca' w'
def eT (ρ:bz) (b:Frame) (cs:List Frame) (a:aD) (ca:Act):Prop:=lZ ρ a ca/\xG ρ b cs a.rc/\a.round=b.roundOf.isSome
theorem eT.next {b:Frame} {cs cs':List Frame} {a a':aD} {ca ca':Act} (hs:eT ρ b cs a ca) (hle:ρ.le ρ') (ha:lZ ρ' a' ca') (hc:kQ a.rc a'.rc cs cs') (hr:a'.round=a.round):eT ρ' b cs' a' ca':=
 ⟨ha,(hs.2.1.mono hle).to hc,hr.trans hs.2.2⟩
def lq (P:Program):Next->Option Frame
 | .enter f args=>some (Frame.enter P f args .normal)
 | .round l f tmps assign body=>some (Frame.round l f tmps assign body .normal)
 |_=>none
def Gc (P:Program) (ρ:bz) (fr0 c:Frame) (cs:List Frame) (w w':World):fR->Prop
 | .ret v=>∃u,Rv ρ v u/\Steps P (lone fr0 (c :: cs) w) (lone (c.finish u) cs w')
 | .panic v=>∃u,Rv ρ v u/\Steps P (lone fr0 (c :: cs) w) (lone (c.raise [{v:=u,recovered:=false}]) cs w')
def MA (P:Program) (rec:Rec):Prop:=
 ∀f args h res rc' h',rec.call f args .dF h=some (res,rc',h')->∀ρ N w0 w cf cargs,bW P ρ N w0 h w->Rv ρ f cf->RL ρ args cargs.toList->
  ∃nx fr0,(do let d ← Deferred.ofValue cf cargs;invoke d.target d.args:Sem Next).run P w= .ok nx w/\lq P nx=some fr0/\
   ∀c cs,∃ρ' w',ρ.le ρ'/\bW P ρ' N w0 h' w'/\Gc P ρ' fr0 c cs w w' res
def Gd (ρ:bz) (u:FrameMode):RC->Prop
 | .calm=>u= .returning
 | .eY v=>∃x,Rv ρ v x/\u= .panicking [{v:=x,recovered:=false}]
 |_=>False
def K4 (P:Program) (rec:Rec):Prop:=
 ∀g x y args rc h v rc' h',rec.call (.func (.func g) x y) args rc h=some (.ret v,rc',h')->∀ρ N w0 w x' y' args' c0 cs,bW P ρ N w0 h w->RL ρ x.toList x'.toList->RL ρ y.toList y'.toList->RL ρ args args'->
  Gd ρ c0.mode rc->
  ∃fargs ρ' w',(invoke (.fn (.func g) y') (x'++args'.toArray)).run P w= .ok (.enter g fargs) w/\ρ.le ρ'/\bW P ρ' N w0 h' w'/\
   Steps P (lone (Frame.enter P g fargs .deferred) (c0 :: cs) w) (lone {c0 with mode:=if rc'.isDone then .returning else c0.mode} cs w')
def MB (P:Program) (rec:Rec):Prop:=
 ∀code a h x a' h',rec.loop (cl P code) a h=some (x,a',h')->∀ρ N w0 w b k cs ca,bW P ρ N w0 h w->eT ρ b cs a ca->
  jM P ρ N w0 (lone (b.atR ca (.inLoop code :: k)) cs w) b k cs a x a' h'
def ET (P:Program) (rec:Rec):Prop:=
 ∀g args h res rc' h',mT P g=true->rec.call (.func (.func g) #[] #[]) args .dF h=some (res,rc',h')->
  h'=h/\∀h2,rec.call (.func (.func g) #[] #[]) args .dF h2=some (res,rc',h2)
structure l8 (P:Program) (rec:Rec):Prop where
 mono:A2 P.globals.size rec
 call:MA P rec
 defer:K4 P rec
 loop:MB P rec
 pure:ET P rec
def IU (P:Program) (ρ:bz) (N:Nat) (w0:World) (m:Machine) (b:Frame) (ops:Array Oper) (rest:List Nat) (k:List Item) (cs:List Frame) (a:aD):Step->Prop
 | .on a' h'=>∃ρ' w' ca' cs',ρ.le ρ'/\bW P ρ' N w0 h' w'/\lZ ρ' a' ca'/\kQ a.rc a'.rc cs cs'/\a'.round=a.round/\Steps P m (lone (b.atR ca' (.inRegion ops rest :: k)) cs' w')
 | .panic v a' h'=>∃ρ' w' ca',ρ.le ρ'/\bW P ρ' N w0 h' w'/\lZ ρ' a' ca'/\a'.rc=a.rc/\a'.round=a.round/\
   ∃todo u,ES todo/\Rv ρ' v u/\Steps P m (lone {b.atR ca' todo with mode:=.panicking [{v:=u,recovered:=false}]} cs w')
theorem oF {fn:Func} {l:List Operand} {ao:j8} (hc:uf P fn l=some ao):(∃x,ao= .kB x)\/(∃x y,ao= .indexByte x y)\/(∃e x,ao= .makeNoZero e x):=by
 unfold uf at hc
 split at hc
 ·split at hc
  ·cases hc;exact .inl ⟨_,rfl⟩
  ·split at hc
   ·split at hc
    ·cases hc;exact .inr (.inl ⟨_,_,rfl⟩)
    ·cases hc
   ·split at hc
    ·split at hc
     ·split at hc
      ·split at hc
       ·cases hc;exact .inr (.inr ⟨_,_,rfl⟩)
       ·cases hc
      ·cases hc
     ·cases hc
    ·cases hc
 ·cases hc
theorem Av {o:Oper} {c:Call} {f:Operand} {args:List Operand} (hc:gT P o c=some (.dA f args)):∃g,f= .func g/\mT P g=true:=by
 unfold gT at hc
 split at hc
 ·split at hc
  all_goals (repeat' (split at hc))<;>(cases hc)
 ·rename_i f0 hf
  have key:∀{l:List Operand},some (yx P f0 l)=some (j8.dA f args)->∃g,f= .func g/\mT P g=true:=fun {l} e=>by
   rcases lu P f0 l with e1 |⟨g,e2,e3,e1⟩
   ·rw [e1] at e;cases e
   ·rw [e1] at e;cases e;exact ⟨g,e2,e3⟩
  split at hc
  ·split at hc
   ·split at hc
    ·split at hc
     ·cases hc
     ·exact key hc
    ·rcases oF hc with ⟨x,e⟩ |⟨x,y,e⟩ |⟨e,x,e⟩<;>cases e
   ·cases hc
  ·split at hc
   ·split at hc
    ·split at hc
     ·cases hc
     ·exact key hc
    ·cases hc
   ·cases hc
  ·cases hc
  ·cases hc
 ·cases hc
theorem Aw {o:Oper} {c:Call} {ao:j8} (hc:gT P o c=some ao):
  (∀f args,(ao= .call f args\/ao= .dA f args)->c.callee= .value f/\args=c.args.toList)/\(∀f args,ao≠ .defer f args)/\(∀x,ao≠ .panic x)/\
  (ao= .recover->c.callee= .builtin .recover/\c.args.toList=[]):=by
 unfold gT at hc
 split at hc
 ·split at hc
  all_goals (repeat' (split at hc))<;>first
   |(cases hc;done)
   |(cases hc;refine ⟨(fun _ _ e=>by rcases e with e |e<;>cases e),(fun _ _ e=>by cases e),(fun _ e=>by cases e),(fun e=>by first |(cases e;done) |exact ⟨by assumption,by assumption⟩)⟩)
 ·rename_i f hf
  have key:∀{l:List Operand},(ao= .call f l\/ao= .dA f l)->l=c.args.toList->((∀g args,(ao= .call g args\/ao= .dA g args)->c.callee= .value g/\args=c.args.toList)/\(∀f args,ao≠ .defer f args)/\(∀x,ao≠ .panic x)/\
    (ao= .recover->c.callee= .builtin .recover/\c.args.toList=[])):=fun h1 h2=>by
   subst h2
   rcases h1 with h1 |h1<;>subst h1
   ·exact ⟨(fun g args e=>by rcases e with e |e<;>cases e;exact ⟨hf,rfl⟩),(fun _ _ e=>by cases e),(fun _ e=>by cases e),(fun e=>by cases e)⟩
   ·exact ⟨(fun g args e=>by rcases e with e |e<;>cases e;exact ⟨hf,rfl⟩),(fun _ _ e=>by cases e),(fun _ e=>by cases e),(fun e=>by cases e)⟩
  split at hc
  ·split at hc
   ·split at hc
    ·split at hc
     ·cases hc
     ·cases hc
      rcases lu P (.func _) c.args.toList with e |⟨_,_,_,e⟩
      ·exact key (.inl e) rfl
      ·exact key (.inr e) rfl
    ·rcases oF hc with ⟨x,rfl⟩ |⟨x,y,rfl⟩ |⟨e,x,rfl⟩<;>exact ⟨(fun _ _ e=>by rcases e with e |e<;>cases e),(fun _ _ e=>by cases e),(fun _ e=>by cases e),(fun e=>by cases e)⟩
   ·cases hc
  ·split at hc
   ·split at hc
    ·split at hc
     ·cases hc
     ·cases hc;exact key (.inl rfl) rfl
    ·cases hc
   ·cases hc
  ·cases hc;exact key (.inl rfl) rfl
  ·cases hc
 ·cases hc
theorem wC {o:Oper} {ao:j8} (hc:dQ P o=some ao):
  (∀f args,(ao= .call f args\/ao= .dA f args)->∃c,o.op= .call c/\c.callee= .value f/\args=c.args.toList)/\
  (∀f args,ao= .defer f args->∃c,o.op= .defer c/\c.callee= .value f/\args=c.args.toList)/\
  (∀x,ao= .panic x->o.op= .panic x)/\
  (ao= .recover->∃c,o.op= .call c/\c.callee= .builtin .recover/\c.args.toList=[]):=by
 obtain ⟨dst,op,ty,pos,after,guard⟩:=o
 cases op
 case call c=>
  simp only [dQ] at hc
  obtain ⟨h1,h2,h3,h4⟩:=Aw hc
  exact ⟨fun f args e=>⟨c,rfl,h1 f args e⟩,fun f args e=>absurd e (h2 f args),fun x e=>absurd e (h3 x),fun e=>⟨c,rfl,h4 e⟩⟩
 case defer c=>
  simp only [dQ] at hc
  split at hc
  ·rename_i f hf
   cases hc
   exact ⟨(fun _ _ e=>by rcases e with e |e<;>cases e),(fun f args e=>by cases e;exact ⟨c,rfl,hf,rfl⟩),(fun _ e=>by cases e),(fun e=>by cases e)⟩
  ·cases hc
 case panic x=>
  simp only [dQ] at hc
  cases hc
  exact ⟨(fun _ _ e=>by rcases e with e |e<;>cases e),(fun _ _ e=>by cases e),(fun _ e=>by cases e;rfl),(fun e=>by cases e)⟩
 case makeFunc fn x y=>
  cases fn<;>simp only [dQ] at hc<;>cases hc
  exact ⟨(fun _ _ e=>by rcases e with e |e<;>cases e),(fun _ _ e=>by cases e),(fun _ e=>by cases e),(fun e=>by cases e)⟩
 case slice t x lo hi mx=>
  cases mx with
  |some m=>
   cases hi with
   |none=>simp only [dQ] at hc;cases hc
   |some hh=>
    simp only [dQ] at hc
    split at hc
    ·obtain ⟨_,_,rfl⟩:=aa hc
     exact ⟨(fun _ _ e=>by rcases e with e |e<;>cases e),(fun _ _ e=>by cases e),(fun _ e=>by cases e),(fun e=>by cases e)⟩
    ·cases hc
  |none=>
   simp only [dQ] at hc
   split at hc
   ·obtain ⟨_,_,rfl⟩:=aa hc
    exact ⟨(fun _ _ e=>by rcases e with e |e<;>cases e),(fun _ _ e=>by cases e),(fun _ e=>by cases e),(fun e=>by cases e)⟩
   ·cases hc
    exact ⟨(fun _ _ e=>by rcases e with e |e<;>cases e),(fun _ _ e=>by cases e),(fun _ e=>by cases e),(fun e=>by cases e)⟩
   ·obtain ⟨_,_,rfl⟩:=aa hc
    exact ⟨(fun _ _ e=>by rcases e with e |e<;>cases e),(fun _ _ e=>by cases e),(fun _ e=>by cases e),(fun e=>by cases e)⟩
   ·cases hc
 case makeMap t r=>
  cases r<;>simp only [dQ] at hc<;>cases hc
  exact ⟨(fun _ _ e=>by rcases e with e |e<;>cases e),(fun _ _ e=>by cases e),(fun _ e=>by cases e),(fun e=>by cases e)⟩
 case next it b=>
  cases b<;>simp only [dQ] at hc<;>cases hc
  exact ⟨(fun _ _ e=>by rcases e with e |e<;>cases e),(fun _ _ e=>by cases e),(fun _ e=>by cases e),(fun e=>by cases e)⟩
 all_goals
  simp only [dQ] at hc
  (repeat' (split at hc))<;>first
   |(cases hc;done)
   |(cases hc;refine ⟨(fun _ _ e=>by rcases e with e |e<;>cases e),(fun _ _ e=>by cases e),(fun _ e=>by cases e),(fun e=>by cases e)⟩)
   |(obtain ⟨_,_,rfl⟩:=aa hc;refine ⟨(fun _ _ e=>by rcases e with e |e<;>cases e),(fun _ _ e=>by cases e),(fun _ e=>by cases e),(fun e=>by cases e)⟩)
theorem C5 {o:Oper} {f:Operand} {args:List Operand} (hc:dQ P o=some (.dA f args)):∃g,f= .func g/\mT P g=true:=by
 obtain ⟨c,hop,_,_⟩:=(wC hc).1 f args (.inr rfl)
 obtain ⟨dst,op,ty,pos,after,guard⟩:=o
 simp only at hop
 subst hop
 simp only [dQ] at hc
 exact Av hc
theorem rC {rec:Rec} (hrec:l8 P rec) (hR:bW P ρ N w0 h w) {ops:Array Oper} {i:Nat} {rest:List Nat} {o:Oper} {ao:AO} (ho:ops[i]?=some o) (hc:wD P ops o=some ao)
  {a:aD} {ca:Act} {b:Frame} {cs:List Frame} (hs:eT ρ b cs a ca) {st:Step} (he:cG P rec ao a h=some st) (k:List Item):
  IU P ρ N w0 (lone (b.atR ca (.inRegion ops (i :: rest) :: k)) cs w) b ops rest k cs a st:=by
 obtain ⟨hact,hrc,hround⟩:=hs
 obtain ⟨hcop,hdst,hopd⟩:=mU hc
 have hwt:=A3 hact hc
 have hrel:∀x∈o.op.operands,Rv ρ (aj a.tmps x) (ca.eval x):=fun x hx=>BZ hR hact (hopd x hx)
 unfold cG at he
 split at he
 ·rename_i hw
  rw [hwt] at hw
  obtain ⟨cc,cd,cp,cr⟩:=wC hcop
  split at he
  ·
   rename_i f args hop
   obtain ⟨c,hoc,hcal,hargs⟩:=cc f args (.inl hop)
   have hcop':∀x∈c.operands,Rv ρ (aj a.tmps x) (ca.eval x):=fun x hx=>hrel x (by rw [hoc];exact hx)
   have hf:Rv ρ (aj a.tmps f) (ca.eval f):=hcop' f (by simp [Call.operands,hcal])
   have hal:RL ρ (args.map (aj a.tmps)) (c.args.map ca.eval).toList:=by
    rw [hargs,Array.toList_map]
    exact RL.vt fun x hx=>hcop' x (by simp only [Call.operands,Array.mem_append];exact .inr (by simpa using hx))
   have hexec:execOp ca.eval o=(do let d ← Deferred.ofValue (ca.eval f) (c.args.map ca.eval);invoke d.target d.args):=by
    simp only [execOp,hoc,resolve,hcal]
   have hnd:∀c',o.op≠ .defer c':=fun c' e=>by rw [hoc] at e;cases e
   split at he
   ·rename_i v rc' h1 hcall
    cases he
    obtain ⟨nx,fr0,hrun,hent,hgo⟩:=hrec.call _ _ _ _ _ _ hcall ρ N w0 w _ _ hR hf hal
    obtain ⟨ρ',w',hle,hR',u,hu,hst⟩:=hgo (b.atR ca (.inRegion ops (i :: rest) :: k)) cs
    rw [← hexec] at hrun
    have hfin:(b.atR ca (.inRegion ops (i :: rest) :: k)).finish u=b.atR (ca.put o.dst u) (.inRegion ops rest :: k):=by rw [Frame.finish_atR,ho];rfl
    rw [hfin] at hst
    refine ⟨ρ',w',ca.put o.dst u,cs,hle,hR',by rw [hdst];exact (hact.mono hle).put o.dst hu,kQ.refl _ _,rfl,?_⟩
    cases nx<;>simp only [lq,Option.some.injEq,reduceCtorEq] at hent
    ·subst hent;exact .head (j9 ho hw hnd hrun) hst
    ·subst hent;exact .head (ke ho hw hnd hrun) hst
   ·rename_i v rc' h1 hcall
    cases he
    obtain ⟨nx,fr0,hrun,hent,hgo⟩:=hrec.call _ _ _ _ _ _ hcall ρ N w0 w _ _ hR hf hal
    obtain ⟨ρ',w',hle,hR',u,hu,hst⟩:=hgo (b.atR ca (.inRegion ops (i :: rest) :: k)) cs
    rw [← hexec] at hrun
    rw [Frame.raise_atR] at hst
    refine ⟨ρ',w',ca,hle,hR',hact.mono hle,rfl,rfl,.inRegion ops (i :: rest) :: k,u,trivial,hu,?_⟩
    cases nx<;>simp only [lq,Option.some.injEq,reduceCtorEq] at hent
    ·subst hent;exact .head (j9 ho hw hnd hrun) hst
    ·subst hent;exact .head (ke ho hw hnd hrun) hst
   ·cases he
  ·
   rename_i f args hop
   obtain ⟨c,hoc,hcal,hargs⟩:=cc f args (.inr hop)
   have hcop':∀x∈c.operands,Rv ρ (aj a.tmps x) (ca.eval x):=fun x hx=>hrel x (by rw [hoc];exact hx)
   have hf:Rv ρ (aj a.tmps f) (ca.eval f):=hcop' f (by simp [Call.operands,hcal])
   have hal:RL ρ (args.map (aj a.tmps)) (c.args.map ca.eval).toList:=by
    rw [hargs,Array.toList_map]
    exact RL.vt fun x hx=>hcop' x (by simp only [Call.operands,Array.mem_append];exact .inr (by simpa using hx))
   have hexec:execOp ca.eval o=(do let d ← Deferred.ofValue (ca.eval f) (c.args.map ca.eval);invoke d.target d.args):=by
    simp only [execOp,hoc,resolve,hcal]
   have hnd:∀c',o.op≠ .defer c':=fun c' e=>by rw [hoc] at e;cases e
   split at he
   ·rename_i v rc' h1 hcall
    cases he
    obtain ⟨nx,fr0,hrun,hent,hgo⟩:=hrec.call _ _ _ _ _ _ hcall ρ N w0 w _ _ hR hf hal
    obtain ⟨ρ',w',hle,hR',u,hu,hst⟩:=hgo (b.atR ca (.inRegion ops (i :: rest) :: k)) cs
    rw [← hexec] at hrun
    have hfin:(b.atR ca (.inRegion ops (i :: rest) :: k)).finish u=b.atR (ca.put o.dst u) (.inRegion ops rest :: k):=by rw [Frame.finish_atR,ho];rfl
    rw [hfin] at hst
    refine ⟨ρ',w',ca.put o.dst u,cs,hle,hR',by rw [hdst];exact (hact.mono hle).put o.dst hu,kQ.refl _ _,rfl,?_⟩
    cases nx<;>simp only [lq,Option.some.injEq,reduceCtorEq] at hent
    ·subst hent;exact .head (j9 ho hw hnd hrun) hst
    ·subst hent;exact .head (ke ho hw hnd hrun) hst
   ·rename_i v rc' h1 hcall
    cases he
    obtain ⟨nx,fr0,hrun,hent,hgo⟩:=hrec.call _ _ _ _ _ _ hcall ρ N w0 w _ _ hR hf hal
    obtain ⟨ρ',w',hle,hR',u,hu,hst⟩:=hgo (b.atR ca (.inRegion ops (i :: rest) :: k)) cs
    rw [← hexec] at hrun
    rw [Frame.raise_atR] at hst
    refine ⟨ρ',w',ca,hle,hR',hact.mono hle,rfl,rfl,.inRegion ops (i :: rest) :: k,u,trivial,hu,?_⟩
    cases nx<;>simp only [lq,Option.some.injEq,reduceCtorEq] at hent
    ·subst hent;exact .head (j9 ho hw hnd hrun) hst
    ·subst hent;exact .head (ke ho hw hnd hrun) hst
   ·cases he
  ·
   rename_i f args hop
   obtain ⟨c,hoc,hcal,hargs⟩:=cd f args hop
   have hcop':∀x∈c.operands,Rv ρ (aj a.tmps x) (ca.eval x):=fun x hx=>hrel x (by rw [hoc];exact hx)
   have hf:Rv ρ (aj a.tmps f) (ca.eval f):=hcop' f (by simp [Call.operands,hcal])
   have hal:RL ρ (args.map (aj a.tmps)) (c.args.map ca.eval).toList:=by
    rw [hargs,Array.toList_map]
    exact RL.vt fun x hx=>hcop' x (by simp only [Call.operands,Array.mem_append];exact .inr (by simpa using hx))
   split at he
   ·rename_i g x y hro hfv
    cases he
    rw [hfv] at hf
    have hb:b.roundOf=none:=by rw [hro] at hround;simpa using hround.symm
    generalize hcf:ca.eval f=cf at hf
    cases hf with
    |func _ _ x' _ y' hx hy=>
     have hrun:(execOp ca.eval o).run P w= .ok (.defer {target:=.fn (.func g) y',args:=x'++(c.args.map ca.eval)}) w:=by
      simp [execOp,hoc,resolve,hcal,hcf,Deferred.ofValue]
     refine ⟨ρ,w,_,cs,ρ.le_refl,hR,?_,kQ.refl _ _,rfl,.one (Ax ho hw hb hrun)⟩
     rw [hdst]
     have hd:=EU.call (ρ:=ρ) g x x' y y' _ _ hx hy hal
     have h2:lZ ρ {a with defers:=.call (.func (.func g) x y) (args.map (aj a.tmps)) :: a.defers} {ca with defers:={target:=.fn (.func g) y',args:=x'++c.args.map ca.eval} :: ca.defers}:=
      ⟨hact.tmps,.cons (by have e:(c.args.map ca.eval).toList.toArray=c.args.map ca.eval:=Array.toArray_toList;rw [e] at hd;exact hd) hact.defers⟩
     exact h2.put o.dst Rv.undef
   ·cases he
  ·
   rename_i hop
   obtain ⟨c,hoc,hcal,hargs⟩:=cr hop
   have hnd:∀c',o.op≠ .defer c':=fun c' e=>by rw [hoc] at e;cases e
   have hrun:(execOp ca.eval o).run P w= .ok .recover w:=by
    simp [execOp,hoc,resolve,hcal,invoke,builtin]
   split at he
   ·rename_i hrcc
    cases he
    rw [hrcc] at hrc
    obtain ⟨hk,hb,c0,rs,hcs,hm⟩:=hrc
    refine ⟨ρ,w,ca.put o.dst .nilIface,cs,ρ.le_refl,hR,by rw [hdst];exact hact.put o.dst .nilIface,kQ.refl _ _,rfl,.one (pN ho hw hnd hb hrun ?_)⟩
    have hkk:(b.atR ca (.inRegion ops (i :: rest) :: k)).kind= .deferred:=hk
    simp [tryRecover,hkk,hcs,hm]
   ·rename_i v hrcc
    cases he
    rw [hrcc] at hrc
    obtain ⟨hk,hb,c0,rs,u,hcs,hm,hu⟩:=hrc
    refine ⟨ρ,w,ca.put o.dst u,{c0 with mode:=.panicking [{v:=u,recovered:=true}]} :: rs,ρ.le_refl,hR,?_,.inr ⟨v,c0,rs,u,hrcc,rfl,hcs,hm,rfl⟩,rfl,.one (pN ho hw hnd hb hrun ?_)⟩
    ·rw [hdst]
     have h2:lZ ρ {a with rc:=.done v} ca:=⟨hact.tmps,hact.defers⟩
     exact h2.put o.dst hu
    ·have hkk:(b.atR ca (.inRegion ops (i :: rest) :: k)).kind= .deferred:=hk
     simp [tryRecover,hkk,hcs,hm]
   ·cases he
  ·
   rename_i x hop
   have hox:=cp x hop
   have hnd:∀c',o.op≠ .defer c':=fun c' e=>by rw [hox] at e;cases e
   split at he
   ·rename_i t v hxv
    cases he
    have hxr:=hrel x (by rw [hox];simp [Op.operands])
    rw [hxv] at hxr
    generalize hcx:ca.eval x=cx at hxr
    have hrun:(execOp ca.eval o).run P w= .halt (.panic cx) w:=by
     cases hxr
     simp [execOp,hox,hcx,Instr.panic]
    exact ⟨ρ,w,ca,ρ.le_refl,hR,hact,rfl,rfl,.inRegion ops (i :: rest) :: k,cx,trivial,hxr,.one (Ay ho hw hnd hrun)⟩
   ·cases he
  ·
   rename_i hn1 hn0 hn2 hn3 hn4
   split at he
   ·rename_i v h1 hx
    cases he
    have hnd:∀c',o.op≠ .defer c':=fun c' e=>by
     obtain ⟨_,op,_⟩:=o
     simp only at e
     subst e
     simp only [dQ] at hcop
     split at hcop
     ·simp only [Option.some.injEq] at hcop;exact hn2 _ _ hcop.symm
     ·cases hcop
    obtain ⟨ρ',w',nx,u,hle,hR',hu,hrun,hn⟩:=NF hR hcop hrel hx
    exact ⟨ρ',w',ca.put o.dst u,cs,hle,hR',by rw [hdst];exact (hact.mono hle).put o.dst hu,kQ.refl _ _,rfl,.one (sJ ho hw hnd hrun hn)⟩
   ·cases he
 ·rename_i hw
  cases he
  have hw':((ops[i]?).map (Region.wanted · (yielded ops ca.tmps))).getD false=false:=by
   rw [ho];simpa [← hwt] using hw
  refine ⟨ρ,w,ca.put o.dst undef,cs,ρ.le_refl,hR,?_,kQ.refl _ _,rfl,?_⟩
  ·rw [hdst];exact hact.put o.dst Rv.undef
  ·have:=stepR_op_skip (P:=P) (b:=b) (k:=k) (cs:=cs) (w:=w) (rest:=rest) hw'
   rw [ho] at this
   exact .one this
theorem oG {ops:Array Oper} {o:Oper} {r:List Oper} {l:List AO} (hc:iS P ops (o :: r)=some l):∃ao m,l=ao :: m/\wD P ops o=some ao/\iS P ops r=some m:=by
 simp only [iS] at hc
 split at hc
 ·rename_i x m h1 h2;cases hc;exact ⟨x,m,rfl,h1,h2⟩
 ·cases hc
theorem C6 {rec:Rec} (hrec:l8 P rec) {ops:Array Oper} {b:Frame} {k:List Item}:∀(r:List Oper) (i:Nat),(∀j,r[j]?=ops[i+j]?)->∀(l:List AO),iS P ops r=some l->
  ∀{ρ N w0 w h a ca cs x a' h'},bW P ρ N w0 h w->eT ρ b cs a ca->eW P rec l a h=some (x,a',h')->
  jM P ρ N w0 (lone (b.atR ca (.inRegion ops (List.range' i r.length) :: k)) cs w) b k cs a x a' h'
 | [],i,_,l,hc,ρ,N,w0,w,h,a,ca,cs,x,a',h',hR,hs,he=>by
   simp only [iS,Option.some.injEq] at hc
   subst hc
   simp only [eW,Option.some.injEq,Prod.mk.injEq] at he
   obtain ⟨rfl,rfl,rfl⟩:=he
   exact ⟨ρ,w,ca,cs,ρ.le_refl,hR,hs.1,kQ.refl _ _,rfl,.one stepR_region_end⟩
 |o :: r,i,hj,l,hc,ρ,N,w0,w,h,a,ca,cs,x,a',h',hR,hs,he=>by
  obtain ⟨ao,m,rfl,hco,hcr⟩:=oG hc
  have ho:ops[i]?=some o:=by simpa using (hj 0).symm
  have hj':∀j,r[j]?=ops[i+1+j]?:=fun j=>by have:=hj (j+1);simpa [Nat.add_assoc,Nat.add_comm 1 j] using this
  simp only [List.length_cons,List.range'_succ]
  simp only [eW] at he
  split at he
  ·rename_i a1 h1 hev
   obtain ⟨ρ1,w1,ca1,cs1,hle1,hR1,hact1,hcs1,hrd1,hst1⟩:=rC hrec hR ho hco hs (rest:=List.range' (i+1) r.length) hev k
   have hs1:=hs.next hle1 hact1 hcs1 hrd1
   obtain ⟨ρ2,w2,ca2,cs2,hle2,hR2,hact2,hcs2,hrd2,harr⟩:=C6 hrec r (i+1) hj' m hcr hR1 hs1 he
   exact ⟨ρ2,w2,ca2,cs2,bz.le_trans hle1 hle2,hR2,hact2,hcs1.trans hcs2,hrd2.trans hrd1,EJ.of_steps hst1 harr⟩
  ·rename_i v a1 h1 hev
   cases he
   obtain ⟨ρ1,w1,ca1,hle1,hR1,hact1,hrc1,hrd1,todo,u,hnc,hu,hst⟩:=rC hrec hR ho hco hs (rest:=List.range' (i+1) r.length) hev k
   exact ⟨ρ1,w1,ca1,cs,hle1,hR1,hact1.OA,.inl ⟨hrc1,rfl⟩,hrd1,todo,u,hnc,hu,hst⟩
  ·cases he
end Go.Ev
