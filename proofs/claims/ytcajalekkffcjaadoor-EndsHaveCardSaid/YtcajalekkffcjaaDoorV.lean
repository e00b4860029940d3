/- What is to be shown of the functions that the statement reaches, and that it holds. -/
import Derived.Test.YtcajalekkffcjaaDoorOwn
import Derived.Test.YtcajalekkffcjaaDoorXC
namespace Go.Proofs.YtcajalekkffcjaaDoor
open Go Go.Ev
def sQ (_W:Rec) (a:bR) (b:Int) (r:Bool):Prop:=
 ((64:Int)≠(0:Int))/\
 ∀x0:Int,x0=IntKind.u8.wrap (b.tdiv (64:Int))->
 ((0:Int)<=x0)/\
 (x0 < (↑(4:Nat):Int))/\
 ∀x1:Int,x1=[a.a,a.b,a.c,a.d].getD x0.toNat (0:Int)->
 ((64:Int)≠(0:Int))/\
 ∀x2:Int,x2=b.tmod (64:Int)->
 ((0:Int)<=x2)/\
 ∀x3:Int,x3=Ll IntKind.u64 x1 x2->
 ∀x4:Int,x4=Li IntKind.u64 x3 (1:Int)->
 cV (x4=(1:Int))
 (true=r)
 (false=r)
set_option maxRecDepth 100000 in
theorem AU (W:Rec) (a:bR) (b:Int) (r:Bool):sC PP E W gA (kU PP) bF (jt a b).env ((jt a b).fst++((jt a b).args++(jt a b).cap)) ((gA.sig bF).res r) ((gA.sig bF).out r) ((gA.sig bF).new r) (eX (gA.sig bF) r)=sQ W a b r:=by kernel_rfl
set_option maxRecDepth 100000 in
theorem Ap {W:Rec} (w:WK W) (a:bR) (b:Int) (r:Bool) (h:sQ W a b r):cC E W (.fn bF [] []) [] [kO a,G6 b] (bg r) [] []:=by
 obtain ⟨nk,w1,w2⟩:=w.ok
 exact cU dS w1 (w2 _ (by decide)) (Γ:=gA) (a:=[]) (b:=[]) (Eq.mpr (AU W a b r) h)
def mA (_W:Rec) (a:bR) (b:Int) (r:Bool):Prop:=
 ((64:Int)≠(0:Int))/\
 ∀x0:Int,x0=IntKind.u8.wrap (b.tdiv (64:Int))->
 ((0:Int)<=x0)/\
 (x0 < (↑(4:Nat):Int))/\
 ∀x1:Int,x1=[a.a,a.b,a.c,a.d].getD x0.toNat (0:Int)->
 ((64:Int)≠(0:Int))/\
 ∀x2:Int,x2=b.tmod (64:Int)->
 ∀x3:Int,x3=IntKind.u64.wrap x2->
 ((0:Int)<=x3)/\
 ∀x4:Int,x4=Ll IntKind.u64 x1 x3->
 ∀x5:Int,x5=Li IntKind.u64 x4 (1:Int)->
 cV (x5=(1:Int))
 (true=r)
 (false=r)
set_option maxRecDepth 100000 in
theorem tJ (W:Rec) (a:bR) (b:Int) (r:Bool):sC PP E W dH (kU PP) bw (fH a b).env ((fH a b).fst++((fH a b).args++(fH a b).cap)) ((dH.sig bw).res r) ((dH.sig bw).out r) ((dH.sig bw).new r) (eX (dH.sig bw) r)=mA W a b r:=by kernel_rfl
set_option maxRecDepth 100000 in
theorem sS {W:Rec} (w:WK W) (a:bR) (b:Int) (r:Bool) (h:mA W a b r):cC E W (.fn bw [] []) [] [kO a,G6 b] (bg r) [] []:=by
 obtain ⟨nk,w1,w2⟩:=w.ok
 exact cU dS w1 (w2 _ (by decide)) (Γ:=dH) (a:=[]) (b:=[]) (Eq.mpr (tJ W a b r) h)
end Go.Proofs.YtcajalekkffcjaaDoor
namespace Go.Proofs.YtcajalekkffcjaaDoor
open Go Go.Ev
theorem Ao {W:Rec} (w:WK W) (a:bR) (b:Int) (h0:0<=b) (h1:b < 256):cC E W (.fn bF [] []) [] [kO a,G6 b] (bg (hasB a b)) [] []:=by
 obtain ⟨k1,k2,k3,k4⟩:=CO h0 h1
 refine Ap w a b _ ⟨by decide,fun x0 e0=>?_⟩
 rw [IN k1 (by omega)] at e0
 subst e0
 refine ⟨k1,k2,fun x1 e1=>⟨by decide,fun x2 e2=>?_⟩⟩
 subst e1 e2
 refine ⟨k3,fun x3 e3 x4 e4=>?_⟩
 subst e3 e4
 unfold hasB
 exact ⟨fun h=>(decide_eq_true h).symm,fun h=>(decide_eq_false h).symm⟩
theorem lW {W:Rec} (w:WK W) (a:bR) (b:Int) (h0:0<=b) (h1:b < 256):cC E W (.fn bw [] []) [] [kO a,G6 b] (bg (hasB a b)) [] []:=by
 obtain ⟨k1,k2,k3,k4⟩:=CO h0 h1
 refine sS w a b _ ⟨by decide,fun x0 e0=>?_⟩
 rw [IN k1 (by omega)] at e0
 subst e0
 refine ⟨k1,k2,fun x1 e1=>⟨by decide,fun x2 e2 x3 e3=>?_⟩⟩
 subst e1 e2
 rw [KY k3 (by omega)] at e3
 subst e3
 refine ⟨k3,fun x4 e4 x5 e5=>?_⟩
 subst e4 e5
 unfold hasB
 exact ⟨fun h=>(decide_eq_true h).symm,fun h=>(decide_eq_false h).symm⟩
end Go.Proofs.YtcajalekkffcjaaDoor
namespace Go.Proofs.YtcajalekkffcjaaDoor
open Go Go.Ev
def uX (_W:Rec) (a:aP) (r:Int):Prop:=
 cV (a.least < (0:Int))
 ((2:Int)=r)
 (cV (a.most=(-1:Int))
 (∀x0:Int,x0=((a.lead.length:Nat):Int)->x0<=9223372036854775807->
 ∀x1:Int,x1=((a.trail.length:Nat):Int)->x1<=9223372036854775807->
 ∃I2:Int->Prop,
 ∃I3:Int->Nat,
 (I2 (0:Int))/\
 ∀x4:Int,
 I2 x4->
 cV (x4 < (2:Int))
 (((0:Int)<=x4)/\
 (x4 < (↑(2:Nat):Int))/\
 ∀x5:Int,x5=[x0,x1].getD x4.toNat (0:Int)->
 cV ((64:Int) < x5)
 ((4:Int)=r)
 (cV (a.least < x5)
 ((4:Int)=r)
 (∀x6:Int,x6=IntKind.i64.wrap (x4+(1:Int))->
 (I2 x6)/\
 I3 x6 < I3 x4)))
 ((0:Int)=r))
 (cV (a.most < a.least)
 ((2:Int)=r)
 (∀x7:Int,x7=((a.lead.length:Nat):Int)->x7<=9223372036854775807->
 ∀x8:Int,x8=((a.trail.length:Nat):Int)->x8<=9223372036854775807->
 ∃I9:Int->Prop,
 ∃I10:Int->Nat,
 (I9 (0:Int))/\
 ∀x11:Int,
 I9 x11->
 cV (x11 < (2:Int))
 (((0:Int)<=x11)/\
 (x11 < (↑(2:Nat):Int))/\
 ∀x12:Int,x12=[x7,x8].getD x11.toNat (0:Int)->
 cV ((64:Int) < x12)
 ((4:Int)=r)
 (cV (a.least < x12)
 ((4:Int)=r)
 (∀x13:Int,x13=IntKind.i64.wrap (x11+(1:Int))->
 (I9 x13)/\
 I10 x13 < I10 x11)))
 ((0:Int)=r))))
set_option maxRecDepth 100000 in
theorem Cx (W:Rec) (a:aP) (r:Int):sC PP E W iu (kU PP) dM (kr a).env ((kr a).fst++((kr a).args++(kr a).cap)) ((iu.sig dM).res r) ((iu.sig dM).out r) ((iu.sig dM).new r) (eX (iu.sig dM) r)=uX W a r:=by kernel_rfl
set_option maxRecDepth 100000 in
theorem BV {W:Rec} (w:WK W) (a:aP) (r:Int) (h:uX W a r):cC E W (.fn dM [] []) [] [cD a] (eL r) [] []:=by
 obtain ⟨nk,w1,w2⟩:=w.ok
 exact cU dS w1 (w2 _ (by decide)) (Γ:=iu) (a:=[]) (b:=[]) (Eq.mpr (Cx W a r) h)
def kK (_W:Rec) (a:aP) (r:Int):Prop:=
 cV (a.least < (0:Int))
 ((2:Int)=r)
 (cV (a.most < (-1:Int))
 ((2:Int)=r)
 (cV ((0:Int)<=a.most)
 (cV (a.most < a.least)
 ((2:Int)=r)
 (∀x0:Int,x0=((a.lead.length:Nat):Int)->x0<=9223372036854775807->
 cV ((64:Int) < x0)
 ((4:Int)=r)
 (∀x1:Int,x1=((a.trail.length:Nat):Int)->x1<=9223372036854775807->
 cV ((64:Int) < x1)
 ((4:Int)=r)
 (∀x2:Int,x2=((a.lead.length:Nat):Int)->x2<=9223372036854775807->
 cV (a.least < x2)
 ((4:Int)=r)
 (∀x3:Int,x3=((a.trail.length:Nat):Int)->x3<=9223372036854775807->
 cV (a.least < x3)
 ((4:Int)=r)
 ((0:Int)=r))))))
 (∀x4:Int,x4=((a.lead.length:Nat):Int)->x4<=9223372036854775807->
 cV ((64:Int) < x4)
 ((4:Int)=r)
 (∀x5:Int,x5=((a.trail.length:Nat):Int)->x5<=9223372036854775807->
 cV ((64:Int) < x5)
 ((4:Int)=r)
 (∀x6:Int,x6=((a.lead.length:Nat):Int)->x6<=9223372036854775807->
 cV (a.least < x6)
 ((4:Int)=r)
 (∀x7:Int,x7=((a.trail.length:Nat):Int)->x7<=9223372036854775807->
 cV (a.least < x7)
 ((4:Int)=r)
 ((0:Int)=r)))))))
set_option maxRecDepth 100000 in
theorem qX (W:Rec) (a:aP) (r:Int):sC PP E W cP (kU PP) bh (eU a).env ((eU a).fst++((eU a).args++(eU a).cap)) ((cP.sig bh).res r) ((cP.sig bh).out r) ((cP.sig bh).new r) (eX (cP.sig bh) r)=kK W a r:=by kernel_rfl
set_option maxRecDepth 100000 in
theorem qm {W:Rec} (w:WK W) (a:aP) (r:Int) (h:kK W a r):cC E W (.fn bh [] []) [] [cD a] (eL r) [] []:=by
 obtain ⟨nk,w1,w2⟩:=w.ok
 exact cU dS w1 (w2 _ (by decide)) (Γ:=cP) (a:=[]) (b:=[]) (Eq.mpr (qX W a r) h)
def n8 (_W:Rec) (a:aP) (r:(Int × Int)):Prop:=
 (a.least=r.fst)/\
 a.most=r.snd
set_option maxRecDepth 100000 in
theorem vW (W:Rec) (a:aP) (r:(Int × Int)):sC PP E W eK (kU PP) bD (gM a).env ((gM a).fst++((gM a).args++(gM a).cap)) ((eK.sig bD).res r) ((eK.sig bD).out r) ((eK.sig bD).new r) (eX (eK.sig bD) r)=n8 W a r:=by kernel_rfl
set_option maxRecDepth 100000 in
theorem vo {W:Rec} (w:WK W) (a:aP) (r:Int × Int) (h:n8 W a r):cC E W (.fn bD [] []) [] [cD a] (pM r) [] []:=by
 obtain ⟨nk,w1,w2⟩:=w.ok
 exact cU dS w1 (w2 _ (by decide)) (Γ:=eK) (a:=[]) (b:=[]) (Eq.mpr (vW W a r) h)
def jE (_W:Rec) (a:(Int × Int)) (b:(Int × Int)) (r:Bool):Prop:=
 cV (a.snd=(-1:Int))
 (cV (b.snd=(-1:Int))
 (true=r)
 (cV (a.fst<=b.snd)
 (true=r)
 (false=r)))
 (cV (b.fst<=a.snd)
 (cV (b.snd=(-1:Int))
 (true=r)
 (cV (a.fst<=b.snd)
 (true=r)
 (false=r)))
 (false=r))
set_option maxRecDepth 100000 in
theorem qf (W:Rec) (a:(Int × Int)) (b:(Int × Int)) (r:Bool):sC PP E W cq (kU PP) aN (eD a b).env ((eD a b).fst++((eD a b).args++(eD a b).cap)) ((cq.sig aN).res r) ((cq.sig aN).out r) ((cq.sig aN).new r) (eX (cq.sig aN) r)=jE W a b r:=by kernel_rfl
set_option maxRecDepth 100000 in
theorem pU {W:Rec} (w:WK W) (a b:Int × Int) (r:Bool) (h:jE W a b r):cC E W (.fn aN [] []) [] [pM a,pM b] (bg r) [] []:=by
 obtain ⟨nk,w1,w2⟩:=w.ok
 exact cU dS w1 (w2 _ (by decide)) (Γ:=cq) (a:=[]) (b:=[]) (Eq.mpr (qf W a b r) h)
def kY (W:Rec) (a:(Int × Int)) (n:Int) (r:Bool):Prop:=
 ∃b0:Bool,
 (cC E W (.fn aN [] []) [] [.agg [.v (.int .i64 a.fst),.v (.int .i64 a.snd)],.agg [.v (.int .i64 n),.v (.int .i64 n)]] (.v (.bool b0)) [] [])/\
 b0=r
set_option maxRecDepth 100000 in
theorem sD (W:Rec) (a:(Int × Int)) (n:Int) (r:Bool):sC PP E W c9 (kU PP) bA (fl a n).env ((fl a n).fst++((fl a n).args++(fl a n).cap)) ((c9.sig bA).res r) ((c9.sig bA).out r) ((c9.sig bA).new r) (eX (c9.sig bA) r)=kY W a n r:=by kernel_rfl
set_option maxRecDepth 100000 in
theorem sd {W:Rec} (w:WK W) (a:Int × Int) (n:Int) (r:Bool) (h:kY W a n r):cC E W (.fn bA [] []) [] [pM a,eL n] (bg r) [] []:=by
 obtain ⟨nk,w1,w2⟩:=w.ok
 exact cU dS w1 (w2 _ (by decide)) (Γ:=c9) (a:=[]) (b:=[]) (Eq.mpr (sD W a n r) h)
def iA (W:Rec) (a:List bR) (b:List Int) (r:Bool):Prop:=
 ∀x0:Int,x0=((a.length:Nat):Int)->x0<=9223372036854775807->
 ∀x1:Int,x1=((b.length:Nat):Int)->x1<=9223372036854775807->
 ∀x2:Int,x2=My x0 x1->
 ∃I3:Int->Prop,
 ∃I4:Int->Nat,
 (I3 (0:Int))/\
 ∀x5:Int,
 I3 x5->
 cV (x5 < x2)
 (((0:Int)<=x5)/\
 (x5 < (↑a.length:Int))/\
 ∀r6:bR,
 a[x5.toNat]?=some r6->
 ((0:Int)<=x5)/\
 (x5 < (↑b.length:Int))/\
 ∀x7:Int,
 b[x5.toNat]?=some x7->
 ∃b8:Bool,
 (cC E W (.fn bF [] []) [] [.agg [.v (.int .u64 r6.a),.v (.int .u64 r6.b),.v (.int .u64 r6.c),.v (.int .u64 r6.d)],.v (.int .u8 x7)] (.v (.bool b8)) [] [])/\
 nv (!b8)
 (false=r)
 (∀x9:Int,x9=IntKind.i64.wrap (x5+(1:Int))->
 (I3 x9)/\
 I4 x9 < I4 x5))
 (true=r)
set_option maxRecDepth 100000 in
theorem mO (W:Rec) (a:List bR) (b:List Int) (r:Bool):sC PP E W bI (kU PP) aG (c7 a b).env ((c7 a b).fst++((c7 a b).args++(c7 a b).cap)) ((bI.sig aG).res r) ((bI.sig aG).out r) ((bI.sig aG).new r) (eX (bI.sig aG) r)=iA W a b r:=by kernel_rfl
set_option maxRecDepth 100000 in
theorem mL {W:Rec} (w:WK W) (a:List bR) (b:List Int) (r:Bool) (h:iA W a b r):cC E W (.fn aG [] []) [] [.ro bG a,.ro BX b,.fn bF [] []] (bg r) [] []:=by
 obtain ⟨nk,w1,w2⟩:=w.ok
 exact cU dS w1 (w2 _ (by decide)) (Γ:=bI) (a:=[]) (b:=[]) (Eq.mpr (mO W a b r) h)
def jF (W:Rec) (a:aP) (b:aP) (r:Bool):Prop:=
 ∃b0:Bool,
 (cC E W (.fn aW [] []) [] [.ro bG a.lead,.ro bG b.lead] (.v (.bool b0)) [] [])/\
 nv b0
 (∃b1:Bool,
 (cC E W (.fn aW [] []) [] [.ro bG a.trail,.ro bG b.trail] (.v (.bool b1)) [] [])/\
 nv b1
 (cV (a.least=b.least)
 (cV (a.most=b.most)
 (true=r)
 (false=r))
 (false=r))
 (false=r))
 (false=r)
set_option maxRecDepth 100000 in
theorem qg (W:Rec) (a:aP) (b:aP) (r:Bool):sC PP E W ct (kU PP) bp (eF a b).env ((eF a b).fst++((eF a b).args++(eF a b).cap)) ((ct.sig bp).res r) ((ct.sig bp).out r) ((ct.sig bp).new r) (eX (ct.sig bp) r)=jF W a b r:=by kernel_rfl
set_option maxRecDepth 100000 in
theorem p4 {W:Rec} (w:WK W) (a b:aP) (r:Bool) (h:jF W a b r):cC E W (.fn bp [] []) [] [cD a,cD b] (bg r) [] []:=by
 obtain ⟨nk,w1,w2⟩:=w.ok
 exact cU dS w1 (w2 _ (by decide)) (Γ:=ct) (a:=[]) (b:=[]) (Eq.mpr (qg W a b r) h)
def jG (_W:Rec) (a:List bR) (b:List bR) (r:Bool):Prop:=
 ∀x0:Int,x0=((a.length:Nat):Int)->x0<=9223372036854775807->
 ∀x1:Int,x1=((b.length:Nat):Int)->x1<=9223372036854775807->
 cV (x0=x1)
 (∃I2:Int->Prop,
 ∃I3:Int->Nat,
 (I2 (0:Int))/\
 ∀x4:Int,
 I2 x4->
 ∀x5:Int,x5=((a.length:Nat):Int)->x5<=9223372036854775807->
 cV (x4 < x5)
 (((0:Int)<=x4)/\
 (x4 < (↑a.length:Int))/\
 ∀r6:bR,
 a[x4.toNat]?=some r6->
 ((0:Int)<=x4)/\
 (x4 < (↑b.length:Int))/\
 ∀r7:bR,
 b[x4.toNat]?=some r7->
 cV ((([.int .u64 r6.a,.int .u64 r6.b,.int .u64 r6.c,.int .u64 r6.d]:List Value)=[.int .u64 r7.a,.int .u64 r7.b,.int .u64 r7.c,.int .u64 r7.d]))
 (∀x8:Int,x8=IntKind.i64.wrap (x4+(1:Int))->
 (I2 x8)/\
 I3 x8 < I3 x4)
 (false=r))
 (true=r))
 (false=r)
set_option maxRecDepth 100000 in
theorem qh (W:Rec) (a:List bR) (b:List bR) (r:Bool):sC PP E W cw (kU PP) aW (eG a b).env ((eG a b).fst++((eG a b).args++(eG a b).cap)) ((cw.sig aW).res r) ((cw.sig aW).out r) ((cw.sig aW).new r) (eX (cw.sig aW) r)=jG W a b r:=by kernel_rfl
set_option maxRecDepth 100000 in
theorem pY {W:Rec} (w:WK W) (a b:List bR) (r:Bool) (h:jG W a b r):cC E W (.fn aW [] []) [] [.ro bG a,.ro bG b] (bg r) [] []:=by
 obtain ⟨nk,w1,w2⟩:=w.ok
 exact cU dS w1 (w2 _ (by decide)) (Γ:=cw) (a:=[]) (b:=[]) (Eq.mpr (qh W a b r) h)
def zO (W:Rec) (e:aP) (s:ByteArray) (r:(Bool × Int)):Prop:=
 ∃x0:Int,
 (cC E W (.fn dM [] []) [] [.agg [.ro bG e.lead,.ro bG e.trail,.v (.int .i64 e.least),.v (.int .i64 e.most)]] (.v (.int .i64 x0)) [] [])/\
 cV (x0=(0:Int))
 (∃r1:(Int × Int),
 (cC E W (.fn bD [] []) [] [.agg [.ro bG e.lead,.ro bG e.trail,.v (.int .i64 e.least),.v (.int .i64 e.most)]] (.agg [.v (.int .i64 r1.fst),.v (.int .i64 r1.snd)]) [] [])/\
 ∃b2:Bool,
 (cC E W (.fn bA [] []) [] [.agg [.v (.int .i64 r1.fst),.v (.int .i64 r1.snd)],.v (.int .i64 ((↑s.size:Int)))] (.v (.bool b2)) [] [])/\
 nv b2
 (∃b3:Bool,
 (cC E W (.fn dP [] []) [] [.agg [.ro bG e.lead,.ro bG e.trail,.v (.int .i64 e.least),.v (.int .i64 e.most)],.v (.string s),.v (.string s)] (.v (.bool b3)) [] [])/\
 (b3=r.fst)/\
 (0:Int)=r.snd)
 ((false=r.fst)/\
 (0:Int)=r.snd))
 ((false=r.fst)/\
 x0=r.snd)
set_option maxRecDepth 100000 in
theorem FK (W:Rec) (e:aP) (s:ByteArray) (r:(Bool × Int)):sC PP E W jY (kU PP) fS (nc e s).env ((nc e s).fst++((nc e s).args++(nc e s).cap)) ((jY.sig fS).res r) ((jY.sig fS).out r) ((jY.sig fS).new r) (eX (jY.sig fS) r)=zO W e s r:=by kernel_rfl
set_option maxRecDepth 100000 in
theorem EN {W:Rec} (w:WK W) (e:aP) (s:ByteArray) (r:Bool × Int) (h:zO W e s r):cC E W (.fn fS [] []) [] [cD e,cn s] (iR r) [] []:=by
 obtain ⟨nk,w1,w2⟩:=w.ok
 exact cU dS w1 (w2 _ (by decide)) (Γ:=jY) (a:=[]) (b:=[]) (Eq.mpr (FK W e s r) h)
def mB (W:Rec) (e:aP) (s:ByteArray) (r:(Bool × Int)):Prop:=
 ∃x0:Int,
 (cC E W (.fn bh [] []) [] [.agg [.ro bG e.lead,.ro bG e.trail,.v (.int .i64 e.least),.v (.int .i64 e.most)]] (.v (.int .i64 x0)) [] [])/\
 cV (x0=(0:Int))
 (cV (e.least<=(↑s.size:Int))
 (cV (e.most < (0:Int))
 (∃b1:Bool,
 (cC E W (.fn aJ [] []) [] [.ro bG e.lead,.v (.string s)] (.v (.bool b1)) [] [])/\
 nv b1
 (∃b2:Bool,
 (cC E W (.fn aO [] []) [] [.ro bG e.trail,.v (.string s)] (.v (.bool b2)) [] [])/\
 (b2=r.fst)/\
 (0:Int)=r.snd)
 ((false=r.fst)/\
 (0:Int)=r.snd))
 (cV ((↑s.size:Int)<=e.most)
 (∃b3:Bool,
 (cC E W (.fn aJ [] []) [] [.ro bG e.lead,.v (.string s)] (.v (.bool b3)) [] [])/\
 nv b3
 (∃b4:Bool,
 (cC E W (.fn aO [] []) [] [.ro bG e.trail,.v (.string s)] (.v (.bool b4)) [] [])/\
 (b4=r.fst)/\
 (0:Int)=r.snd)
 ((false=r.fst)/\
 (0:Int)=r.snd))
 ((false=r.fst)/\
 (0:Int)=r.snd)))
 ((false=r.fst)/\
 (0:Int)=r.snd))
 ((false=r.fst)/\
 x0=r.snd)
set_option maxRecDepth 100000 in
theorem tK (W:Rec) (e:aP) (s:ByteArray) (r:(Bool × Int)):sC PP E W dI (kU PP) bJ (fI e s).env ((fI e s).fst++((fI e s).args++(fI e s).cap)) ((dI.sig bJ).res r) ((dI.sig bJ).out r) ((dI.sig bJ).new r) (eX (dI.sig bJ) r)=mB W e s r:=by kernel_rfl
set_option maxRecDepth 100000 in
theorem sV {W:Rec} (w:WK W) (e:aP) (s:ByteArray) (r:Bool × Int) (h:mB W e s r):cC E W (.fn bJ [] []) [] [cD e,cn s] (iR r) [] []:=by
 obtain ⟨nk,w1,w2⟩:=w.ok
 exact cU dS w1 (w2 _ (by decide)) (Γ:=dI) (a:=[]) (b:=[]) (Eq.mpr (tK W e s r) h)
def sR (W:Rec) (x:aK) (s:ByteArray) (r:(Bool × Int)):Prop:=
 ∃x0:Int,
 (cC E W (.fn cX [] []) [] [.agg [.v (.string x.first),.v (.string x.last),.v (.bool x.exact),.v (.int .i64 x.least),.v (.int .i64 x.most)]] (.v (.int .i64 x0)) [] [])/\
 cV (x0=(0:Int))
 (nv x.exact
 (cV (s=x.first)
 ((true=r.fst)/\
 (0:Int)=r.snd)
 ((false=r.fst)/\
 (0:Int)=r.snd))
 (cV (x.least<=(↑s.size:Int))
 (∃b1:Bool,
 (cC E W (.fn bB [] []) [] [.v (.string s),.v (.string x.first)] (.v (.bool b1)) [] [])/\
 nv b1
 (∃b2:Bool,
 (cC E W (.fn bC [] []) [] [.v (.string s),.v (.string x.last)] (.v (.bool b2)) [] [])/\
 (b2=r.fst)/\
 (0:Int)=r.snd)
 ((false=r.fst)/\
 (0:Int)=r.snd))
 ((false=r.fst)/\
 (0:Int)=r.snd)))
 ((false=r.fst)/\
 x0=r.snd)
set_option maxRecDepth 100000 in
theorem AV (W:Rec) (x:aK) (s:ByteArray) (r:(Bool × Int)):sC PP E W gB (kU PP) dN (ju x s).env ((ju x s).fst++((ju x s).args++(ju x s).cap)) ((gB.sig dN).res r) ((gB.sig dN).out r) ((gB.sig dN).new r) (eX (gB.sig dN) r)=sR W x s r:=by kernel_rfl
set_option maxRecDepth 100000 in
theorem Ar {W:Rec} (w:WK W) (x:aK) (s:ByteArray) (r:Bool × Int) (h:sR W x s r):cC E W (.fn dN [] []) [] [dZ x,cn s] (iR r) [] []:=by
 obtain ⟨nk,w1,w2⟩:=w.ok
 exact cU dS w1 (w2 _ (by decide)) (Γ:=gB) (a:=[]) (b:=[]) (Eq.mpr (AV W x s r) h)
def jH (W:Rec) (x:aK) (s:ByteArray) (r:(Bool × Int)):Prop:=
 ∃x0:Int,
 (cC E W (.fn aQ [] []) [] [.agg [.v (.string x.first),.v (.string x.last),.v (.bool x.exact),.v (.int .i64 x.least),.v (.int .i64 x.most)]] (.v (.int .i64 x0)) [] [])/\
 cV (x0=(0:Int))
 (nv x.exact
 (cV (s=x.first)
 ((true=r.fst)/\
 (0:Int)=r.snd)
 ((false=r.fst)/\
 (0:Int)=r.snd))
 (cV (x.least<=(↑s.size:Int))
 (((0:Int)<=(0:Int))/\
 ((0:Int)<=(↑x.first.size:Int))/\
 ((↑x.first.size:Int)<=(↑s.size:Int))/\
 cV (s.extract (Int.toNat (0:Int)) (↑x.first.size:Int).toNat=x.first)
 (∀x1:Int,x1=IntKind.i64.wrap ((↑s.size:Int) - (↑x.last.size:Int))->
 ((0:Int)<=x1)/\
 (x1<=(↑s.size:Int))/\
 ((↑s.size:Int)<=(↑s.size:Int))/\
 cV (s.extract x1.toNat (↑s.size:Int).toNat=x.last)
 ((true=r.fst)/\
 (0:Int)=r.snd)
 ((false=r.fst)/\
 (0:Int)=r.snd))
 ((false=r.fst)/\
 (0:Int)=r.snd))
 ((false=r.fst)/\
 (0:Int)=r.snd)))
 ((false=r.fst)/\
 x0=r.snd)
set_option maxRecDepth 100000 in
theorem qj (W:Rec) (x:aK) (s:ByteArray) (r:(Bool × Int)):sC PP E W cz (kU PP) bn (eH x s).env ((eH x s).fst++((eH x s).args++(eH x s).cap)) ((cz.sig bn).res r) ((cz.sig bn).out r) ((cz.sig bn).new r) (eX (cz.sig bn) r)=jH W x s r:=by kernel_rfl
set_option maxRecDepth 100000 in
theorem pW {W:Rec} (w:WK W) (x:aK) (s:ByteArray) (r:Bool × Int) (h:jH W x s r):cC E W (.fn bn [] []) [] [dZ x,cn s] (iR r) [] []:=by
 obtain ⟨nk,w1,w2⟩:=w.ok
 exact cU dS w1 (w2 _ (by decide)) (Γ:=cz) (a:=[]) (b:=[]) (Eq.mpr (qj W x s r) h)
def uY (_W:Rec) (x:aK) (r:Int):Prop:=
 cV ((96:Int) < (↑x.first.size:Int))
 ((4:Int)=r)
 (cV ((96:Int) < (↑x.last.size:Int))
 ((4:Int)=r)
 (nv x.exact
 (cV (x.last=x.first)
 (cV (x.least=(↑x.first.size:Int))
 (cV (x.most=(↑x.first.size:Int))
 (nv (!x.exact)
 (∀x0:Int,x0=IntKind.i64.wrap ((↑x.first.size:Int)+(↑x.last.size:Int))->
 cV (x.least < x0)
 ((2:Int)=r)
 (cV ((1000:Int) < x.least)
 ((2:Int)=r)
 (cV (x.most=(-1:Int))
 ((0:Int)=r)
 ((2:Int)=r))))
 ((0:Int)=r))
 ((3:Int)=r))
 ((3:Int)=r))
 ((3:Int)=r))
 (nv (!x.exact)
 (∀x1:Int,x1=IntKind.i64.wrap ((↑x.first.size:Int)+(↑x.last.size:Int))->
 cV (x.least < x1)
 ((2:Int)=r)
 (cV ((1000:Int) < x.least)
 ((2:Int)=r)
 (cV (x.most=(-1:Int))
 ((0:Int)=r)
 ((2:Int)=r))))
 ((0:Int)=r))))
set_option maxRecDepth 100000 in
theorem Cy (W:Rec) (x:aK) (r:Int):sC PP E W iw (kU PP) cX (ku x).env ((ku x).fst++((ku x).args++(ku x).cap)) ((iw.sig cX).res r) ((iw.sig cX).out r) ((iw.sig cX).new r) (eX (iw.sig cX) r)=uY W x r:=by kernel_rfl
set_option maxRecDepth 100000 in
theorem BW {W:Rec} (w:WK W) (x:aK) (r:Int) (h:uY W x r):cC E W (.fn cX [] []) [] [dZ x] (eL r) [] []:=by
 obtain ⟨nk,w1,w2⟩:=w.ok
 exact cU dS w1 (w2 _ (by decide)) (Γ:=iw) (a:=[]) (b:=[]) (Eq.mpr (Cy W x r) h)
def kL (_W:Rec) (x:aK) (r:Int):Prop:=
 cV ((96:Int) < (↑x.first.size:Int))
 ((4:Int)=r)
 (cV ((96:Int) < (↑x.last.size:Int))
 ((4:Int)=r)
 (nv (!x.exact)
 (∀x0:Int,x0=IntKind.i64.wrap ((↑x.first.size:Int)+(↑x.last.size:Int))->
 cV (x.least < x0)
 ((2:Int)=r)
 (cV ((1000:Int) < x.least)
 ((2:Int)=r)
 (cV (x.most=(-1:Int))
 (nv x.exact
 (cV (x.last=x.first)
 (cV (x.least=(↑x.first.size:Int))
 (cV (x.most=(↑x.first.size:Int))
 ((0:Int)=r)
 ((3:Int)=r))
 ((3:Int)=r))
 ((3:Int)=r))
 ((0:Int)=r))
 ((2:Int)=r))))
 (nv x.exact
 (cV (x.last=x.first)
 (cV (x.least=(↑x.first.size:Int))
 (cV (x.most=(↑x.first.size:Int))
 ((0:Int)=r)
 ((3:Int)=r))
 ((3:Int)=r))
 ((3:Int)=r))
 ((0:Int)=r))))
set_option maxRecDepth 100000 in
theorem qY (W:Rec) (x:aK) (r:Int):sC PP E W cQ (kU PP) aQ (eV x).env ((eV x).fst++((eV x).args++(eV x).cap)) ((cQ.sig aQ).res r) ((cQ.sig aQ).out r) ((cQ.sig aQ).new r) (eX (cQ.sig aQ) r)=kL W x r:=by kernel_rfl
set_option maxRecDepth 100000 in
theorem qn {W:Rec} (w:WK W) (x:aK) (r:Int) (h:kL W x r):cC E W (.fn aQ [] []) [] [dZ x] (eL r) [] []:=by
 obtain ⟨nk,w1,w2⟩:=w.ok
 exact cU dS w1 (w2 _ (by decide)) (Γ:=cQ) (a:=[]) (b:=[]) (Eq.mpr (qY W x r) h)
def zP (W:Rec) (e:aP) (x:aK) (r:(Bool × Int)):Prop:=
 ∃x0:Int,
 (cC E W (.fn dM [] []) [] [.agg [.ro bG e.lead,.ro bG e.trail,.v (.int .i64 e.least),.v (.int .i64 e.most)]] (.v (.int .i64 x0)) [] [])/\
 cV (x0=(0:Int))
 (∃x1:Int,
 (cC E W (.fn cX [] []) [] [.agg [.v (.string x.first),.v (.string x.last),.v (.bool x.exact),.v (.int .i64 x.least),.v (.int .i64 x.most)]] (.v (.int .i64 x1)) [] [])/\
 cV (x1=(0:Int))
 (∃r2:(Int × Int),
 (cC E W (.fn bD [] []) [] [.agg [.ro bG e.lead,.ro bG e.trail,.v (.int .i64 e.least),.v (.int .i64 e.most)]] (.agg [.v (.int .i64 r2.fst),.v (.int .i64 r2.snd)]) [] [])/\
 ∃b3:Bool,
 (cC E W (.fn aN [] []) [] [.agg [.v (.int .i64 r2.fst),.v (.int .i64 r2.snd)],.agg [.v (.int .i64 x.least),.v (.int .i64 x.most)]] (.v (.bool b3)) [] [])/\
 nv b3
 (∃b4:Bool,
 (cC E W (.fn dP [] []) [] [.agg [.ro bG e.lead,.ro bG e.trail,.v (.int .i64 e.least),.v (.int .i64 e.most)],.v (.string x.first),.v (.string x.last)] (.v (.bool b4)) [] [])/\
 (True)/\
 (True)/\
 (b4=r.fst)/\
 (0:Int)=r.snd)
 ((True)/\
 (True)/\
 (false=r.fst)/\
 (0:Int)=r.snd))
 ((false=r.fst)/\
 x1=r.snd))
 (cV (x0=(0:Int))
 (∃r5:(Int × Int),
 (cC E W (.fn bD [] []) [] [.agg [.ro bG e.lead,.ro bG e.trail,.v (.int .i64 e.least),.v (.int .i64 e.most)]] (.agg [.v (.int .i64 r5.fst),.v (.int .i64 r5.snd)]) [] [])/\
 ∃b6:Bool,
 (cC E W (.fn aN [] []) [] [.agg [.v (.int .i64 r5.fst),.v (.int .i64 r5.snd)],.agg [.v (.int .i64 x.least),.v (.int .i64 x.most)]] (.v (.bool b6)) [] [])/\
 nv b6
 (∃b7:Bool,
 (cC E W (.fn dP [] []) [] [.agg [.ro bG e.lead,.ro bG e.trail,.v (.int .i64 e.least),.v (.int .i64 e.most)],.v (.string x.first),.v (.string x.last)] (.v (.bool b7)) [] [])/\
 (True)/\
 (True)/\
 (b7=r.fst)/\
 (0:Int)=r.snd)
 ((True)/\
 (True)/\
 (false=r.fst)/\
 (0:Int)=r.snd))
 ((false=r.fst)/\
 x0=r.snd))
set_option maxRecDepth 100000 in
theorem FL (W:Rec) (e:aP) (x:aK) (r:(Bool × Int)):sC PP E W jZ (kU PP) fT (ng e x).env ((ng e x).fst++((ng e x).args++(ng e x).cap)) ((jZ.sig fT).res r) ((jZ.sig fT).out r) ((jZ.sig fT).new r) (eX (jZ.sig fT) r)=zP W e x r:=by kernel_rfl
set_option maxRecDepth 100000 in
theorem EP {W:Rec} (w:WK W) (e:aP) (x:aK) (r:Bool × Int) (h:zP W e x r):cC E W (.fn fT [] []) [] [cD e,dZ x] (iR r) [] []:=by
 obtain ⟨nk,w1,w2⟩:=w.ok
 exact cU dS w1 (w2 _ (by decide)) (Γ:=jZ) (a:=[]) (b:=[]) (Eq.mpr (FL W e x r) h)
def mC (W:Rec) (e:aP) (x:aK) (r:(Bool × Int)):Prop:=
 ∃x0:Int,
 (cC E W (.fn bh [] []) [] [.agg [.ro bG e.lead,.ro bG e.trail,.v (.int .i64 e.least),.v (.int .i64 e.most)]] (.v (.int .i64 x0)) [] [])/\
 cV (x0=(0:Int))
 (∃x1:Int,
 (cC E W (.fn aQ [] []) [] [.agg [.v (.string x.first),.v (.string x.last),.v (.bool x.exact),.v (.int .i64 x.least),.v (.int .i64 x.most)]] (.v (.int .i64 x1)) [] [])/\
 cV (x1=(0:Int))
 (∃b2:Bool,
 (cC E W (.fn aJ [] []) [] [.ro bG e.lead,.v (.string x.first)] (.v (.bool b2)) [] [])/\
 nv b2
 (∃b3:Bool,
 (cC E W (.fn aO [] []) [] [.ro bG e.trail,.v (.string x.last)] (.v (.bool b3)) [] [])/\
 nv b3
 (cV (e.most < (0:Int))
 (cV (x.most < (0:Int))
 ((true=r.fst)/\
 (0:Int)=r.snd)
 (cV (e.least<=x.most)
 ((true=r.fst)/\
 (0:Int)=r.snd)
 ((false=r.fst)/\
 (0:Int)=r.snd)))
 (cV (x.least<=e.most)
 (cV (x.most < (0:Int))
 ((true=r.fst)/\
 (0:Int)=r.snd)
 (cV (e.least<=x.most)
 ((true=r.fst)/\
 (0:Int)=r.snd)
 ((false=r.fst)/\
 (0:Int)=r.snd)))
 ((false=r.fst)/\
 (0:Int)=r.snd)))
 ((false=r.fst)/\
 (0:Int)=r.snd))
 ((false=r.fst)/\
 (0:Int)=r.snd))
 ((false=r.fst)/\
 x1=r.snd))
 (cV (x0=(0:Int))
 (∃b4:Bool,
 (cC E W (.fn aJ [] []) [] [.ro bG e.lead,.v (.string x.first)] (.v (.bool b4)) [] [])/\
 nv b4
 (∃b5:Bool,
 (cC E W (.fn aO [] []) [] [.ro bG e.trail,.v (.string x.last)] (.v (.bool b5)) [] [])/\
 nv b5
 (cV (e.most < (0:Int))
 (cV (x.most < (0:Int))
 ((true=r.fst)/\
 (0:Int)=r.snd)
 (cV (e.least<=x.most)
 ((true=r.fst)/\
 (0:Int)=r.snd)
 ((false=r.fst)/\
 (0:Int)=r.snd)))
 (cV (x.least<=e.most)
 (cV (x.most < (0:Int))
 ((true=r.fst)/\
 (0:Int)=r.snd)
 (cV (e.least<=x.most)
 ((true=r.fst)/\
 (0:Int)=r.snd)
 ((false=r.fst)/\
 (0:Int)=r.snd)))
 ((false=r.fst)/\
 (0:Int)=r.snd)))
 ((false=r.fst)/\
 (0:Int)=r.snd))
 ((false=r.fst)/\
 (0:Int)=r.snd))
 ((false=r.fst)/\
 x0=r.snd))
set_option maxRecDepth 100000 in
theorem tL (W:Rec) (e:aP) (x:aK) (r:(Bool × Int)):sC PP E W dJ (kU PP) bK (fJ e x).env ((fJ e x).fst++((fJ e x).args++(fJ e x).cap)) ((dJ.sig bK).res r) ((dJ.sig bK).out r) ((dJ.sig bK).new r) (eX (dJ.sig bK) r)=mC W e x r:=by kernel_rfl
set_option maxRecDepth 100000 in
theorem sX {W:Rec} (w:WK W) (e:aP) (x:aK) (r:Bool × Int) (h:mC W e x r):cC E W (.fn bK [] []) [] [cD e,dZ x] (iR r) [] []:=by
 obtain ⟨nk,w1,w2⟩:=w.ok
 exact cU dS w1 (w2 _ (by decide)) (Γ:=dJ) (a:=[]) (b:=[]) (Eq.mpr (tL W e x r) h)
def qZ (_W:Rec) (s:ByteArray) (r:(aK × Int)):Prop:=
 cV ((96:Int) < (↑s.size:Int))
 (((ByteArray.mk #[]=r.fst.first)/\
 (ByteArray.mk #[]=r.fst.last)/\
 (false=r.fst.exact)/\
 ((0:Int)=r.fst.least)/\
 (0:Int)=r.fst.most)/\
 (4:Int)=r.snd)
 (((s=r.fst.first)/\
 (s=r.fst.last)/\
 (true=r.fst.exact)/\
 ((↑s.size:Int)=r.fst.least)/\
 (↑s.size:Int)=r.fst.most)/\
 (0:Int)=r.snd)
set_option maxRecDepth 100000 in
theorem zQ (W:Rec) (s:ByteArray) (r:(aK × Int)):sC PP E W fP (kU PP) cY (iM s).env ((iM s).fst++((iM s).args++(iM s).cap)) ((fP.sig cY).res r) ((fP.sig cY).out r) ((fP.sig cY).new r) (eX (fP.sig cY) r)=qZ W s r:=by kernel_rfl
set_option maxRecDepth 100000 in
theorem yl {W:Rec} (w:WK W) (s:ByteArray) (r:aK × Int) (h:qZ W s r):cC E W (.fn cY [] []) [] [cn s] (vp r) [] []:=by
 obtain ⟨nk,w1,w2⟩:=w.ok
 exact cU dS w1 (w2 _ (by decide)) (Γ:=fP) (a:=[]) (b:=[]) (Eq.mpr (zQ W s r) h)
def jv (_W:Rec) (s:ByteArray) (r:(aK × Int)):Prop:=
 cV ((96:Int) < (↑s.size:Int))
 (((ByteArray.mk #[]=r.fst.first)/\
 (ByteArray.mk #[]=r.fst.last)/\
 (false=r.fst.exact)/\
 ((0:Int)=r.fst.least)/\
 (0:Int)=r.fst.most)/\
 (4:Int)=r.snd)
 (((s=r.fst.first)/\
 (s=r.fst.last)/\
 (true=r.fst.exact)/\
 ((↑s.size:Int)=r.fst.least)/\
 (↑s.size:Int)=r.fst.most)/\
 (0:Int)=r.snd)
set_option maxRecDepth 100000 in
theorem o8 (W:Rec) (s:ByteArray) (r:(aK × Int)):sC PP E W bZ (kU PP) bf (dX s).env ((dX s).fst++((dX s).args++(dX s).cap)) ((bZ.sig bf).res r) ((bZ.sig bf).out r) ((bZ.sig bf).new r) (eX (bZ.sig bf) r)=jv W s r:=by kernel_rfl
set_option maxRecDepth 100000 in
theorem oA {W:Rec} (w:WK W) (s:ByteArray) (r:aK × Int) (h:jv W s r):cC E W (.fn bf [] []) [] [cn s] (vp r) [] []:=by
 obtain ⟨nk,w1,w2⟩:=w.ok
 exact cU dS w1 (w2 _ (by decide)) (Γ:=bZ) (a:=[]) (b:=[]) (Eq.mpr (o8 W s r) h)
def xd (W:Rec) (e:aP) (a:ByteArray) (b:ByteArray) (r:Bool):Prop:=
 xe (a.size) 1
 (∃b0:Bool,
 (cC E W (.fn aG [] []) [] [.ro bG e.lead,.ro BX (rowsOf a fun n=>n),.fn bF [] []] (.v (.bool b0)) [] [])/\
 nv b0
 (∃l1:List Int,
 (cC E W (.fn ff [] []) [] [.v (.string b)] (.os 0 1) [] [.os 1 BX l1])/\
 ∃b2:Bool,
 (cC E W (.fn aG [] []) [] [.ro bG e.trail,.ro BX l1,.fn bF [] []] (.v (.bool b2)) [] [])/\
 (True)/\
 (True)/\
 b2=r)
 ((True)/\
 (True)/\
 false=r))
set_option maxRecDepth 100000 in
theorem Ed (W:Rec) (e:aP) (a:ByteArray) (b:ByteArray) (r:Bool):sC PP E W iZ (kU PP) dP (lI e a b).env ((lI e a b).fst++((lI e a b).args++(lI e a b).cap)) ((iZ.sig dP).res r) ((iZ.sig dP).out r) ((iZ.sig dP).new r) (eX (iZ.sig dP) r)=xd W e a b r:=by kernel_rfl
set_option maxRecDepth 100000 in
theorem CZ {W:Rec} (w:WK W) (e:aP) (a b:ByteArray) (r:Bool) (h:xd W e a b r):cC E W (.fn dP [] []) [] [cD e,cn a,cn b] (bg r) [] []:=by
 obtain ⟨nk,w1,w2⟩:=w.ok
 exact cU dS w1 (w2 _ (by decide)) (Γ:=iZ) (a:=[]) (b:=[]) (Eq.mpr (Ed W e a b r) h)
def jI (W:Rec) (l:List bR) (s:ByteArray) (r:Bool):Prop:=
 ∃I0:Int->Prop,
 ∃I1:Int->Nat,
 (I0 (0:Int))/\
 ∀x2:Int,
 I0 x2->
 ∀x3:Int,x3=((l.length:Nat):Int)->x3<=9223372036854775807->
 cV (x2 < x3)
 (cV (x2 < (↑s.size:Int))
 (((0:Int)<=x2)/\
 (x2 < (↑l.length:Int))/\
 ∀r4:bR,
 l[x2.toNat]?=some r4->
 ((0:Int)<=x2)/\
 (x2 < (↑s.size:Int))/\
 ∀x5:Int,x5=kP s x2->
 ∃b6:Bool,
 (cC E W (.fn bw [] []) [] [.agg [.v (.int .u64 r4.a),.v (.int .u64 r4.b),.v (.int .u64 r4.c),.v (.int .u64 r4.d)],.v (.int .u8 x5)] (.v (.bool b6)) [] [])/\
 nv (!b6)
 (false=r)
 (∀x7:Int,x7=IntKind.i64.wrap (x2+(1:Int))->
 (I0 x7)/\
 I1 x7 < I1 x2))
 (true=r))
 (true=r)
set_option maxRecDepth 100000 in
theorem ql (W:Rec) (l:List bR) (s:ByteArray) (r:Bool):sC PP E W cA (kU PP) aJ (eI l s).env ((eI l s).fst++((eI l s).args++(eI l s).cap)) ((cA.sig aJ).res r) ((cA.sig aJ).out r) ((cA.sig aJ).new r) (eX (cA.sig aJ) r)=jI W l s r:=by kernel_rfl
set_option maxRecDepth 100000 in
theorem pX {W:Rec} (w:WK W) (l:List bR) (s:ByteArray) (r:Bool) (h:jI W l s r):cC E W (.fn aJ [] []) [] [.ro bG l,cn s] (bg r) [] []:=by
 obtain ⟨nk,w1,w2⟩:=w.ok
 exact cU dS w1 (w2 _ (by decide)) (Γ:=cA) (a:=[]) (b:=[]) (Eq.mpr (ql W l s r) h)
def kZ (W:Rec) (l:List bR) (s:ByteArray) (r:Bool):Prop:=
 ∃I0:Int->Prop,
 ∃I1:Int->Nat,
 (I0 (0:Int))/\
 ∀x2:Int,
 I0 x2->
 ∀x3:Int,x3=((l.length:Nat):Int)->x3<=9223372036854775807->
 cV (x2 < x3)
 (cV (x2 < (↑s.size:Int))
 (((0:Int)<=x2)/\
 (x2 < (↑l.length:Int))/\
 ∀r4:bR,
 l[x2.toNat]?=some r4->
 ∀x5:Int,x5=IntKind.i64.wrap ((↑s.size:Int) - (1:Int))->
 ∀x6:Int,x6=IntKind.i64.wrap (x5 - x2)->
 ((0:Int)<=x6)/\
 (x6 < (↑s.size:Int))/\
 ∀x7:Int,x7=kP s x6->
 ∃b8:Bool,
 (cC E W (.fn bw [] []) [] [.agg [.v (.int .u64 r4.a),.v (.int .u64 r4.b),.v (.int .u64 r4.c),.v (.int .u64 r4.d)],.v (.int .u8 x7)] (.v (.bool b8)) [] [])/\
 nv (!b8)
 (false=r)
 (∀x9:Int,x9=IntKind.i64.wrap (x2+(1:Int))->
 (I0 x9)/\
 I1 x9 < I1 x2))
 (true=r))
 (true=r)
set_option maxRecDepth 100000 in
theorem sG (W:Rec) (l:List bR) (s:ByteArray) (r:Bool):sC PP E W de (kU PP) aO (fm l s).env ((fm l s).fst++((fm l s).args++(fm l s).cap)) ((de.sig aO).res r) ((de.sig aO).out r) ((de.sig aO).new r) (eX (de.sig aO) r)=kZ W l s r:=by kernel_rfl
set_option maxRecDepth 100000 in
theorem su {W:Rec} (w:WK W) (l:List bR) (s:ByteArray) (r:Bool) (h:kZ W l s r):cC E W (.fn aO [] []) [] [.ro bG l,cn s] (bg r) [] []:=by
 obtain ⟨nk,w1,w2⟩:=w.ok
 exact cU dS w1 (w2 _ (by decide)) (Γ:=de) (a:=[]) (b:=[]) (Eq.mpr (sG W l s r) h)
def ld (W:Rec) (a:ByteArray) (b:ByteArray) (r:Bool):Prop:=
 ∃b0:Bool,
 (cC E W (.fn az [] []) [] [.v (.string a),.v (.string b)] (.v (.bool b0)) [] [])/\
 b0=r
set_option maxRecDepth 100000 in
theorem sH (W:Rec) (a:ByteArray) (b:ByteArray) (r:Bool):sC PP E W dg (kU PP) bB (fo a b).env ((fo a b).fst++((fo a b).args++(fo a b).cap)) ((dg.sig bB).res r) ((dg.sig bB).out r) ((dg.sig bB).new r) (eX (dg.sig bB) r)=ld W a b r:=by kernel_rfl
set_option maxRecDepth 100000 in
theorem sn {W:Rec} (w:WK W) (a b:ByteArray) (r:Bool) (h:ld W a b r):cC E W (.fn bB [] []) [] [cn a,cn b] (bg r) [] []:=by
 obtain ⟨nk,w1,w2⟩:=w.ok
 exact cU dS w1 (w2 _ (by decide)) (Γ:=dg) (a:=[]) (b:=[]) (Eq.mpr (sH W a b r) h)
def lf (W:Rec) (a:ByteArray) (b:ByteArray) (r:Bool):Prop:=
 ∃b0:Bool,
 (cC E W (.fn aA [] []) [] [.v (.string a),.v (.string b)] (.v (.bool b0)) [] [])/\
 b0=r
set_option maxRecDepth 100000 in
theorem sI (W:Rec) (a:ByteArray) (b:ByteArray) (r:Bool):sC PP E W dj (kU PP) bC (fq a b).env ((fq a b).fst++((fq a b).args++(fq a b).cap)) ((dj.sig bC).res r) ((dj.sig bC).out r) ((dj.sig bC).new r) (eX (dj.sig bC) r)=lf W a b r:=by kernel_rfl
set_option maxRecDepth 100000 in
theorem sr {W:Rec} (w:WK W) (a b:ByteArray) (r:Bool) (h:lf W a b r):cC E W (.fn bC [] []) [] [cn a,cn b] (bg r) [] []:=by
 obtain ⟨nk,w1,w2⟩:=w.ok
 exact cU dS w1 (w2 _ (by decide)) (Γ:=dj) (a:=[]) (b:=[]) (Eq.mpr (sI W a b r) h)
def fu (_W:Rec) (a:ByteArray) (b:ByteArray) (r:Bool):Prop:=
 cV ((↑b.size:Int)<=(↑a.size:Int))
 (((0:Int)<=(0:Int))/\
 ((0:Int)<=(↑b.size:Int))/\
 ((↑b.size:Int)<=(↑a.size:Int))/\
 cV (a.extract (Int.toNat (0:Int)) (↑b.size:Int).toNat=b)
 (true=r)
 (false=r))
 (false=r)
set_option maxRecDepth 100000 in
theorem jw (W:Rec) (a:ByteArray) (b:ByteArray) (r:Bool):sC PP E W aU (kU PP) az (bN a b).env ((bN a b).fst++((bN a b).args++(bN a b).cap)) ((aU.sig az).res r) ((aU.sig az).out r) ((aU.sig az).new r) (eX (aU.sig az) r)=fu W a b r:=by kernel_rfl
set_option maxRecDepth 100000 in
theorem je {W:Rec} (w:WK W) (a b:ByteArray) (r:Bool) (h:fu W a b r):cC E W (.fn az [] []) [] [cn a,cn b] (bg r) [] []:=by
 obtain ⟨nk,w1,w2⟩:=w.ok
 exact cU dS w1 (w2 _ (by decide)) (Γ:=aU) (a:=[]) (b:=[]) (Eq.mpr (jw W a b r) h)
def fy (_W:Rec) (a:ByteArray) (b:ByteArray) (r:Bool):Prop:=
 cV ((↑b.size:Int)<=(↑a.size:Int))
 (∀x0:Int,x0=IntKind.i64.wrap ((↑a.size:Int) - (↑b.size:Int))->
 ((0:Int)<=x0)/\
 (x0<=(↑a.size:Int))/\
 ((↑a.size:Int)<=(↑a.size:Int))/\
 cV (a.extract x0.toNat (↑a.size:Int).toNat=b)
 (true=r)
 (false=r))
 (false=r)
set_option maxRecDepth 100000 in
theorem jx (W:Rec) (a:ByteArray) (b:ByteArray) (r:Bool):sC PP E W aV (kU PP) aA (bO a b).env ((bO a b).fst++((bO a b).args++(bO a b).cap)) ((aV.sig aA).res r) ((aV.sig aA).out r) ((aV.sig aA).new r) (eX (aV.sig aA) r)=fy W a b r:=by kernel_rfl
set_option maxRecDepth 100000 in
theorem jf {W:Rec} (w:WK W) (a b:ByteArray) (r:Bool) (h:fy W a b r):cC E W (.fn aA [] []) [] [cn a,cn b] (bg r) [] []:=by
 obtain ⟨nk,w1,w2⟩:=w.ok
 exact cU dS w1 (w2 _ (by decide)) (Γ:=aV) (a:=[]) (b:=[]) (Eq.mpr (jx W a b r) h)
def xg (W:Rec) (s:ByteArray) (r:List Int):Prop:=
 xe (s.size) 1
 (∃l0:List Int,
 (cC E W (.fn aL [] []) [.os 1 BX (rowsOf s fun n=>n)] [.os 0 1] (.gD []) [.gP (.os 1 BX l0)] [])/\
 (l0=r)/\
 True)
set_option maxRecDepth 100000 in
theorem Ee (W:Rec) (s:ByteArray) (r:List Int):sC PP E W ja (kU PP) ff (lJ s).env ((lJ s).fst++((lJ s).args++(lJ s).cap)) ((ja.sig ff).res r) ((ja.sig ff).out r) ((ja.sig ff).new r) (eX (ja.sig ff) r)=xg W s r:=by kernel_rfl
set_option maxRecDepth 100000 in
theorem CY {W:Rec} (w:WK W) (s:ByteArray) (r:List Int) (h:xg W s r):cC E W (.fn ff [] []) [] [cn s] (.os 0 1) [] [.os 1 BX r]:=by
 obtain ⟨nk,w1,w2⟩:=w.ok
 exact cU dS w1 (w2 _ (by decide)) (Γ:=ja) (a:=[]) (b:=[]) (Eq.mpr (Ee W s r) h)
def hJ (_W:Rec) (l:List Int) (r:List Int):Prop:=
 ∀x0:Int,x0=((l.length:Nat):Int)->x0<=9223372036854775807->
 ∀x1:Int,x1=IntKind.i64.wrap (x0 - (1:Int))->
 ∃I2:Int->Int->List Int->Prop,
 ∃I3:Int->Int->List Int->Nat,
 (I2 (0:Int) x1 l)/\
 ∀x4:Int,
 ∀x5:Int,
 ∀l6:List Int,
 I2 x4 x5 l6->
 cV (x4 < x5)
 (((0:Int)<=x5)/\
 (x5 < (↑l6.length:Int))/\
 ∀x7:Int,
 l6[x5.toNat]?=some x7->
 ((0:Int)<=x4)/\
 (x4 < (↑l6.length:Int))/\
 ∀x8:Int,
 l6[x4.toNat]?=some x8->
 ((0:Int)<=x4)/\
 (x4 < (↑l6.length:Int))/\
 ∀x9:Int,
 l6[x4.toNat]?=some x9->
 ((0:Int)<=x5)/\
 (x5 < (↑(l6.set x4.toNat x7).length:Int))/\
 ∀x10:Int,
 (l6.set x4.toNat x7)[x5.toNat]?=some x10->
 ∀x11:Int,x11=IntKind.i64.wrap (x4+(1:Int))->
 ∀x12:Int,x12=IntKind.i64.wrap (x5 - (1:Int))->
 (I2 x11 x12 ((l6.set x4.toNat x7).set x5.toNat x8))/\
 I3 x11 x12 ((l6.set x4.toNat x7).set x5.toNat x8) < I3 x4 x5 l6)
 ((l6=r)/\
 True)
set_option maxRecDepth 100000 in
theorem mD (W:Rec) (l:List Int) (r:List Int):sC PP E W bE (kU PP) aL (cS l).env ((cS l).fst++((cS l).args++(cS l).cap)) ((bE.sig aL).res r) ((bE.sig aL).out r) ((bE.sig aL).new r) (eX (bE.sig aL) r)=hJ W l r:=by kernel_rfl
set_option maxRecDepth 100000 in
theorem lY {W:Rec} (w:WK W) (l:List Int) (r:List Int) (h:hJ W l r):cC E W (.fn aL [] []) [.os 1 BX l] [.os 0 1] (.gD []) [.gP (.os 1 BX r)] []:=by
 obtain ⟨nk,w1,w2⟩:=w.ok
 exact cU dS w1 (w2 _ (by decide)) (Γ:=bE) (a:=[]) (b:=[]) (Eq.mpr (mD W l r) h)
def jb (W:Rec) (e:aP) (x:aK) (s:ByteArray) (r:Bool):Prop:=
 ∀x0:Int,x0=((e.lead.length:Nat):Int)->x0<=9223372036854775807->
 cV ((80:Int) < x0)
 (∃b1:Bool,
 (cC E W (.fn aR [] []) [] [] (.v (.bool b1)) [] [])/\
 b1=r)
 (∀x2:Int,x2=((e.trail.length:Nat):Int)->x2<=9223372036854775807->
 cV ((80:Int) < x2)
 (∃b3:Bool,
 (cC E W (.fn aR [] []) [] [] (.v (.bool b3)) [] [])/\
 b3=r)
 (cV ((300:Int) < (↑x.first.size:Int))
 (∃b4:Bool,
 (cC E W (.fn aR [] []) [] [] (.v (.bool b4)) [] [])/\
 b4=r)
 (cV ((300:Int) < (↑x.last.size:Int))
 (∃b5:Bool,
 (cC E W (.fn aR [] []) [] [] (.v (.bool b5)) [] [])/\
 b5=r)
 (cV ((300:Int) < (↑s.size:Int))
 (∃b6:Bool,
 (cC E W (.fn aR [] []) [] [] (.v (.bool b6)) [] [])/\
 b6=r)
 (∃r7:aP,
 (cC E W (.fn fh [] []) [] [.agg [.ro bG e.lead,.ro bG e.trail,.v (.int .i64 e.least),.v (.int .i64 e.most)]] (.agg [.ro bG r7.lead,.ro bG r7.trail,.v (.int .i64 r7.least),.v (.int .i64 r7.most)]) [] [])/\
 ∃r8:(Bool × Int),
 (cC E W (.fn fS [] []) [] [.agg [.ro bG r7.lead,.ro bG r7.trail,.v (.int .i64 r7.least),.v (.int .i64 r7.most)],.v (.string s)] (.gD [.v (.bool r8.fst),.v (.int .i64 r8.snd)]) [] [])/\
 ∃r9:(Bool × Int),
 (cC E W (.fn bJ [] []) [] [.agg [.ro bG e.lead,.ro bG e.trail,.v (.int .i64 e.least),.v (.int .i64 e.most)],.v (.string s)] (.gD [.v (.bool r9.fst),.v (.int .i64 r9.snd)]) [] [])/\
 ∃r10:(Bool × Int),
 (cC E W (.fn dN [] []) [] [.agg [.v (.string x.first),.v (.string x.last),.v (.bool x.exact),.v (.int .i64 x.least),.v (.int .i64 x.most)],.v (.string s)] (.gD [.v (.bool r10.fst),.v (.int .i64 r10.snd)]) [] [])/\
 ∃r11:(Bool × Int),
 (cC E W (.fn bn [] []) [] [.agg [.v (.string x.first),.v (.string x.last),.v (.bool x.exact),.v (.int .i64 x.least),.v (.int .i64 x.most)],.v (.string s)] (.gD [.v (.bool r11.fst),.v (.int .i64 r11.snd)]) [] [])/\
 ∃x12:Int,
 (cC E W (.fn cX [] []) [] [.agg [.v (.string x.first),.v (.string x.last),.v (.bool x.exact),.v (.int .i64 x.least),.v (.int .i64 x.most)]] (.v (.int .i64 x12)) [] [])/\
 ∃x13:Int,
 (cC E W (.fn aQ [] []) [] [.agg [.v (.string x.first),.v (.string x.last),.v (.bool x.exact),.v (.int .i64 x.least),.v (.int .i64 x.most)]] (.v (.int .i64 x13)) [] [])/\
 cV (x12=x13)
 (nv (K0 r8.fst r9.fst)
 ((True)/\
 false=r)
 (cV (r8.snd=r9.snd)
 (nv (K0 r10.fst r11.fst)
 ((True)/\
 false=r)
 (cV (r10.snd=r11.snd)
 ((True)/\
 ∃r14:(Bool × Int),
 (cC E W (.fn fT [] []) [] [.agg [.ro bG r7.lead,.ro bG r7.trail,.v (.int .i64 r7.least),.v (.int .i64 r7.most)],.agg [.v (.string x.first),.v (.string x.last),.v (.bool x.exact),.v (.int .i64 x.least),.v (.int .i64 x.most)]] (.gD [.v (.bool r14.fst),.v (.int .i64 r14.snd)]) [] [])/\
 ∃r15:(Bool × Int),
 (cC E W (.fn bK [] []) [] [.agg [.ro bG e.lead,.ro bG e.trail,.v (.int .i64 e.least),.v (.int .i64 e.most)],.agg [.v (.string x.first),.v (.string x.last),.v (.bool x.exact),.v (.int .i64 x.least),.v (.int .i64 x.most)]] (.gD [.v (.bool r15.fst),.v (.int .i64 r15.snd)]) [] [])/\
 ∃r16:(aK × Int),
 (cC E W (.fn cY [] []) [] [.v (.string s)] (.gD [.agg [.v (.string r16.fst.first),.v (.string r16.fst.last),.v (.bool r16.fst.exact),.v (.int .i64 r16.fst.least),.v (.int .i64 r16.fst.most)],.v (.int .i64 r16.snd)]) [] [])/\
 ∃r17:(aK × Int),
 (cC E W (.fn bf [] []) [] [.v (.string s)] (.gD [.agg [.v (.string r17.fst.first),.v (.string r17.fst.last),.v (.bool r17.fst.exact),.v (.int .i64 r17.fst.least),.v (.int .i64 r17.fst.most)],.v (.int .i64 r17.snd)]) [] [])/\
 nv (Mz r14.fst r15.fst)
 (cV (r14.snd=r15.snd)
 (cV ((([.string r16.fst.first,.string r16.fst.last,.bool r16.fst.exact,.int .i64 r16.fst.least,.int .i64 r16.fst.most]:List Value)=[.string r17.fst.first,.string r17.fst.last,.bool r17.fst.exact,.int .i64 r17.fst.least,.int .i64 r17.fst.most]))
 (cV (r16.snd=r17.snd)
 (∃b18:Bool,
 (cC E W (.fn bp [] []) [] [.agg [.ro bG r7.lead,.ro bG r7.trail,.v (.int .i64 r7.least),.v (.int .i64 r7.most)],.agg [.ro bG e.lead,.ro bG e.trail,.v (.int .i64 e.least),.v (.int .i64 e.most)]] (.v (.bool b18)) [] [])/\
 nv b18
 (∃b19:Bool,
 (cC E W (.fn aR [] []) [] [] (.v (.bool b19)) [] [])/\
 b19=r)
 (false=r))
 (false=r))
 (false=r))
 (false=r))
 (false=r))
 ((True)/\
 false=r)))
 ((True)/\
 false=r)))
 ((True)/\
 false=r))))))
set_option maxRecDepth 100000 in
theorem od (W:Rec) (e:aP) (x:aK) (s:ByteArray) (r:Bool):sC PP E W bT (kU PP) aT (dO e x s).env ((dO e x s).fst++((dO e x s).args++(dO e x s).cap)) ((bT.sig aT).res r) ((bT.sig aT).out r) ((bT.sig aT).new r) (eX (bT.sig aT) r)=jb W e x s r:=by kernel_rfl
set_option maxRecDepth 100000 in
theorem nJ {W:Rec} (w:WK W) (e:aP) (x:aK) (s:ByteArray) (r:Bool) (h:jb W e x s r):cC E W (.fn aT [] []) [] [cD e,dZ x,cn s] (bg r) [] []:=by
 obtain ⟨nk,w1,w2⟩:=w.ok
 exact cU dS w1 (w2 _ (by decide)) (Γ:=bT) (a:=[]) (b:=[]) (Eq.mpr (od W e x s r) h)
end Go.Proofs.YtcajalekkffcjaaDoor
namespace Go.Proofs.YtcajalekkffcjaaDoor
open Go Go.Ev
theorem uc {W:Rec} (w:WK W) (a:aP):cC E W (.fn dM [] []) [] [cD a] (eL (kz a)) [] []:=by
 have key:¬(a.least < 0\/(a.most≠-1/\a.most < a.least))->
   ∀x0:Int,x0=((a.lead.length:Nat):Int)->x0<=9223372036854775807->∀x1:Int,x1=((a.trail.length:Nat):Int)->x1<=9223372036854775807->
   ∃I2:Int->Prop,∃I3:Int->Nat,(I2 (0:Int))/\∀x4:Int,I2 x4->cV (x4 < (2:Int))
    (((0:Int)<=x4)/\(x4 < (↑(2:Nat):Int))/\∀x5:Int,x5=[x0,x1].getD x4.toNat (0:Int)->
      cV ((64:Int) < x5) ((4:Int)=kz a) (cV (a.least < x5) ((4:Int)=kz a) (∀x6:Int,x6=Go.IntKind.i64.wrap (x4+(1:Int))->(I2 x6)/\I3 x6 < I3 x4)))
    ((0:Int)=kz a):=by
  intro hok x0 e0 _ x1 e1 _
  subst e0 e1
  refine ⟨fun i=>(i=0)\/(i=1/\¬64 < (a.lead.length:Int)/\¬a.least < (a.lead.length:Int))\/(i=2/\(¬64 < (a.lead.length:Int)/\¬a.least < (a.lead.length:Int))/\¬64 < (a.trail.length:Int)/\¬a.least < (a.trail.length:Int)),fun i=>(2 - i).toNat,.inl rfl,?_⟩
  rintro i (rfl |⟨rfl,h1⟩ |⟨rfl,h1,h2⟩)
  ·refine ⟨fun _=>⟨by decide,by decide,fun x5 e5=>?_⟩,fun h=>absurd (by decide) h⟩
   have e5:x5=(a.lead.length:Int):=e5
   subst e5
   refine ⟨fun h=>CP hok (.inl h),fun h64=>⟨fun h=>CP hok (.inr (.inl h)),fun hl x6 e6=>?_⟩⟩
   subst e6
   exact ⟨.inr (.inl ⟨rfl,h64,hl⟩),by decide⟩
  ·refine ⟨fun _=>⟨by decide,by decide,fun x5 e5=>?_⟩,fun h=>absurd (by decide) h⟩
   have e5:x5=(a.trail.length:Int):=e5
   subst e5
   refine ⟨fun h=>CP hok (.inr (.inr (.inl h))),fun h64=>⟨fun h=>CP hok (.inr (.inr (.inr h))),fun hl x6 e6=>?_⟩⟩
   subst e6
   exact ⟨.inr (.inr ⟨rfl,h1,h64,hl⟩),by decide⟩
  ·exact ⟨fun h=>absurd h (by decide),fun _=>NA hok (by omega)⟩
 exact BV w a _ ⟨fun h=>G7 (.inl h),fun h=>⟨fun hm=>key (by omega),fun hm=>⟨fun h2=>G7 (.inr ⟨hm,h2⟩),fun h2=>key (by omega)⟩⟩⟩
theorem kA {W:Rec} (w:WK W) (a:aP):cC E W (.fn bh [] []) [] [cD a] (eL (kz a)) [] []:=by
 have key:¬(a.least < 0\/(a.most≠-1/\a.most < a.least))->∀x0:Int,x0=((a.lead.length:Nat):Int)->x0<=9223372036854775807->
   cV ((64:Int) < x0) ((4:Int)=kz a) (∀x1:Int,x1=((a.trail.length:Nat):Int)->x1<=9223372036854775807->cV ((64:Int) < x1) ((4:Int)=kz a)
    (∀x2:Int,x2=((a.lead.length:Nat):Int)->x2<=9223372036854775807->cV (a.least < x2) ((4:Int)=kz a)
     (∀x3:Int,x3=((a.trail.length:Nat):Int)->x3<=9223372036854775807->cV (a.least < x3) ((4:Int)=kz a) ((0:Int)=kz a)))):=by
  intro hok x0 e0 _
  subst e0
  refine ⟨fun h=>CP hok (.inl h),fun n1 x1 e1 _=>?_⟩
  subst e1
  refine ⟨fun h=>CP hok (.inr (.inr (.inl h))),fun n2 x2 e2 _=>?_⟩
  subst e2
  refine ⟨fun h=>CP hok (.inr (.inl h)),fun n3 x3 e3 _=>?_⟩
  subst e3
  exact ⟨fun h=>CP hok (.inr (.inr (.inr h))),fun n4=>NA hok (by omega)⟩
 exact qm w a _ ⟨fun h=>G7 (.inl h),fun h=>⟨fun hm=>G7 (by omega),fun hm=>⟨fun h0=>⟨fun h2=>G7 (by omega),fun h2=>key (by omega)⟩,fun h0=>key (by omega)⟩⟩⟩
theorem jB {W:Rec} (w:WK W) (a b:Int × Int):cC E W (.fn aN [] []) [] [pM a,pM b] (bg (meets a b)) [] []:=by
 refine pU w a b _ ?_
 unfold meets
 refine ⟨fun h1=>⟨fun h2=>?_,fun h2=>⟨fun h3=>?_,fun h3=>?_⟩⟩,fun h1=>⟨fun h2=>⟨fun h3=>?_,fun h3=>⟨fun h4=>?_,fun h4=>?_⟩⟩,fun h2=>?_⟩⟩<;>simp_all
 intro h;omega
theorem nF {W:Rec} (w:WK W) (a:aP):cC E W (.fn bD [] []) [] [cD a] (pM (a.least,a.most)) [] []:=vo w a _ ⟨rfl,rfl⟩
theorem rZ {W:Rec} (w:WK W) (a:Int × Int) (n:Int):cC E W (.fn bA [] []) [] [pM a,eL n] (bg (meets a (n,n))) [] []:=sd w a n _ ⟨_,jB w a (n,n),rfl⟩
theorem oy {W:Rec} (w:WK W) (x:aK):cC E W (.fn cX [] []) [] [dZ x] (eL (snd x)) [] []:=by
 refine BW w x _ ⟨fun h=>G8 (.inl h),fun h1=>⟨fun h=>G8 (.inr h),fun h2=>?_⟩⟩
 have h12:¬(96 < (x.first.size:Int)\/96 < (x.last.size:Int)):=by omega
 refine eg (fun he=>?_) fun he=>?_
 ·refine ⟨fun e1=>⟨fun e2=>⟨fun e3=>eg (fun h=>absurd h (by rw [he];decide)) fun _=>?_,fun e3=>?_⟩,fun e2=>?_⟩,fun e1=>?_⟩
  ·exact NB h12 he e1 e2 e3
  ·exact EK h12 he (.inr (.inr e3))
  ·exact EK h12 he (.inr (.inl e2))
  ·exact EK h12 he (.inl e1)
 ·refine eg (fun _ x1 e1=>?_) fun h=>absurd h (by rw [he];decide)
  rw [CQ h1 h2] at e1
  subst e1
  exact ⟨fun h=>CR h12 he (.inl h),fun n1=>⟨fun h=>CR h12 he (.inr (.inl h)),fun n2=>⟨fun h=>L9 h12 he n1 n2 h,fun h=>CR h12 he (.inr (.inr h))⟩⟩⟩
theorem gS {W:Rec} (w:WK W) (x:aK):cC E W (.fn aQ [] []) [] [dZ x] (eL (snd x)) [] []:=by
 refine qn w x _ ⟨fun h=>G8 (.inl h),fun h1=>⟨fun h=>G8 (.inr h),fun h2=>?_⟩⟩
 have h12:¬(96 < (x.first.size:Int)\/96 < (x.last.size:Int)):=by omega
 refine eg (fun he=>?_) fun he=>?_
 ·have he:x.exact=false:=by simpa using he
  intro x1 e1
  rw [CQ h1 h2] at e1
  subst e1
  exact ⟨fun h=>CR h12 he (.inl h),fun n1=>⟨fun h=>CR h12 he (.inr (.inl h)),fun n2=>⟨fun h=>eg (fun h=>absurd h (by rw [he];decide)) fun _=>L9 h12 he n1 n2 h,fun h=>CR h12 he (.inr (.inr h))⟩⟩⟩
 ·have he:x.exact=true:=by simpa using he
  refine eg (fun _=>⟨fun e1=>⟨fun e2=>⟨fun e3=>?_,fun e3=>?_⟩,fun e2=>?_⟩,fun e1=>?_⟩) fun h=>absurd h (by rw [he];decide)
  ·exact NB h12 he e1 e2 e3
  ·exact EK h12 he (.inr (.inr e3))
  ·exact EK h12 he (.inr (.inl e2))
  ·exact EK h12 he (.inl e1)
theorem yj {W:Rec} (w:WK W) (s:ByteArray):cC E W (.fn cY [] []) [] [cn s] (vp (KZ s)) [] []:=by
 refine yl w s _ ?_
 unfold KZ
 refine ⟨fun h=>?_,fun h=>?_⟩
 ·rw [if_pos h];exact ⟨⟨rfl,rfl,rfl,rfl,rfl⟩,rfl⟩
 ·rw [if_neg h];exact ⟨⟨rfl,rfl,rfl,rfl,rfl⟩,rfl⟩
theorem oz {W:Rec} (w:WK W) (s:ByteArray):cC E W (.fn bf [] []) [] [cn s] (vp (KZ s)) [] []:=by
 refine oA w s _ ?_
 unfold KZ
 refine ⟨fun h=>?_,fun h=>?_⟩
 ·rw [if_pos h];exact ⟨⟨rfl,rfl,rfl,rfl,rfl⟩,rfl⟩
 ·rw [if_neg h];exact ⟨⟨rfl,rfl,rfl,rfl,rfl⟩,rfl⟩
theorem nG {W:Rec} (w:WK W) (a b:ByteArray):cC E W (.fn az [] []) [] [cn a,cn b] (bg (CS a b)) [] []:=by
 refine je w a b _ ?_
 unfold CS
 refine ⟨fun h=>⟨by decide,by omega,h,fun e=>?_,fun e=>?_⟩,fun h=>?_⟩
 ·have h':b.size<=a.size:=by omega
  have e':a.extract 0 b.size=b:=e
  simp [h',e']
 ·have e':¬a.extract 0 b.size=b:=e
  simp [e']
 ·have h':¬b.size<=a.size:=by omega
  simp [h']
theorem si {W:Rec} (w:WK W) (a b:ByteArray):cC E W (.fn bB [] []) [] [cn a,cn b] (bg (CS a b)) [] []:=sn w a b _ ⟨_,nG w a b,rfl⟩
theorem nH {W:Rec} (w:WK W) (a b:ByteArray) (ha:a.size<=300):cC E W (.fn aA [] []) [] [cn a,cn b] (bg (CT a b)) [] []:=by
 refine jf w a b _ ?_
 unfold CT
 refine ⟨fun h x0 e0=>?_,fun h=>?_⟩
 ·rw [CU h ha] at e0
  subst e0
  refine ⟨by omega,by omega,by omega,fun e=>?_,fun e=>?_⟩
  ·have h':b.size<=a.size:=by omega
   have e':a.extract (a.size - b.size) a.size=b:=e
   simp [h',e']
  ·have e':¬a.extract (a.size - b.size) a.size=b:=e
   simp [e']
 ·have h':¬b.size<=a.size:=by omega
  simp [h']
theorem sq {W:Rec} (w:WK W) (a b:ByteArray) (ha:a.size<=300):cC E W (.fn bC [] []) [] [cn a,cn b] (bg (CT a b)) [] []:=sr w a b _ ⟨_,nH w a b ha,rfl⟩
theorem Aq {W:Rec} (w:WK W) (x:aK) (s:ByteArray) (hsz:s.size<=300):cC E W (.fn dN [] []) [] [dZ x,cn s] (iR (j7 x s)) [] []:=by
 refine Ar w x s _ ⟨_,oy w x,fun h0=>?_,fun h0=>?_⟩
 ·have e:j7 x s=if x.exact=true then (decide (s=x.first),0) else (decide (x.least<=(s.size:Int)) && (CS s x.first && CT s x.last),0):=by
   unfold j7;rw [if_neg fun h=>h h0]
  rw [e]
  refine eg (fun he=>?_) fun he=>?_
  ·rw [if_pos he]
   exact ⟨fun h=>⟨by simp [h],rfl⟩,fun h=>⟨by simp [h],rfl⟩⟩
  ·rw [if_neg (by rw [he];decide)]
   refine ⟨fun h=>⟨_,si w _ _,eg (fun b1=>⟨_,sq w _ _ hsz,⟨by simp [h,b1],rfl⟩⟩) fun b1=>⟨by simp [b1],rfl⟩⟩,fun h=>⟨?_,rfl⟩⟩
   have:¬x.least<=(s.size:Int):=h
   simp [this]
 ·have e:j7 x s=(false,snd x):=by unfold j7;rw [if_pos h0]
  rw [e];exact ⟨rfl,rfl⟩
theorem pV {W:Rec} (w:WK W) (x:aK) (s:ByteArray) (hsz:s.size<=300):cC E W (.fn bn [] []) [] [dZ x,cn s] (iR (j7 x s)) [] []:=by
 refine pW w x s _ ⟨_,gS w x,fun h0=>?_,fun h0=>?_⟩
 ·have e:j7 x s=if x.exact=true then (decide (s=x.first),0) else (decide (x.least<=(s.size:Int)) && (CS s x.first && CT s x.last),0):=by
   unfold j7;rw [if_neg fun h=>h h0]
  rw [e]
  refine eg (fun he=>?_) fun he=>?_
  ·rw [if_pos he]
   exact ⟨fun h=>⟨by simp [h],rfl⟩,fun h=>⟨by simp [h],rfl⟩⟩
  ·rw [if_neg (by rw [he];decide)]
   have hle:=G9 h0 he
   refine ⟨fun h=>?_,fun h=>⟨?_,rfl⟩⟩
   ·have h1:x.first.size<=s.size:=by omega
    have h2:x.last.size<=s.size:=by omega
    refine ⟨by decide,by omega,by omega,fun e1=>?_,fun e1=>?_⟩
    ·have e1':s.extract 0 x.first.size=x.first:=e1
     intro x1 ex
     rw [CU (by omega) hsz] at ex
     subst ex
     refine ⟨by omega,by omega,by omega,fun e2=>⟨?_,rfl⟩,fun e2=>⟨?_,rfl⟩⟩
     ·have e2':s.extract (s.size - x.last.size) s.size=x.last:=e2
      simp [CS,CT,h,h1,h2,e1',e2']
     ·have e2':¬s.extract (s.size - x.last.size) s.size=x.last:=e2
      simp [CT,e2']
    ·have e1':¬s.extract 0 x.first.size=x.first:=e1
     exact ⟨by simp [CS,e1'],rfl⟩
   ·have:¬x.least<=(s.size:Int):=h
    simp [this]
 ·have e:j7 x s=(false,snd x):=by unfold j7;rw [if_pos h0]
  rw [e];exact ⟨rfl,rfl⟩
theorem gC {W:Rec} (w:WK W) (l:List bR) (s:ByteArray):cC E W (.fn aJ [] []) [] [.ro bG l,cn s] (bg (IP l (iC s))) [] []:=by
 refine pX w l s _ ⟨fun i=>0<=i/\i<=(l.length:Int)/\((l.zip (iC s)).take i.toNat).all (fun p=>hasB p.1 p.2)=true,fun i=>((l.length:Int) - i).toNat,⟨by decide,by omega,rfl⟩,?_⟩
 rintro i ⟨h0,h1,h2⟩ x3 e3 m3
 subst e3
 have hl:=oB s
 refine ⟨fun hlt=>⟨fun hs=>⟨h0,hlt,fun r4 hr=>⟨h0,hs,fun x7 e7=>?_⟩⟩,fun hs=>(CV h2 (by omega)).symm⟩,fun hge=>(CV h2 (by omega)).symm⟩
 subst e7
 have hb:=AY s i
 have hz:=EL h2 hr (ym h0 hs)
 refine ⟨_,lW w r4 _ hb.1 hb.2,eg (fun hb=>?_) fun hb=>?_⟩
 ·exact (Mx (hz.trans (by simpa using hb))).symm
 ·intro x9 e9
  rw [ry h0 hlt m3] at e9
  subst e9
  have e:(i+1).toNat=i.toNat+1:=by omega
  exact ⟨⟨by omega,by omega,by rw [e];exact hz.trans (by simpa using hb)⟩,by dsimp only;omega⟩
theorem iD {W:Rec} (w:WK W) (l:List bR) (s:ByteArray) (hsz:s.size<=300):cC E W (.fn aO [] []) [] [.ro bG l,cn s] (bg (IP l (iC s).reverse)) [] []:=by
 refine su w l s _ ⟨fun i=>0<=i/\i<=(l.length:Int)/\((l.zip (iC s).reverse).take i.toNat).all (fun p=>hasB p.1 p.2)=true,fun i=>((l.length:Int) - i).toNat,⟨by decide,by omega,rfl⟩,?_⟩
 rintro i ⟨h0,h1,h2⟩ x3 e3 m3
 subst e3
 have hl:(iC s).reverse.length=s.size:=by rw [List.length_reverse];exact oB s
 refine ⟨fun hlt=>⟨fun hs=>⟨h0,hlt,fun r4 hr x5 e5 x6 e6=>?_⟩,fun hs=>(CV h2 (by omega)).symm⟩,fun hge=>(CV h2 (by omega)).symm⟩
 rw [wrap64 (by omega) (by omega)] at e5
 subst e5
 rw [wrap64 (by omega) (by omega)] at e6
 subst e6
 refine ⟨by omega,by omega,fun x7 e7=>?_⟩
 subst e7
 have hb:=AY s ((s.size:Int) - 1 - i)
 have hg:(iC s).reverse[i.toNat]?=some (kP s ((s.size:Int) - 1 - i)):=by
  rw [List.getElem?_reverse (by rw [oB];omega),oB,← ym (i:=(s.size:Int) - 1 - i) (by omega) (by omega)]
  congr 1
  omega
 have hz:=EL h2 hr hg
 refine ⟨_,lW w r4 _ hb.1 hb.2,eg (fun hb=>?_) fun hb=>?_⟩
 ·exact (Mx (hz.trans (by simpa using hb))).symm
 ·intro x9 e9
  rw [ry h0 hlt m3] at e9
  subst e9
  have e:(i+1).toNat=i.toNat+1:=by omega
  exact ⟨⟨by omega,by omega,by rw [e];exact hz.trans (by simpa using hb)⟩,by dsimp only;omega⟩
theorem lX {W:Rec} (w:WK W) (a:List bR) (b:List Int) (hb:∀x∈b,0<=x/\x < 256):cC E W (.fn aG [] []) [] [.ro bG a,.ro BX b,.fn bF [] []] (bg (IP a b)) [] []:=by
 refine mL w a b _ fun x0 e0 m0 x1 e1 m1 x2 e2=>?_
 subst e0 e1
 have hmin:x2<=(a.length:Int)/\x2<=(b.length:Int)/\(x2=a.length\/x2=b.length):=by
  subst e2
  unfold My
  split<;>omega
 refine ⟨fun i=>0<=i/\i<=x2/\((a.zip b).take i.toNat).all (fun p=>hasB p.1 p.2)=true,fun i=>(x2 - i).toNat,⟨by decide,by omega,rfl⟩,fun i ⟨h0,h1,h2⟩=>⟨fun hlt=>⟨h0,by omega,fun x hx=>⟨h0,by omega,fun y hy=>?_⟩⟩,fun hge=>?_⟩⟩
 ·have hyb:=hb y (List.mem_of_getElem? hy)
  refine ⟨hasB x y,Ao w x y hyb.1 hyb.2,?_⟩
  have hs:=EL h2 hx hy
  have e:(i+1).toNat=i.toNat+1:=by omega
  refine eg (fun hb=>?_) fun hb x9 e9=>?_
  ·exact (Mx (hs.trans (by simpa using hb))).symm
  ·rw [ry h0 hlt (by omega)] at e9
   subst e9
   exact ⟨⟨by omega,by omega,by rw [e];exact hs.trans (by simpa using hb)⟩,by dsimp only;omega⟩
 ·exact (CV h2 (by omega)).symm
theorem vq {W:Rec} (w:WK W) (l:List Int):cC E W (.fn aL [] []) [.os 1 BX l] [.os 0 1] (.gD []) [.gP (.os 1 BX l.reverse)] []:=by
 refine lY w l _ fun x0 e0 m0 x1 e1=>?_
 subst e0
 rw [wrap64 (by omega) (by omega)] at e1
 subst e1
 refine ⟨fun i j m=>0<=i/\2 * i<=(l.length:Int)/\j=(l.length:Int) - 1 - i/\BY l i.toNat m,fun i _ _=>((l.length:Int) - i).toNat,⟨by decide,by omega,by omega,BY.start l⟩,?_⟩
 rintro i j m ⟨h0,h1,rfl,h3⟩
 have hm:=h3.1
 refine ⟨fun hlt=>⟨by omega,by omega,fun x7 e7=>⟨h0,by omega,fun x8 e8=>⟨h0,by omega,fun x9 e9=>⟨by omega,by rw [List.length_set];omega,fun x10 e10 x11 e11 x12 e12=>?_⟩⟩⟩⟩,fun hge=>⟨h3.done (by omega),trivial⟩⟩
 rw [wrap64 (by omega) (by omega)] at e11 e12
 subst e11 e12
 have e:(i+1).toNat=i.toNat+1:=by omega
 have ej:((l.length:Int) - 1 - i).toNat=l.length - 1 - i.toNat:=by omega
 rw [ej] at e7 ⊢
 exact ⟨⟨by omega,by omega,by omega,by rw [e];exact h3.step (by omega) e7 e8⟩,by dsimp only;omega⟩
theorem CW {W:Rec} (w:WK W) (s:ByteArray) (hsz:s.size<=300):cC E W (.fn ff [] []) [] [cn s] (.os 0 1) [] [.os 1 BX (iC s).reverse]:=
 CY w s _ ⟨Nat.le_trans (by omega:s.size * 1<=300) (by decide),Nat.le_trans hsz (by decide),_,vq w (iC s),rfl,trivial⟩
theorem wB {W:Rec} (w:WK W) (e:aP) (a b:ByteArray) (ha:a.size<=300) (hb:b.size<=300):cC E W (.fn dP [] []) [] [cD e,cn a,cn b] (bg (yo e a b)) [] []:=by
 refine CZ w e a b _ ⟨Nat.le_trans (by omega:a.size * 1<=300) (by decide),Nat.le_trans ha (by decide),_,lX w e.lead (iC a) (AZ a),eg (fun b1=>⟨_,CW w b hb,_,lX w e.trail _ (fun x hx=>AZ b x (List.mem_reverse.1 hx)),?_⟩) fun b1=>?_⟩
 ·unfold yo;exact ⟨trivial,trivial,by simp [b1]⟩
 ·unfold yo;exact ⟨trivial,trivial,by simp [b1]⟩
theorem EM {W:Rec} (w:WK W) (e:aP) (s:ByteArray) (hsz:s.size<=300):cC E W (.fn fS [] []) [] [cD e,cn s] (iR (As e s)) [] []:=by
 refine EN w e s _ ⟨_,uc w e,fun h0=>?_,fun h0=>?_⟩
 ·have e1:As e s=(meets (e.least,e.most) ((s.size:Int),(s.size:Int)) && yo e s s,0):=by unfold As;rw [if_neg fun h=>h h0]
  rw [e1]
  exact ⟨_,nF w e,_,rZ w _ _,eg (fun b1=>⟨_,wB w e s s hsz hsz,by simp [b1],rfl⟩) fun b1=>⟨by simp [b1],rfl⟩⟩
 ·have e1:As e s=(false,kz e):=by unfold As;rw [if_pos h0]
  rw [e1];exact ⟨rfl,rfl⟩
theorem sU {W:Rec} (w:WK W) (e:aP) (s:ByteArray) (hsz:s.size<=300):cC E W (.fn bJ [] []) [] [cD e,cn s] (iR (As e s)) [] []:=by
 refine sV w e s _ ⟨_,kA w e,fun h0=>?_,fun h0=>?_⟩
 ·have e1:As e s=(meets (e.least,e.most) ((s.size:Int),(s.size:Int)) && yo e s s,0):=by unfold As;rw [if_neg fun h=>h h0]
  rw [e1,He h0]
  unfold yo
  refine ⟨fun c1=>⟨fun c2=>⟨_,gC w _ _,eg (fun b1=>⟨_,iD w _ _ hsz,by simp [c1,c2,b1],rfl⟩) fun b1=>⟨by simp [b1],rfl⟩⟩,
   fun c2=>⟨fun c3=>⟨_,gC w _ _,eg (fun b1=>⟨_,iD w _ _ hsz,by simp [c1,c3,b1],rfl⟩) fun b1=>⟨by simp [b1],rfl⟩⟩,fun c3=>⟨?_,rfl⟩⟩⟩,fun c1=>⟨?_,rfl⟩⟩
  ·have d2:decide (e.most < 0)=false:=decide_eq_false c2
   have d3:decide ((s.size:Int)<=e.most)=false:=decide_eq_false c3
   rw [d2,d3];simp
  ·have d1:decide (e.least<=(s.size:Int))=false:=decide_eq_false c1
   rw [d1];simp
 ·have e1:As e s=(false,kz e):=by unfold As;rw [if_pos h0]
  rw [e1];exact ⟨rfl,rfl⟩
theorem EO {W:Rec} (w:WK W) (e:aP) (x:aK) (h1:x.first.size<=300) (h2:x.last.size<=300):cC E W (.fn fT [] []) [] [cD e,dZ x] (iR (ud e x)) [] []:=by
 refine EP w e x _ ⟨_,uc w e,fun h0=>⟨_,oy w x,fun s0=>?_,fun s0=>?_⟩,fun h0=>⟨fun h=>absurd h h0,fun _=>?_⟩⟩
 ·have e1:ud e x=(meets (e.least,e.most) (x.least,x.most) && yo e x.first x.last,0):=by unfold ud;rw [if_neg fun h=>h h0,if_neg fun h=>h s0]
  rw [e1]
  exact ⟨_,nF w e,_,jB w _ (x.least,x.most),eg (fun b1=>⟨_,wB w e x.first x.last h1 h2,trivial,trivial,by simp [b1],rfl⟩) fun b1=>⟨trivial,trivial,by simp [b1],rfl⟩⟩
 ·have e1:ud e x=(false,snd x):=by unfold ud;rw [if_neg fun h=>h h0,if_pos s0]
  rw [e1];exact ⟨rfl,rfl⟩
 ·have e1:ud e x=(false,kz e):=by unfold ud;rw [if_pos h0]
  rw [e1];exact ⟨rfl,rfl⟩
theorem sW {W:Rec} (w:WK W) (e:aP) (x:aK) (h2:x.last.size<=300):cC E W (.fn bK [] []) [] [cD e,dZ x] (iR (ud e x)) [] []:=by
 refine sX w e x _ ⟨_,kA w e,fun h0=>⟨_,gS w x,fun s0=>?_,fun s0=>?_⟩,fun h0=>⟨fun h=>absurd h h0,fun _=>?_⟩⟩
 ·have e1:ud e x=(((decide (e.most < 0) || decide (x.least<=e.most)) && (decide (x.most < 0) || decide (e.least<=x.most))) && yo e x.first x.last,0):=by
   unfold ud;rw [if_neg fun h=>h h0,if_neg fun h=>h s0,IQ (C0 h0) (IS s0)]
  rw [e1]
  unfold yo
  refine ⟨_,gC w _ _,eg (fun b1=>⟨_,iD w _ _ h2,eg (fun b2=>?_) fun b2=>?_⟩) fun b1=>?_⟩
  ·refine ⟨fun c1=>⟨fun c2=>?_,fun c2=>⟨fun c3=>?_,fun c3=>?_⟩⟩,fun c1=>⟨fun c2=>⟨fun c3=>?_,fun c3=>⟨fun c4=>?_,fun c4=>?_⟩⟩,fun c2=>?_⟩⟩<;>refine ⟨?_,rfl⟩<;>simp_all
   intro h;omega
  ·exact ⟨by simp [b2],rfl⟩
  ·exact ⟨by simp [b1],rfl⟩
 ·have e1:ud e x=(false,snd x):=by unfold ud;rw [if_neg fun h=>h h0,if_pos s0]
  rw [e1];exact ⟨rfl,rfl⟩
 ·have e1:ud e x=(false,kz e):=by unfold ud;rw [if_pos h0]
  rw [e1];exact ⟨rfl,rfl⟩
theorem jC {W:Rec} (w:WK W) (a b:List bR):cC E W (.fn aW [] []) [] [.ro bG a,.ro bG b] (bg (yp a b)) [] []:=by
 refine pY w a b _ fun x0 e0 m0 x1 e1 m1=>?_
 subst e0 e1
 refine ⟨fun hl=>?_,fun hl=>?_⟩
 ·refine ⟨fun i=>0<=i/\i<=(a.length:Int)/\a.take i.toNat=b.take i.toNat,fun i=>((a.length:Int) - i).toNat,⟨by decide,by omega,rfl⟩,?_⟩
  rintro i ⟨h0,h1,h2⟩ x5 e5 m5
  subst e5
  refine ⟨fun hlt=>⟨h0,hlt,fun x hx=>⟨h0,by omega,fun y hy=>⟨fun hxy x8 e8=>?_,fun hxy=>?_⟩⟩⟩,fun hge=>?_⟩
  ·rw [A0.1 hxy] at hx
   rw [ry h0 hlt m5] at e8
   subst e8
   have e:(i+1).toNat=i.toNat+1:=by omega
   exact ⟨⟨by omega,by omega,by rw [e];exact Hf h2 hx hy⟩,by dsimp only;omega⟩
  ·have:a≠b:=fun h=>hxy (A0.2 (by rw [h,hy] at hx;exact (Option.some.inj hx).symm))
   unfold yp
   rw [decide_eq_false this]
  ·have ha:a.take i.toNat=a:=List.take_of_length_le (by omega)
   have hb:b.take i.toNat=b:=List.take_of_length_le (by omega)
   rw [ha,hb] at h2
   unfold yp
   rw [decide_eq_true h2]
 ·have:a≠b:=fun h=>hl (by rw [h])
  unfold yp
  rw [decide_eq_false this]
theorem pZ {W:Rec} (w:WK W) (a b:aP):cC E W (.fn bp [] []) [] [cD a,cD b] (bg (F8 a b)) [] []:=by
 refine p4 w a b _ ⟨_,jC w _ _,eg (fun b1=>⟨_,jC w _ _,eg (fun b2=>⟨fun b3=>⟨fun b4=>?_,fun b4=>?_⟩,fun b3=>?_⟩) fun b2=>?_⟩) fun b1=>?_⟩<;>simp_all [F8]
end Go.Proofs.YtcajalekkffcjaaDoor
namespace Go.Proofs.YtcajalekkffcjaaDoor
open Go Go.Ev
theorem Hg (a:Bool):Mz a a=true:=by cases a<;>rfl
theorem A1 (a:Bool):K0 a a=false:=by cases a<;>rfl
theorem nI {W:Rec} (w:WK W) (haw:cC E W (.fn aR [] []) [] [] (bg true) [] []) (hown:∀e:aP,e.lead.length<=80->e.trail.length<=80->cC E W (.fn fh [] []) [] [cD e] (cD e) [] [])
  (e:aP) (x:aK) (s:ByteArray):cC E W (.fn aT [] []) [] [cD e,dZ x,cn s] (bg true) [] []:=by
 have aw:∃b1:Bool,(cC E W (.fn aR [] []) [] [] (.v (.bool b1)) [] [])/\b1=true:=⟨true,haw,rfl⟩
 refine nJ w e x s true fun x0 e0 _=>⟨fun _=>aw,fun n0 x2 e2 _=>⟨fun _=>aw,fun n2=>⟨fun _=>aw,fun n4=>⟨fun _=>aw,fun n5=>⟨fun _=>aw,fun n6=>?_⟩⟩⟩⟩⟩
 subst e0 e2
 refine ⟨e,hown e (by omega) (by omega),_,EM w e s (by omega),_,sU w e s (by omega),_,Aq w x s (by omega),_,pV w x s (by omega),_,oy w x,_,gS w x,fun _=>?_,fun h=>absurd rfl h⟩
 rw [A1,A1]
 refine eg (fun h=>absurd h (by decide)) fun _=>⟨fun _=>eg (fun h=>absurd h (by decide)) fun _=>⟨fun _=>?_,fun h=>absurd rfl h⟩,fun h=>absurd rfl h⟩
 refine ⟨trivial,_,EO w e x (by omega) (by omega),_,sW w e x (by omega),_,yj w s,_,oz w s,?_⟩
 rw [Hg]
 refine eg (fun _=>⟨fun _=>⟨fun _=>⟨fun _=>⟨_,pZ w e e,?_⟩,fun h=>absurd rfl h⟩,fun h=>absurd rfl h⟩,fun h=>absurd rfl h⟩) fun h=>absurd h (by decide)
 rw [ER]
 exact eg (fun _=>aw) fun h=>absurd h (by decide)
end Go.Proofs.YtcajalekkffcjaaDoor
