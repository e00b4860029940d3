/- The evaluator over a small code, and that what it finds of a call holds of the machine, part 18e. -/
import Derived.Test.YtcajalekkffcjaaDoorEv18d
namespace Go.Ev
open Go
structure TS where
 n:Nat
 t:Trie Value
noncomputable def Pm (o:Option Value):Value:=Option.casesOn o undef (fun v=>v)
noncomputable def TS.get (k:Nat) (s:TS):Value:=Pm (s.t.p5 (path k k))
noncomputable def TS.put (v:Value) (k:Nat) (s:TS):TS:=TS.casesOn s (fun n t=>Bool.casesOn (Nat.blt k n) ⟨n,t⟩ ⟨n,t.mM v (path k k)⟩)
theorem TS.Jg {v:Value} {k:Nat} {s:TS} (h:Nat.blt k s.n=true):s.put v k=⟨s.n,s.t.mM v (path k k)⟩:=by
 obtain ⟨n,t⟩:=s
 simp only [] at h
 simp only [TS.put,h]
theorem TS.NJ {v:Value} {k:Nat} {s:TS} (h:Nat.blt k s.n=false):s.put v k=s:=by
 obtain ⟨n,t⟩:=s
 simp only [] at h
 simp only [TS.put,h]
def Sl (s:TS) (ts:List Value):Prop:=s.n=ts.length/\∀k,s.get k=ts.getD k undef
theorem TS.Gu {v:Value} {k j:Nat} {s:TS} (h:k < s.n):(s.put v k).get j=if j=k then v else s.get j:=by
 have hb:Nat.blt k s.n=true:=by simpa [Nat.blt_eq] using h
 have e:s.put v k=⟨s.n,s.t.mM v (path k k)⟩:=TS.Jg hb
 rw [e]
 unfold TS.get
 simp only [Trie.ir,Trie.jj]
 by_cases hj:j=k
 ·subst hj
  rw [Trie.an,if_pos rfl];rfl
 ·rw [if_neg hj,Trie.ah _ _ _ _ (fun e=>hj (yQ _ _ e).symm)]
theorem Sl.put {s:TS} {ts:List Value} (h:Sl s ts) (k:Nat) (v:Value):Sl (s.put v k) (ts.set k v):=by
 by_cases hk:k < s.n
 ·have hb:Nat.blt k s.n=true:=by simpa [Nat.blt_eq] using hk
  refine ⟨?_,fun j=>?_⟩
  ·have e:s.put v k=⟨s.n,s.t.mM v (path k k)⟩:=TS.Jg hb
   rw [e,List.length_set];exact h.1
  ·rw [TS.Gu hk,h.2 j]
   have hk':k < ts.length:=by rw [← h.1];exact hk
   simp only [List.getD_eq_getElem?_getD,List.getElem?_set]
   by_cases hj:j=k
   ·subst hj;simp [hk']
   ·rw [if_neg hj,if_neg (fun e=>hj e.symm)]
 ·have hb:Nat.blt k s.n=false:=by
   cases hh:Nat.blt k s.n with
   |false=>rfl
   |true=>exact absurd (by simpa [Nat.blt_eq] using hh) hk
  have e:s.put v k=s:=TS.NJ hb
  rw [e,List.set_eq_of_length_le (by rw [← h.1];omega)]
  exact h
structure NK where
 run:TS->Value
noncomputable def NL (x:Operand):NK:=Operand.casesOn x (fun t=>⟨fun s=>s.get t⟩) (fun v=>⟨fun _=>v⟩) (fun g=>⟨fun _=>.pointer (some ⟨g,0,none⟩)⟩) (fun f=>⟨fun _=>.func (.func f) #[] #[]⟩)
noncomputable def xI (s:TS) (x:Operand):Value:=(NL x).run s
theorem Ce {s:TS} {ts:List Value} (h:Sl s ts):xI s=aj ts:=by
 funext x
 cases x with
 |tmp t=>exact h.2 t
 |_=>rfl
noncomputable def Cf (dst:Option Tmp) (v:Value) (s:TS):TS:=Option.casesOn dst s (fun d=>s.put v d)
theorem Sl.Cf {s:TS} {ts:List Value} (h:Sl s ts) (dst:Option Tmp) (v:Value):Sl (Cf dst v s) (dB dst v ts):=by
 cases dst with
 |none=>exact h
 |some d=>exact h.put d v
noncomputable def Hy (l:List Value):Nat->TS->TS:=List.rec (fun _ s=>s) (fun v _ ih k s=>ih (k+1) (s.put v k)) l
theorem Dz:∀(l:List Value) (k:Nat) (s:TS),k+l.length<=s.n->(Hy l k s).n=s.n/\∀j,(Hy l k s).get j=if k<=j/\j < k+l.length then l.getD (j - k) undef else s.get j
 | [],k,s,_=>⟨rfl,fun j=>by
     show s.get j=_
     rw [if_neg (by simp only [List.length_nil];omega)]⟩
 |v :: l,k,s,h=>by
  simp only [List.length_cons] at h
  have hk:k < s.n:=by omega
  have hb:Nat.blt k s.n=true:=by simpa [Nat.blt_eq] using hk
  have en:(s.put v k).n=s.n:=by rw [TS.Jg hb]
  have ih:=Dz l (k+1) (s.put v k) (by rw [en];omega)
  refine ⟨ih.1.trans en,fun j=>?_⟩
  show (Hy l (k+1) (s.put v k)).get j=_
  rw [ih.2 j,TS.Gu hk]
  by_cases hj:j=k
  ·subst hj
   rw [if_neg (by omega),if_pos rfl,if_pos ⟨Nat.le_refl _,by simp⟩,Nat.sub_self]
   rfl
  ·by_cases hj2:k+1<=j/\j < k+1+l.length
   ·rw [if_pos hj2,if_pos (by simp;omega)]
    obtain ⟨i,rfl⟩:∃i,j=k+1+i:=⟨j - (k+1),by omega⟩
    rw [show k+1+i - (k+1)=i by omega,show k+1+i - k=i+1 by omega]
    simp
   ·rw [if_neg hj2,if_neg hj,if_neg (by simp;omega)]
noncomputable def yR (n:Nat):TS:=⟨n,.leaf⟩
theorem E6 (n k:Nat):(yR n).get k=undef:=by
 unfold TS.get yR
 simp only [Trie.ir,Trie.qG];rfl
noncomputable def OD (l:List Value) (n:Nat):TS:=Hy l 0 (yR n)
theorem Jh (l:List Value) (m:Nat):Sl (OD l (l.length+m)) (l++List.replicate m undef):=by
 have h:=Dz l 0 (yR (l.length+m)) (by show 0+l.length<=l.length+m;omega)
 refine ⟨by show (Hy l 0 _).n=_;rw [h.1];simp [yR],fun k=>?_⟩
 show (Hy l 0 _).get k=_
 rw [h.2 k,E6,Nat.sub_zero]
 simp only [List.getD_eq_getElem?_getD]
 by_cases hk:k < l.length
 ·rw [if_pos (by omega),List.getElem?_append_left hk]
 ·rw [if_neg (by omega),List.getElem?_append_right (by omega)]
  by_cases hk2:k - l.length < m
  ·simp [hk2]
  ·rw [List.getElem?_eq_none (by simp;omega)];rfl
noncomputable def OE (s:TS):List Value:=Nat.rec (fun _=>[]) (fun _ ih k=>s.get k :: ih (k+1)) s.n 0
theorem MF {s:TS} {ts:List Value} (h:Sl s ts):OE s=ts:=by
 have key:∀(n k:Nat),(Nat.rec (motive:=fun _=>Nat->List Value) (fun _=>[]) (fun _ ih k=>s.get k :: ih (k+1)) n k:List Value)=(List.range' k n).map (fun k=>s.get k):=by
  intro n
  induction n with
  |zero=>intro k;rfl
  |succ n ih=>intro k;rw [List.range'_succ,List.map_cons,← ih]
 unfold OE
 rw [key,h.1]
 apply List.ext_getElem?
 intro i
 rw [List.getElem?_map]
 by_cases hi:i < ts.length
 ·rw [List.getElem?_range' (by omega)]
  simp [h.2,hi]
 ·rw [List.getElem?_eq_none (by simp;omega),List.getElem?_eq_none (by omega)];rfl
structure bu where
 tmps:TS
 defers:List fF
 rc:RC
 round:Bool
structure Ra (a:bu) (b:aD):Prop where
 tmps:Sl a.tmps b.tmps
 defers:a.defers=b.defers
 rc:a.rc=b.rc
 round:a.round=b.round
noncomputable def bu.put (a:bu) (dst:Option Tmp) (v:Value):bu:=bu.casesOn a (fun t d r o=>⟨Cf dst v t,d,r,o⟩)
theorem Ra.put {a:bu} {b:aD} (h:Ra a b) (dst:Option Tmp) (v:Value):Ra (a.put dst v) (b.put dst v):=⟨h.tmps.Cf dst v,h.defers,h.rc,h.round⟩
structure fD where
 call:Value->List Value->RC->H->Option (fR × RC × H)
 loop:AC->bu->H->Option (aM × bu × H)
inductive Ro:Option (aM × bu × H)->Option (aM × aD × H)->Prop where
 |none:Ro none none
 |some (x:aM) (a:bu) (b:aD) (h:H) (r:Ra a b):Ro (some (x,a,h)) (some (x,b,h))
structure Rr (r:fD) (s:Rec):Prop where
 call:r.call=s.call
 loop:∀c a b h,Ra a b->Ro (r.loop c a h) (s.loop c b h)
inductive uA where
 |on (a:bu) (h:H)
 |panic (v:Value) (a:bu) (h:H)
inductive Rs:Option uA->Option Step->Prop where
 |none:Rs none none
 |on (a:bu) (b:aD) (h:H) (r:Ra a b):Rs (some (.on a h)) (some (.on b h))
 |panic (v:Value) (a:bu) (b:aD) (h:H) (r:Ra a b):Rs (some (.panic v a h)) (some (.panic v b h))
structure Ji where
 run:fD->bu->H->Option uA
noncomputable def yb (r:Option (fR × RC × H)) (dst:Option Tmp) (a:bu):Option uA:=
 match r with
 |some (.ret v,_,h')=>some (.on (a.put dst v) h')
 |some (.panic v,_,h')=>some (.panic v a h')
 |none=>none
noncomputable def DA (r:Option (Value × H)) (dst:Option Tmp) (a:bu):Option uA:=
 match r with
 |some (v,h')=>some (.on (a.put dst v) h')
 |none=>none
noncomputable def yS (f:Operand) (args:List Operand) (dst:Option Tmp) (a:bu) (h:H):Option uA:=
 match a.round,xI a.tmps f with
 |false,.func (.func g) x y=>some (.on (bu.put ⟨a.tmps,.call (.func (.func g) x y) (args.map (xI a.tmps)) :: a.defers,a.rc,a.round⟩ dst undef) h)
 |_,_=>none
noncomputable def s9 (dst:Option Tmp) (a:bu) (h:H):Option uA:=
 match a.rc with
 | .calm=>some (.on (a.put dst .nilIface) h)
 | .eY v=>some (.on (bu.put ⟨a.tmps,a.defers,.done v,a.round⟩ dst v) h)
 |_=>none
noncomputable def yT (x:Operand) (a:bu) (h:H):Option uA:=
 match xI a.tmps x with
 | .iface t v=>some (.panic (.iface t v) a h)
 |_=>none
noncomputable def DB (P:Program) (dst:Option Tmp) (op:j8):Ji:=
 match op with
 | .call f args=>⟨fun rec a h=>yb (rec.call (xI a.tmps f) (args.map (xI a.tmps)) .dF h) dst a⟩
 | .dA f args=>⟨fun rec a h=>yb (rec.call (xI a.tmps f) (args.map (xI a.tmps)) .dF h) dst a⟩
 | .defer f args=>⟨fun _ a h=>yS f args dst a h⟩
 | .recover=>⟨fun _ a h=>s9 dst a h⟩
 | .panic x=>⟨fun _ a h=>yT x a h⟩
 |op=>⟨fun _ a h=>DA ((K7 P op).run (xI a.tmps) h) dst a⟩
theorem DC {r:Option (Value × H)} {dst:Option Tmp} {a:bu} {b:aD} (ha:Ra a b):
  Rs (DA r dst a) (match r with |some (v,h')=>some (.on (b.put dst v) h') |none=>none):=by
 cases r with
 |none=>exact .none
 |some x=>exact .on _ _ _ (ha.put _ _)
theorem DD {P:Program} {r:fD} {s:Rec} (hr:Rr r s) {dst:Option Tmp} {op:j8} {a:bu} {b:aD} {h:H} (ha:Ra a b):
  Rs ((DB P dst op).run r a h) (cG P s {dst,guard:=none,op} b h):=by
 have he:=Ce ha.tmps
 cases op with
 |call f args=>
  show Rs (yb (r.call (xI a.tmps f) (args.map (xI a.tmps)) .dF h) dst a) _
  rw [he,hr.call]
  simp only [cG,aq,if_true]
  cases s.call (aj b.tmps f) (args.map (aj b.tmps)) .dF h with
  |none=>exact .none
  |some x=>
   obtain ⟨res,rc,h'⟩:=x
   cases res with
   |ret v=>exact .on _ _ _ (ha.put _ _)
   |panic v=>exact .panic _ _ _ _ ha
 |dA f args=>
  show Rs (yb (r.call (xI a.tmps f) (args.map (xI a.tmps)) .dF h) dst a) _
  rw [he,hr.call]
  simp only [cG,aq,if_true]
  cases s.call (aj b.tmps f) (args.map (aj b.tmps)) .dF h with
  |none=>exact .none
  |some x=>
   obtain ⟨res,rc,h'⟩:=x
   cases res with
   |ret v=>exact .on _ _ _ (ha.put _ _)
   |panic v=>exact .panic _ _ _ _ ha
 |defer f args=>
  show Rs (yS f args dst a h) _
  simp only [cG,aq,if_true,yS,he,ha.round]
  cases b.round with
  |true=>exact .none
  |false=>
   cases aj b.tmps f with
   |func fn x y=>
    cases fn with
    |func g=>
     refine .on _ _ _ ?_
     apply Ra.put
     exact ⟨ha.tmps,by simp only [ha.defers],ha.rc,rfl⟩
    |_=>exact .none
   |_=>exact .none
 |recover=>
  show Rs (s9 dst a h) _
  simp only [cG,aq,if_true,s9,ha.rc]
  cases b.rc with
  |calm=>exact .on _ _ _ (ha.put _ _)
  |eY v=>
   refine .on _ _ _ ?_
   apply Ra.put
   exact ⟨ha.tmps,ha.defers,rfl,ha.round⟩
  |dF=>exact .none
  |done v=>exact .none
 |panic x=>
  show Rs (yT x a h) _
  simp only [cG,aq,if_true,yT,he]
  cases aj b.tmps x with
  |iface t v=>exact .panic _ _ _ _ ha
  |_=>exact .none
 |_=>
  simp only [DB,he,Gs,cG,aq,if_true]
  exact DC ha
noncomputable def K8 (c:Bool) (o:Ji) (dst:Option Tmp) (rec:fD) (a:bu) (h:H):Option uA:=
 match c with
 |true=>o.run rec a h
 |false=>some (.on (a.put dst undef) h)
noncomputable def Cg (P:Program) (o:AO):Ji:=
 match o with
 |⟨dst,none,op⟩=>DB P dst op
 |⟨dst,some (t,b),op⟩=>⟨fun rec a h=>K8 (Md (a.tmps.get t) b) (DB P dst op) dst rec a h⟩
theorem Hz {P:Program} {r:fD} {s:Rec} (hr:Rr r s) {o:AO} {a:bu} {b:aD} {h:H} (ha:Ra a b):
  Rs ((Cg P o).run r a h) (cG P s o b h):=by
 obtain ⟨dst,g,op⟩:=o
 cases g with
 |none=>exact DD hr ha
 |some x=>
  obtain ⟨t,c⟩:=x
  show Rs (K8 (Md (a.tmps.get t) c) (DB P dst op) dst r a h) _
  rw [ha.tmps.2 t,← uw,← qF]
  have h1:=DD (P:=P) hr (dst:=dst) (op:=op) (h:=h) ha
  unfold cG at h1 ⊢
  simp only [aq,if_true] at h1
  cases hw:aq (some (t,c)) b.tmps with
  |true=>simp only [K8,if_true];exact h1
  |false=>simp only [K8,Bool.false_eq_true,if_false];exact .on _ _ _ (ha.put _ _)
structure yU where
 run:fD->bu->H->Option (aM × bu × H)
noncomputable def Jj (s:Option uA) (r:yU) (rec:fD):Option (aM × bu × H):=
 match s with
 |some (.on a' h')=>r.run rec a' h'
 |some (.panic v a' h')=>some (.panic v,a',h')
 |none=>none
noncomputable def Ci (P:Program) (l:List AO):yU:=List.rec ⟨fun _ a h=>some (.normal,a,h)⟩ (fun o _ ih=>⟨fun rec a h=>Jj ((Cg P o).run rec a h) ih rec⟩) l
theorem yV {P:Program} {r:fD} {s:Rec} (hr:Rr r s):∀{l:List AO} {a:bu} {b:aD} {h:H},Ra a b->Ro ((Ci P l).run r a h) (eW P s l b h)
 | [],_,_,_,ha=>.some _ _ _ _ ha
 |o :: l,a,b,h,ha=>by
  show Ro (Jj ((Cg P o).run r a h) (Ci P l) r) _
  have h1:=Hz (P:=P) hr (o:=o) (h:=h) ha
  simp only [eW,Jj]
  generalize (Cg P o).run r a h=x at h1
  generalize cG P s o b h=y at h1
  cases h1 with
  |none=>exact .none
  |on a' b' h' r'=>exact yV hr r'
  |panic v a' b' h' r'=>exact .some _ _ _ _ r'
noncomputable def Jk (P:Program) (s:Rec):List AO->List Value->H->Option (List Value × H)
 | [],ts,h=>some (ts,h)
 |o :: r,ts,h=>match iE P s o ts h with
  |some (v,h')=>Jk P s r (dB o.dst v ts) h'
  |none=>none
theorem yW {P:Program} {s:Rec}:∀{l:List AO} {ts:List Value} {h:H},
  (match trace P s l ts h with |some G=>G[l.length]? |none=>none)=Jk P s l ts h
 | [],ts,h=>rfl
 |o :: r,ts,h=>by
  simp only [trace,Jk]
  cases iE P s o ts h with
  |none=>rfl
  |some x=>
   obtain ⟨v,h'⟩:=x
   have ih:=@yW P s r (dB o.dst v ts) h'
   simp only []
   rw [← ih]
   cases trace P s r (dB o.dst v ts) h' with
   |none=>rfl
   |some G=>simp
structure Jl where
 run:fD->TS->H->Option (Value × H)
noncomputable def yX (P:Program) (op:j8):Jl:=
 match op with
 | .call f args=>⟨fun rec ts h=>Gt (rec.call (xI ts f) (args.map (xI ts)) .dF h)⟩
 | .dA f args=>⟨fun rec ts h=>Gt (rec.call (xI ts f) (args.map (xI ts)) .dF h)⟩
 |op=>⟨fun _ ts h=>(K7 P op).run (xI ts) h⟩
noncomputable def Ok (c:Bool) (o:Jl) (rec:fD) (ts:TS) (h:H):Option (Value × H):=
 match c with
 |true=>o.run rec ts h
 |false=>some (undef,h)
noncomputable def yY (P:Program) (o:AO):Jl:=
 match o with
 |⟨_,none,op⟩=>yX P op
 |⟨_,some (t,b),op⟩=>⟨fun rec ts h=>Ok (Md (ts.get t) b) (yX P op) rec ts h⟩
theorem Bj {P:Program} {r:fD} {s:Rec} (hr:Rr r s) {dst:Option Tmp} {op:j8} {t:TS} {ts:List Value} {h:H} (ht:Sl t ts):(yX P op).run r t h=iE P s {dst,guard:=none,op} ts h:=by
 have he:=Ce ht
 cases op with
 |call f args=>
  show Gt (r.call (xI t f) (args.map (xI t)) .dF h)=_
  rw [he,hr.call];rfl
 |dA f args=>
  show Gt (r.call (xI t f) (args.map (xI t)) .dF h)=_
  rw [he,hr.call];rfl
 |_=>
  simp only [yX,he,Gs,iE,aq,if_true]
theorem Bk {P:Program} {r:fD} {s:Rec} (hr:Rr r s) {o:AO} {t:TS} {ts:List Value} {h:H} (ht:Sl t ts):(yY P o).run r t h=iE P s o ts h:=by
 obtain ⟨dst,g,op⟩:=o
 cases g with
 |none=>exact Bj hr ht
 |some x=>
  obtain ⟨k,c⟩:=x
  show Ok (Md (t.get k) c) (yX P op) r t h=_
  rw [ht.2 k,← uw,← qF]
  have h1:=Bj (P:=P) hr (dst:=dst) (op:=op) (h:=h) ht
  unfold iE at h1 ⊢
  simp only [aq,if_true] at h1
  cases hw:aq (some (k,c)) ts with
  |true=>simp only [Ok,if_true];exact h1
  |false=>simp only [Ok,Bool.false_eq_true,if_false]
structure NM where
 run:fD->TS->H->Option (TS × H)
noncomputable def dK (x:Option (Value × H)) (dst:Option Tmp) (k:NM) (rec:fD) (ts:TS):Option (TS × H):=
 match x with
 |some (v,h')=>k.run rec (Cf dst v ts) h'
 |none=>none
noncomputable def Jm (P:Program) (l:List AO):NM:=List.rec ⟨fun _ ts h=>some (ts,h)⟩ (fun o _ ih=>⟨fun rec ts h=>dK ((yY P o).run rec ts h) o.dst ih rec ts⟩) l
inductive Rd:Option (TS × H)->Option (List Value × H)->Prop where
 |none:Rd none none
 |some (t:TS) (ts:List Value) (h:H) (r:Sl t ts):Rd (some (t,h)) (some (ts,h))
theorem Gw {P:Program} {r:fD} {s:Rec} (hr:Rr r s):∀{l:List AO} {t:TS} {ts:List Value} {h:H},Sl t ts->Rd ((Jm P l).run r t h) (Jk P s l ts h)
 | [],_,_,_,ht=>.some _ _ _ ht
 |o :: l,t,ts,h,ht=>by
  show Rd (dK ((yY P o).run r t h) o.dst (Jm P l) r t) _
  rw [Bk hr ht]
  simp only [Jk,dK]
  cases iE P s o ts h with
  |none=>exact .none
  |some x=>exact Gw hr (ht.Cf _ _)
noncomputable def MG (a:bu):aD:=⟨OE a.tmps,a.defers,a.rc,a.round⟩
theorem E7 {a:bu} {b:aD} (h:Ra a b):MG a=b:=by
 obtain ⟨ts,ds,rc,ro⟩:=b
 simp only [MG,MF h.tmps,h.defers,h.rc,h.round]
noncomputable def OF (b:aD):bu:=⟨OD b.tmps (b.tmps.length+0),b.defers,b.rc,b.round⟩
theorem Jn (b:aD):Ra (OF b) b:=⟨by
 have h:=Jh b.tmps 0
 rw [List.replicate_zero,List.append_nil] at h
 exact h,rfl,rfl,rfl⟩
noncomputable def Ns (r:Option (aM × aD × H)):Option (aM × bu × H):=
 match r with
 |some (x,b,h)=>some (x,OF b,h)
 |none=>none
theorem E8 (r:Option (aM × aD × H)):Ro (Ns r) r:=by
 cases r with
 |none=>exact .none
 |some x=>exact .some _ _ _ _ (Jn _)
noncomputable def fD.flat (r:fD):Rec:=⟨r.call,fun _ _ _=>none⟩
noncomputable def OG (x:Option (TS × H)) (a:bu):Option (aM × bu × H):=
 match x with
 |some (ts,h')=>some (.normal,bu.casesOn a (fun _ d r o=>⟨ts,d,r,o⟩),h')
 |none=>none
inductive RG:List (TS × H)->List (List Value × H)->Prop where
 |nil:RG [] []
 |cons (t:TS) (ts:List Value) (h:H) (G:List (TS × H)) (K:List (List Value × H)) (r:Sl t ts) (g:RG G K):RG ((t,h) :: G) ((ts,h) :: K)
inductive Ol:Option (List (TS × H))->Option (List (List Value × H))->Prop where
 |none:Ol none none
 |some (G:List (TS × H)) (K:List (List Value × H)) (g:RG G K):Ol (some G) (some K)
theorem RG.get {G:List (TS × H)} {K:List (List Value × H)} (h:RG G K):∀i:Nat,Rd G[i]? K[i]?:=by
 induction h with
 |nil=>intro i;exact .none
 |cons t ts h G K r g ih=>
  intro i
  cases i with
  |zero=>exact .some _ _ _ r
  |succ i=>simpa using ih i
structure Me where
 run:fD->TS->H->Option (List (TS × H))
noncomputable def NN (x:TS × H) (o:Option (List (TS × H))):Option (List (TS × H)):=Option.casesOn o none (fun G=>some (x :: G))
noncomputable def MH (r:Option (Value × H)) (dst:Option Tmp) (k:Me) (rec:fD) (ts:TS) (h:H):Option (List (TS × H)):=
 match r with
 |some (v,h')=>NN (ts,h) (k.run rec (Cf dst v ts) h')
 |none=>none
noncomputable def vF (P:Program) (l:List AO):Me:=List.rec ⟨fun _ ts h=>some [(ts,h)]⟩ (fun o _ ih=>⟨fun rec ts h=>MH ((yY P o).run rec ts h) o.dst ih rec ts h⟩) l
theorem Bl {P:Program} {r:fD} {s:Rec} (hr:Rr r s):∀{l:List AO} {t:TS} {ts:List Value} {h:H},Sl t ts->Ol ((vF P l).run r t h) (trace P s l ts h)
 | [],_,_,_,ht=>.some _ _ (.cons _ _ _ _ _ ht .nil)
 |o :: l,t,ts,h,ht=>by
  show Ol (MH ((yY P o).run r t h) o.dst (vF P l) r t h) _
  rw [Bk hr ht]
  simp only [trace,MH]
  cases iE P s o ts h with
  |none=>exact .none
  |some x=>
   obtain ⟨v,h'⟩:=x
   have ih:=Bl (P:=P) hr (l:=l) (h:=h') (ht.Cf o.dst v)
   simp only []
   generalize (vF P l).run r (Cf o.dst v t) h'=y at ih
   generalize trace P s l (dB o.dst v ts) h'=z at ih
   cases ih with
   |none=>exact .none
   |some G K g=>exact .some _ _ (.cons _ _ _ _ _ ht g)
noncomputable def tc (h h':H) (p:Addr) (n:Nat):Bool:=
 match h.s8 p n,h'.s8 p n with
 |some x,some y=>Az x y
 |_,_=>false
noncomputable def Gx (g:Option (Tmp × Bool)) (t:TS):Bool:=
 match g with
 |none=>true
 |some (k,b)=>Md (t.get k) b
theorem E9 {g:Option (Tmp × Bool)} {t:TS} {ts:List Value} (ht:Sl t ts):Gx g t=aq g ts:=by
 cases g with
 |none=>rfl
 |some x=>
  obtain ⟨k,b⟩:=x
  show Md (t.get k) b=_
  rw [qF,ht.2 k,uw]
noncomputable def Gy (o:AO) (ts:TS) (h h':H):Bool:=
 match Gx o.guard ts with
 |false=>true
 |true=>match o.op with
  | .load _ n x=>(match xI ts x with | .pointer (some p)=>tc h h' p n |_=>false)
  |_=>false
noncomputable def yc (ops:List AO) (G:List (TS × H)) (c:Nat × Nat):Bool:=
 match ops[c.1]?,G[c.1]?,G[c.2]? with
 |some o,some (ts,h),some (_,h')=>Gy o ts h h'
 |_,_,_=>false
theorem Fa {ops:List AO} {G:List (TS × H)} {K:List (List Value × H)} (hg:RG G K) (c:Nat × Nat):yc ops G c=gG ops K c:=by
 unfold yc gG
 have h1:=hg.get c.1
 have h2:=hg.get c.2
 generalize G[c.1]?=x at h1
 generalize K[c.1]?=y at h1
 generalize G[c.2]?=u at h2
 generalize K[c.2]?=v at h2
 cases ops[c.1]? with
 |none=>rfl
 |some o=>
  cases h1 with
  |none=>rfl
  |some t ts h r=>
   cases h2 with
   |none=>rfl
   |some t' ts' h' r'=>
    have hsc:∀p n,tc h h' p n=c8 h h' p n:=fun p n=>by unfold tc c8;rw [nU,nU];rfl
    simp only [Gy,E9 r,Ce r,hsc]
    cases aq o.guard ts with
    |true=>rfl
    |false=>rfl
noncomputable def K9 (P:Program) (rec:fD) (ops:List AO) (cuts:oD) (a:bu) (h:H):Option (aM × bu × H):=Ns (dV P rec.flat ops (MG a) h cuts)
noncomputable def Jo (P:Program) (rec:fD) (r:Option (List (TS × H))) (ops:List AO) (aC:List (Nat × Nat)) (cuts:oD) (a:bu) (h:H):Option (aM × bu × H):=
 match r with
 |some G=>(match aC.all (yc ops G) with
  |true=>OG G[ops.length]? a
  |false=>none)
 |none=>K9 P rec ops cuts a h
noncomputable def Pa (P:Program) (rec:fD) (x:Option (TS × H)) (ops:List AO) (cuts:oD) (a:bu) (h:H):Option (aM × bu × H):=
 match x with
 |some y=>OG (some y) a
 |none=>K9 P rec ops cuts a h
noncomputable def Mf (P:Program) (ops:List AO) (aC:List (Nat × Nat)) (cuts:oD):yU:=
 match aC with
 | []=>⟨fun rec a h=>Pa P rec ((Jm P ops).run rec a.tmps h) ops cuts a h⟩
 |c :: r=>⟨fun rec a h=>Jo P rec ((vF P ops).run rec a.tmps h) ops (c :: r) cuts a h⟩
theorem HA {P:Program} {r:fD} {s:Rec} (hr:Rr r s) (o:AO) (a:aD) (h:H):cG P r.flat o a h=cG P s o a h:=by
 have:r.flat.call=s.call:=hr.call
 unfold cG
 rw [this]
theorem wV {P:Program} {r:fD} {s:Rec} (hr:Rr r s):∀{l:List AO} {ts:List Value} {h:H},trace P r.flat l ts h=trace P s l ts h
 | [],_,_=>rfl
 |o :: l,ts,h=>by
  have e:iE P r.flat o ts h=iE P s o ts h:=by
   have:r.flat.call=s.call:=hr.call
   unfold iE
   rw [this]
  simp only [trace,e]
  cases iE P s o ts h with
  |none=>rfl
  |some x=>simp only [wV hr (l:=l)]
theorem yZ {P:Program} {r:fD} {s:Rec} (hr:Rr r s) (ops:List AO) (a:aD) (h:H):∀cuts,dV P r.flat ops a h cuts=dV P s ops a h cuts
 | []=>rfl
 |c :: cs=>by simp only [dV,wV hr,HA hr,yZ hr ops a h cs]
theorem Gz {P:Program} {r:fD} {s:Rec} (hr:Rr r s) {ops:List AO} {cuts:oD} {a:bu} {b:aD} {h:H} (ha:Ra a b):Ro (K9 P r ops cuts a h) (dV P s ops b h cuts):=by
 unfold K9
 rw [E7 ha,yZ hr]
 exact E8 _
theorem Jp {a:bu} {b:aD} (ha:Ra a b) {x:Option (TS × H)} {y:Option (List Value × H)}:
  Rd x y->Ro (OG x a) (match y with |some (ts,h')=>some (.normal,{b with tmps:=ts},h') |none=>none):=by
 intro h
 cases h with
 |none=>exact .none
 |some t ts h' rr=>exact .some _ _ _ _ ⟨rr,ha.defers,ha.rc,ha.round⟩
theorem Jq {P:Program} {r:fD} {s:Rec} (hr:Rr r s) {ops:List AO} {aC:List (Nat × Nat)} {cuts:oD} {a:bu} {b:aD} {h:H} (ha:Ra a b):
  Ro ((Mf P ops aC cuts).run r a h) (fM P s ops aC cuts b h):=by
 cases aC with
 |nil=>
  show Ro (Pa P r ((Jm P ops).run r a.tmps h) ops cuts a h) _
  have h1:=Gw (P:=P) hr (l:=ops) (h:=h) ha.tmps
  rw [← yW] at h1
  simp only [fM,List.all_nil,if_true]
  generalize (Jm P ops).run r a.tmps h=x at h1
  cases htr:trace P s ops b.tmps h with
  |none=>rw [htr] at h1;cases h1;exact Gz hr ha
  |some G=>
   rw [htr] at h1
   obtain ⟨vs,_,hgl,_,_⟩:=cZ ops b.tmps h G htr
   obtain ⟨y,hy⟩:∃y,G[ops.length]?=some y:=⟨G[ops.length],List.getElem?_eq_getElem (by omega)⟩
   simp only [hy] at h1 ⊢
   cases h1 with
   |some t ts h' rr=>exact Jp ha (.some t ts h' rr)
 |cons c l=>
  show Ro (Jo P r ((vF P ops).run r a.tmps h) ops (c :: l) cuts a h) _
  have h1:=Bl (P:=P) hr (l:=ops) (h:=h) ha.tmps
  simp only [fM]
  generalize (vF P ops).run r a.tmps h=x at h1
  generalize trace P s ops b.tmps h=y at h1
  cases h1 with
  |none=>exact Gz hr ha
  |some G K g=>
   have e:(c :: l).all (yc ops G)=(c :: l).all (gG ops K):=by
    congr 1
    funext d
    exact Fa g d
   simp only [Jo,e]
   cases (c :: l).all (gG ops K) with
   |true=>exact Jp ha (g.get ops.length)
   |false=>exact .none
theorem Jr {P:Program} {r:fD} {s:Rec} (hr:Rr r s) (o:AO) (ts:List Value) (h:H):iE P r.flat o ts h=iE P s o ts h:=by
 have:r.flat.call=s.call:=hr.call
 unfold iE
 rw [this]
theorem wW {P:Program} {r:fD} {s:Rec} (hr:Rr r s) {b:List Nat} {base:Nat}:∀{l:List AO} {i:Nat} {t:LS},dz P r.flat b base l i t=dz P s b base l i t
 | [],_,_=>rfl
 |o :: l,i,t=>by
  have e:gq P r.flat b base i o t=gq P s b base i o t:=by
   unfold gq
   rw [Jr hr]
  simp only [dz,e]
  cases gq P s b base i o t with
  |none=>rfl
  |some x=>simp only [wW hr (l:=l)]
theorem DE {P:Program} {r:fD} {s:Rec} (hr:Rr r s) (b:List Nat) (ops:List AO) (aC:List (Nat × Nat)) (a:aD) (h:H):fN P r.flat b ops aC a h=fN P s b ops aC a h:=by
 unfold fN
 rw [wW hr]
noncomputable def Mg (r:Option (aM × bu × H)) (y:yU) (rec:fD):Option (aM × bu × H):=
 match r with
 |some (.normal,a',h')=>y.run rec a' h'
 |r=>r
noncomputable def Js (v:Value) (x y:yU) (rec:fD) (a:bu) (h:H):Option (aM × bu × H):=
 match v with
 | .bool true=>x.run rec a h
 | .bool false=>y.run rec a h
 |_=>none
noncomputable def Cj (id:Nat) (r:Option (aM × bu × H)):Option (aM × bu × H):=
 match r with
 |some (.exit id',a',h')=>if id'=id then some (.normal,a',h') else some (.exit id',a',h')
 |r=>r
noncomputable def Jt (c:AC) (r:Option (aM × bu × H)) (rec:fD):Option (aM × bu × H):=
 match r with
 |some (.normal,a',h')=>rec.loop c a' h'
 |r=>r
noncomputable def kF (P:Program) (c:AC):yU:=
 AC.rec (motive:=fun _=>yU)
  ⟨fun _ a h=>some (.normal,a,h)⟩
  (fun ops=>Ci P ops)
  (fun ops aC cuts=>Mf P ops aC cuts)
  (fun b ops aC=>⟨fun rec a h=>Ns (fN P rec.flat b ops aC (MG a) h)⟩)
  (fun _ _ x y=>⟨fun rec a h=>Mg (x.run rec a h) y rec⟩)
  (fun c _ _ x y=>⟨fun rec a h=>Js (xI a.tmps c) x y rec a h⟩)
  (fun id _ x=>⟨fun rec a h=>Cj id (x.run rec a h)⟩)
  (fun c x=>⟨fun rec a h=>Jt c (x.run rec a h) rec⟩)
  (fun f ps as bd _ _=>⟨fun rec a h=>Ns (cT P rec.flat (.rangeFunc f ps as bd) (MG a) h)⟩)
  (fun id=>⟨fun _ a h=>some (.exit id,a,h)⟩)
  ⟨fun _ a h=>some (.ret,a,h)⟩
  ⟨fun _ _ _=>none⟩ c
theorem uB {P:Program} {r:fD} {s:Rec} (hr:Rr r s) (c:AC):∀{a:bu} {b:aD} {h:H},Ra a b->Ro ((kF P c).run r a h) (cT P s c b h):=by
 induction c with
 |skip=>intro a b h ha;exact .some _ _ _ _ ha
 |IJ ops=>intro a b h ha;exact yV hr ha
 |yq ops aC cuts=>intro a b h ha;exact Jq hr ha
 |yu bb ops aC=>
  intro a b h ha
  show Ro (Ns (fN P r.flat bb ops aC (MG a) h)) (fN P s bb ops aC b h)
  rw [E7 ha,DE hr]
  exact E8 _
 |seq x y ihx ihy=>
  intro a b h ha
  show Ro (Mg ((kF P x).run r a h) (kF P y) r) _
  have h1:=ihx (h:=h) ha
  simp only [cT]
  generalize (kF P x).run r a h=u at h1
  generalize cT P s x b h=v at h1
  cases h1 with
  |none=>exact .none
  |some e a' b' h' r'=>cases e<;>first |exact ihy r' |exact .some _ _ _ _ r'
 |cond c x y ihx ihy=>
  intro a b h ha
  show Ro (Js (xI a.tmps c) (kF P x) (kF P y) r a h) _
  rw [Ce ha.tmps]
  simp only [cT]
  cases aj b.tmps c with
  |bool t=>cases t<;>first |exact ihx ha |exact ihy ha
  |_=>exact .none
 |block id x ih=>
  intro a b h ha
  show Ro (Cj id ((kF P x).run r a h)) _
  have h1:=ih (h:=h) ha
  simp only [cT]
  generalize (kF P x).run r a h=u at h1
  generalize cT P s x b h=v at h1
  cases h1 with
  |none=>exact .none
  |some e a' b' h' r'=>
   cases e with
   |exit id'=>
    simp only [Cj]
    split<;>exact .some _ _ _ _ r'
   |_=>exact .some _ _ _ _ r'
 |loop c ih=>
  intro a b h ha
  show Ro (Jt c ((kF P c).run r a h) r) _
  have h1:=ih (h:=h) ha
  simp only [cT]
  generalize (kF P c).run r a h=u at h1
  generalize cT P s c b h=v at h1
  cases h1 with
  |none=>exact .none
  |some e a' b' h' r'=>cases e<;>first |exact hr.loop _ _ _ _ r' |exact .some _ _ _ _ r'
 |rangeFunc f ps as bd _ _=>
  intro a b h ha
  show Ro (Ns (cT P r.flat (.rangeFunc f ps as bd) (MG a) h)) _
  rw [E7 ha]
  have e:cT P r.flat (.rangeFunc f ps as bd) b h=cT P s (.rangeFunc f ps as bd) b h:=by
   have:r.flat.call=s.call:=hr.call
   simp only [cT,this]
  rw [e]
  exact E8 _
 |exit id=>intro a b h ha;exact .some _ _ _ _ ha
 |ret=>intro a b h ha;exact .some _ _ _ _ ha
 |stuck=>intro a b h ha;exact .none
noncomputable def Bm (h:H) (ts:TS):List Db->Option (List Value)
 | []=>some []
 | .tmp t :: r=>if nO (ts.get t) then none else (Bm h ts r).map (ts.get t :: ·)
 | .cell t agg n :: r=>match ts.get t with
   | .pointer (some p)=>match h.s8 p n with
     |some cs=>match (if agg then some (.agg cs.toArray) else one cs),Bm h ts r with
      |some v,some l=>some (v :: l)
      |_,_=>none
     |none=>none
   |_=>none
theorem y3 {h:H} {t:TS} {ts:List Value} (ht:Sl t ts):∀l,Bm h t l=ia h ts l
 | []=>rfl
 | .tmp k :: r=>by simp only [Bm,ia,ht.2,y3 ht r]
 | .cell k agg n :: r=>by simp only [Bm,ia,ht.2,nU,y3 ht r];rfl
noncomputable def Ju (r:Option (Option Value × H)) (fn:kM) (a:bu):Option (fR × RC × H):=
 match r with
 |some (none,h')=>(Bm h' a.tmps fn.results).map fun l=>(.ret (iq l),a.rc,h')
 |some (some v,h')=>some (.panic v,a.rc,h')
 |none=>none
noncomputable def NO (rec:fD) (fn:kM) (r:Option (aM × bu × H)):Option (fR × RC × H):=
 match r with
 |some (x,a,h)=>match s7 x with
  |none=>none
  |some m=>Ju (bt rec.flat a.defers m h) fn a
 |none=>none
noncomputable def Jv (fn:kM) (ts:List Value) (rc:RC):bu:=⟨OD ts (ts.length+(fn.ntmps - ts.length)),[],rc,false⟩
noncomputable def Jw (P:Program) (rec:fD) (o:Option kM) (first captured:Array Value) (args:List Value) (rc:RC) (h:H):Option (fR × RC × H):=
 match o with
 |some fn=>NO rec fn ((kF P fn.body).run rec (Jv fn (Jf (Jf first.toList args) captured.toList) rc) h)
 |none=>none
noncomputable def Fb (P:Program) (rec:fD) (l:Nat) (args:List Value) (h:H):Option (fR × RC × H):=
 match h.p5 l with
 |some (.loop .ready _ ts ps assign body)=>
  if args.length=ps.length then
   match (kF P assign).run rec (OF {tmps:=fc ts ps args,defers:=[],rc:=.dF,round:=true}) h with
   |some (.normal,a1,h1)=>match h1.p5 l with
    |some (.loop .ready pend1 ts1 ps1 as1 bd1)=>
     match (kF P body).run rec a1 (h1.mM l (.loop .busy pend1 ts1 ps1 as1 bd1)) with
     |some (x,a2,h2)=>match a2.defers,h2.p5 l with
      | [],some (.loop _ _ ts2 ps2 as2 bd2)=>match x with
        | .normal=>some (.ret (.bool true),.dF,h2.mM l (.loop .ready none ts2 ps2 as2 bd2))
        | .ret=>some (.ret (.bool false),.dF,h2.mM l (.loop .done (some none) ts2 ps2 as2 bd2))
        | .exit id=>some (.ret (.bool false),.dF,h2.mM l (.loop .done (some (some id)) ts2 ps2 as2 bd2))
        | .panic v=>some (.panic v,.dF,h2)
      |_,_=>none
     |none=>none
    |_=>none
   |_=>none
  else none
 |_=>none
theorem HB {P:Program} {r:fD} {s:Rec} (hr:Rr r s) (l:Nat) (args:List Value) (h:H):Fb P r l args h=gH P s l args h:=by
 unfold Fb gH
 rw [ir]
 cases h.get l with
 |none=>rfl
 |some blk=>
  cases blk with
  |loop st pend ts ps assign body=>
   cases st with
   |ready=>
    simp only []
    split
    ·have h1:=uB (P:=P) hr assign (h:=h) (Jn {tmps:=fc ts ps args,defers:=[],rc:=.dF,round:=true})
     generalize (kF P assign).run r _ h=u at h1
     generalize cT P s assign _ h=v at h1
     cases h1 with
     |none=>rfl
     |some e a1 b1 h1 r1=>
      cases e with
      |normal=>
       simp only []
       rw [ir]
       cases h1.get l with
       |none=>rfl
       |some blk1=>
        cases blk1 with
        |loop st1 pend1 ts1 ps1 as1 bd1=>
         cases st1 with
         |ready=>
          simp only [jj]
          have h2:=uB (P:=P) hr body (h:=h1.set l (.loop .busy pend1 ts1 ps1 as1 bd1)) r1
          generalize (kF P body).run r a1 _=u at h2
          generalize cT P s body b1 _=v at h2
          cases h2 with
          |none=>rfl
          |some e2 a2 b2 h2 r2=>
           simp only [r2.defers,ir]
           rfl
         |_=>rfl
        |_=>rfl
      |_=>rfl
    ·rfl
   |_=>rfl
  |_=>rfl
noncomputable def y4 (P:Program) (rec:fD) (T:Nat->Option kM) (f:Value) (args:List Value) (rc:RC) (h:H):Option (fR × RC × H):=
 match f with
 | .func (.func g) first captured=>Jw P rec (T g) first captured args rc h
 | .func (.yield l) first captured=>match rc with
   | .dF=>if first.toList.isEmpty && captured.toList.isEmpty then Fb P rec l args h else none
   |_=>none
 |_=>none
theorem oU {r:fD} {s:Rec} (hr:Rr r s):∀(l:List fF) (m:Option Value) (h:H),bt r.flat l m h=bt s l m h
 | [],_,_=>rfl
 | .coll d :: l,m,h=>by
   simp only [bt,oU hr l]
 | .call f args :: l,m,h=>by
   have:r.flat.call=s.call:=hr.call
   simp only [bt,this,oU hr l]
theorem DF {P:Program} {r:fD} {s:Rec} (hr:Rr r s) (T:Nat->Option kM) (f:Value) (args:List Value) (rc:RC) (h:H):y4 P r T f args rc h=c5 P s T f args rc h:=by
 cases f with
 |func fn first captured=>
  cases fn with
  |func g=>
   simp only [y4,c5,Jw]
   cases T g with
   |none=>rfl
   |some fn=>
    have hs:Ra (Jv fn (Jf (Jf first.toList args) captured.toList) rc) (s6 fn (first.toList++args++captured.toList) rc):=by
     rw [Cd,Cd]
     exact ⟨Jh _ _,rfl,rfl,rfl⟩
    have h1:=uB (P:=P) hr fn.body (h:=h) hs
    simp only []
    generalize (kF P fn.body).run r _ h=u at h1
    generalize cT P s fn.body _ h=v at h1
    cases h1 with
    |none=>rfl
    |some x a b h' rr=>
     simp only [NO,eC,oU hr,rr.defers]
     cases s7 x with
     |none=>rfl
     |some m=>
      simp only []
      cases bt s b.defers m h' with
      |none=>rfl
      |some y=>
       obtain ⟨m',h2⟩:=y
       cases m' with
       |none=>simp only [Ju,y3 rr.tmps,rr.rc]
       |some w=>simp only [Ju,rr.rc]
  |yield l=>
   simp only [y4,c5,HB hr]
   rfl
  |_=>rfl
 |_=>rfl
end Go.Ev
