/- Open calls, and what an argument says. -/
import Derived.Test.YtcajalekkffcjaaDoorXB
import Derived.OpenShut
import Derived.ChangeArms
import Derived.Carry
import Derived.ReadAgain
namespace Go.Ev
open Go Go.RowKit
variable {T:TypeId->Type} {P:Program} {E:gR T}
theorem F6 {tabs:fY} {cs:jl} {g:Nat} {v:Value} (hm:P.follows .mixedOrders=true) (hN:P.funcs.toList.all (fun f=>!(f.name == "runtime.NumGoroutine"))=true)
  (hcs:oW P tabs cs) (hB:nV P.globals.size tabs=true) (hg:w5 cs g=true) (hv:ay v=true) {W:World} {h0 h':H} {ρ0:bz} {vargs:List Value} {cargs:Array Value} {rc:RC}
  (hR:bW P ρ0 W.heap.size W h0 W) (hargs:RL ρ0 vargs cargs.toList) (he:(JE P (kU P) tabs cs).call (.func (.func g) #[] #[]) vargs .dF h0=some (.ret v,rc,h')):
  Calls P g cargs W fun e W'=>e= .returned v/\Below W.heap.size W W':=by
 obtain ⟨n,hn⟩:=jT he
 cases n with
 |zero=>cases hn
 |succ n=>
  have hn':iF (eB (kU P) tabs cs (.func (.func g) #[] #[]) vargs .dF h0) h0 (c5 P (rI P (kU P) tabs cs n) (kU P) (.func (.func g) #[] #[]) vargs .dF h0)=some (.ret v,rc,h'):=hn
  have hk:eB (kU P) tabs cs (.func (.func g) #[] #[]) vargs .dF h0=some none:=by
   simp only [eB,tD hg]
   rfl
  rw [hk] at hn'
  have hrun:c5 P (rI P (kU P) tabs cs n) (kU P) (.func (.func g) #[] #[]) vargs .dF h0=some (.ret v,rc,h'):=hn'
  have hrec:=Fh hm (Ck hN) hcs hB n
  intro cs0
  simp only [c5] at hrun
  split at hrun
  ·rename_i fn hTg
   obtain ⟨pf,hpf,hcf,hname⟩:=Ck hN g fn hTg
   split at hrun
   ·rename_i x a' h1 hev
    obtain ⟨ρ1,w1,cs1,fr,hle,R1,hcs1,hst,hk,hd,hfn,u,hu,hmo,hru⟩:=ya hrec hm hpf hcf (kind:=.normal) (cs:=cs0) (targs:=cargs) (by simpa using hargs)
     (show xG _ _ _ .dF from trivial) hev hrun hR
    have e:=kD hcs1
    subst e
    have:=nW hv hu
    subst this
    exact ⟨.returned _,w1,fr,⟨rfl,R1.below⟩,hst,hfn,hmo,hd,hk,pf,by rw [hfn];exact hpf,hru⟩
   ·cases hrun
  ·cases hrun
inductive tH (E:gR T) (W:World):Value->X T->Prop where
 |v (w:Value) (hw:aS w=true):tH E W w (.v w)
 |nil (e:TypeId):tH E W (.slice none 0 0) (.ro e [])
 |sl (e:TypeId) (l:List (T e)) (B O n c:Nat) (hn:n=l.length) (hm:n<=maxLen) (hc:n<=c) (hB:B < W.heap.size)
   (h:∀(i:Nat) (r:T e),l[i]?=some r->∀(j:Nat) (x:X T),(E.enc e r)[j]?=some x->∃w,x= .v w/\aS w=true/\W.cell? ⟨B,O+(i * E.sz e+j),none⟩=some w):tH E W (.slice (some ⟨B,O,none⟩) n c) (.ro e l)
 |agg (us:List Value) (xs:List (X T)) (hl:us.length=xs.length) (h:∀(i:Nat) (u:Value) (x:X T),us[i]?=some u->xs[i]?=some x->tH E W u x):tH E W (.agg ⟨us⟩) (.agg xs)
structure Seen (P:Program) (N:Nat) (w0 W:World) (ρ:bz) (h:H):Prop where
 rep:bW P ρ N w0 h W
 own:y9 h
 top:nB h
structure wz (ρ:bz) (h:H) (ρ':bz) (h':H):Prop where
 le:ρ.le ρ'
 next:h.next<=h'.next
 get:∀i,i < h.next->h'.get i=h.get i
theorem wz.refl (ρ:bz) (h:H):wz ρ h ρ h:=⟨ρ.le_refl,Nat.le_refl _,fun _ _=>rfl⟩
theorem wz.trans {ρ ρ' ρ'':bz} {h h' h'':H} (a:wz ρ h ρ' h') (b:wz ρ' h' ρ'' h''):wz ρ h ρ'' h'':=⟨bz.le_trans a.le b.le,Nat.le_trans a.next b.next,fun i hi=>(b.get i (Nat.lt_of_lt_of_le hi a.next)).trans (a.get i hi)⟩
theorem wz.mv {ρ ρ':bz} {h h':H} (m:wz ρ h ρ' h'):Mv h h' (fun _=>False) (fun _=>False) (fun _=>none) (fun _=>none):=⟨m.next,fun b hb _=>m.get b hb,fun _ _ x=>x,fun _ _ _ h=>by cases h⟩
def ID:X T->Value
 | .v w=>w
 |_=>undef
theorem xD {sz:Nat} {u:Value}:∀{rows:List (List Value)} {j:Nat},(∀r∈rows,r.length=sz)->rows.flatten[j]?=some u->∃i r k,rows[i]?=some r/\r[k]?=some u/\j=i * sz+k
 | [],j,_,h=>by simp at h
 |r :: rs,j,ha,h=>by
  have hr:=ha r (List.mem_cons_self ..)
  rw [List.flatten_cons] at h
  rcases Nat.lt_or_ge j r.length with hj |hj
  ·rw [List.getElem?_append_left hj] at h
   exact ⟨0,r,j,rfl,h,by omega⟩
  ·rw [List.getElem?_append_right hj] at h
   obtain ⟨i,r',k,h1,h2,h3⟩:=xD (fun x hx=>ha x (List.mem_cons_of_mem _ hx)) h
   exact ⟨i+1,r',k,by simpa using h1,h2,by rw [Nat.add_mul];omega⟩
theorem Oo (hE:bM E) {W w0:World} {N:Nat} {u:Value} {x:X T} (s:tH E W u x):∀{ρ:bz} {h:H},Seen P N w0 W ρ h->
  ∃ρ' h' v,Seen P N w0 W ρ' h'/\wz ρ h ρ' h'/\Rv ρ' v u/\D E h' (fun _=>False) (fun _=>none) x v:=by
 induction s with
 |v w hw=>exact fun {ρ h} S=>⟨ρ,h,w,S,.refl _ _,bX hw,.v w⟩
 |nil e=>
  refine fun {ρ h} S=>⟨ρ,h,.slice none 0 0,S,.refl _ _,.AE 0 0,.ro e [] ⟨none,0,0⟩ [] ⟨rfl,by simp,fun h=>by simp at h⟩ rfl (Nat.zero_le _) (.inl rfl) (fun _ _ h=>by cases h) fun i a r h=>by simp at h⟩
 |sl e l B O n c hn hm hc hB hcell=>
  intro ρ h S
  have hlen:∀r∈(l.map fun r=>(E.enc e r).map ID),r.length=E.sz e:=fun r hr=>by
   obtain ⟨a,_,rfl⟩:=List.mem_map.1 hr
   rw [List.length_map];exact hE.len e a
  have hall:((l.map fun r=>(E.enc e r).map ID).flatten.all aS)=true:=by
   rw [List.all_eq_true]
   intro w hw
   obtain ⟨row,h1,h2⟩:=List.mem_flatten.1 hw
   obtain ⟨i,hi,rfl⟩:=List.getElem_of_mem h1
   obtain ⟨j,hj,rfl⟩:=List.getElem_of_mem h2
   have hil:i < l.length:=by simpa using hi
   simp only [List.getElem_map,List.length_map] at hj ⊢
   obtain ⟨w,hw,hs,_⟩:=hcell i _ (List.getElem?_eq_getElem hil) j _ (List.getElem?_eq_getElem hj)
   rw [hw];exact hs
  have hget:∀j u,(l.map fun r=>(E.enc e r).map ID).flatten[j]?=some u->W.cell? ⟨B,O+j,none⟩=some u:=fun j u hj=>by
   obtain ⟨i,r,k,h1,h2,rfl⟩:=xD hlen hj
   rw [List.getElem?_map,Option.map_eq_some_iff] at h1
   obtain ⟨a,ha,rfl⟩:=h1
   rw [List.getElem?_map,Option.map_eq_some_iff] at h2
   obtain ⟨x,hx,rfl⟩:=h2
   obtain ⟨w,rfl,_,hw⟩:=hcell i a ha k x hx
   exact hw
  have R1:=S.rep.Oo S.own (l.map fun r=>(E.enc e r).map ID).flatten ⟨B,O,none⟩ c rfl hB (cN bX hall) hget
  have hle:=bz.eM (⟨B,O,none⟩,c) (S.rep.fresh h.next (Nat.le_refl _))
  have hmore:wz ρ h (ρ.lN h.next (⟨B,O,none⟩,c)) (h.alloc (.ro (l.map fun r=>(E.enc e r).map ID).flatten)):=⟨hle,by rw [H.bx];omega,fun i hi=>H.aI h _ (by omega)⟩
  refine ⟨_,_,.slice (some ⟨h.next,0,none⟩) n 0,⟨R1,S.own.ro _,S.top.alloc _⟩,hmore,?_,?_⟩
  ·have:=Rv.l9 (ρ:=ρ.lN h.next (⟨B,O,none⟩,c)) h.next 0 n B O c (bz.aY _ _ _) hc
   simpa using this
  ·refine .ro e l ⟨some ⟨h.next,0,none⟩,n,0⟩ (l.map fun r=>(E.enc e r).map ID) ⟨by simp [hn],hlen,fun _=>⟨h.next,0,_,rfl,⟨by rw [H.bx];omega,_,H.aH h _,rfl⟩,?_,fun i r hi=>?_⟩⟩ (by simp) (by rw [← hn];exact hm) (.inr ⟨_,_,rfl⟩) (fun _ _ _ _ h=>h) fun i a r hi hr j x w hx hw=>?_
   ·rw [Nat.zero_add,dR hlen];exact Nat.le_refl _
   ·rw [Nat.zero_add];exact gY hlen hi
   ·rw [List.getElem?_map,hi] at hr
    cases hr
    rw [List.getElem?_map,hx] at hw
    cases hw
    obtain ⟨w,rfl,_,_⟩:=hcell i a hi j x hx
    exact .v w
 |agg us xs hl hh ih=>
  intro ρ h S
  have key:∀(us:List Value) (xs:List (X T)) {ρ:bz} {h:H},Seen P N w0 W ρ h->us.length=xs.length->(∀(i:Nat) (u:Value) (x:X T),us[i]?=some u->xs[i]?=some x->∀{ρ:bz} {h:H},Seen P N w0 W ρ h->∃ρ' h' v,Seen P N w0 W ρ' h'/\wz ρ h ρ' h'/\Rv ρ' v u/\D E h' (fun _=>False) (fun _=>none) x v)->
    ∃ρ' h' vs,Seen P N w0 W ρ' h'/\wz ρ h ρ' h'/\RL ρ' vs us/\DL E h' (fun _=>False) (fun _=>none) xs vs:=by
   intro us
   induction us with
   |nil=>
    intro xs ρ h S hl _
    cases xs with
    |nil=>exact ⟨ρ,h,[],S,.refl _ _,.nil,DL.nil⟩
    |cons=>simp at hl
   |cons u us ih2=>
    intro xs ρ h S hl hs
    cases xs with
    |nil=>simp at hl
    |cons x xs=>
     obtain ⟨ρ1,h1,v,S1,m1,r1,d1⟩:=hs 0 u x rfl rfl S
     obtain ⟨ρ2,h2,vs,S2,m2,r2,d2⟩:=ih2 xs S1 (by simpa using hl) fun i u x hu hx=>hs (i+1) u x (by simpa using hu) (by simpa using hx)
     exact ⟨ρ2,h2,v :: vs,S2,m1.trans m2,.cons (r1.mono m2.le) r2,DL.cons (d1.mv m2.mv) d2⟩
  obtain ⟨ρ',h',vs,S',m,r,d⟩:=key us xs S hl ih
  exact ⟨ρ',h',.agg ⟨vs⟩,S',m,.agg _ _ r,.agg _ _ d.1 d.2⟩
end Go.Ev
namespace Go.Ev
open Go Go.RowKit
variable {T:TypeId->Type} {P:Program} {E:gR T} {H':Type} {enc:TypeId × Value->H'} {W:World}
inductive SK where
 |bool
 |str
 |int (k:IntKind)
 |sl (e:TypeId)
def L7 {α:Type} (a:List α):Nat->List α
 | 0=>[]
 |n+1=>a++L7 a n
def L8 (P:Program) (r:TypeId->Option (List SK)):Nat->List Field->Option (List SK)
 |_,[]=>some []
 |o,f :: fs=>(match Nat.beq f.offset o,r f.type,L8 P r (o+P.cellsOf f.type) fs with
  |true,some a,some b=>(match Nat.beq a.length (P.cellsOf f.type) with |true=>some (a++b) |false=>none)
  |_,_,_=>none)
def Nz (P:Program):Nat->TypeId->Option (List SK)
 | 0,_=>none
 |n+1,t=>match P.underlying t with
  |some .bool=>some [.bool]
  |some (.int k)=>some [.int k]
  |some .string=>some [.str]
  |some (.slice e)=>some [.sl e]
  |some (.struct fs)=>(match L8 P (Nz P n) 0 fs.toList with
   |some l=>(match Nat.beq l.length (P.cellsOf t) with |true=>some l |false=>none)
   |none=>none)
  |some (.array m e)=>(match Nz P n e with
   |some a=>(match Nat.beq a.length (P.cellsOf e) && Nat.beq (P.cellsOf t) (m * P.cellsOf e) with |true=>some (L7 a m) |false=>none)
   |none=>none)
  |_=>none
def G4 (enc:TypeId × Value->H') (P:Program) (W:World):SK->Value->Prop
 | .bool,v=>∃b,v= .bool b
 | .int k,v=>∃n,v= .int k n/\(Lit.int k n).wf=true
 | .str,v=>∃s:ByteArray,v= .string s/\s.size<=maxLen
 | .sl e,v=>v= .slice none 0 0\/∃a n c,v= .slice (some a) n c/\n<=c/\c<=maxLen/\∀i,i < n->∃F cs x,W.cells? 0 (a.add (i * P.cellsOf e)) (P.cellsOf e)=some cs/\DataW.trod enc P W 0 (fun _=>true) true F e cs=some x
def gd (enc:TypeId × Value->H') (P:Program) (W:World) (ks:List SK) (cs:List Value):Prop:=ks.length=cs.length/\∀(j:Nat) (k:SK) (v:Value),ks[j]?=some k->cs[j]?=some v->G4 enc P W k v
theorem gd.one {k:SK} {v:Value} (h:G4 enc P W k v):gd enc P W [k] [v]:=⟨rfl,fun j k' v' h1 h2=>by
 cases j with
 |zero=>cases h1;cases h2;exact h
 |succ j=>simp at h1⟩
theorem gd.append {a b:List SK} {c d:List Value} (h:gd enc P W a c) (k:gd enc P W b d):gd enc P W (a++b) (c++d):=by
 refine ⟨by simp [h.1,k.1],fun j x v h1 h2=>?_⟩
 rcases Nat.lt_or_ge j a.length with hj |hj
 ·rw [List.getElem?_append_left hj] at h1
  rw [List.getElem?_append_left (by rw [← h.1];exact hj)] at h2
  exact h.2 j x v h1 h2
 ·rw [List.getElem?_append_right hj] at h1
  rw [List.getElem?_append_right (by rw [← h.1];exact hj),← h.1] at h2
  exact k.2 _ x v h1 h2
theorem xX {α:Type} (cs:List α) (o n:Nat):(cs.drop o).take n++cs.drop (o+n)=cs.drop o:=by
 rw [← List.drop_drop];exact List.take_append_drop _ _
theorem G5 {r:TypeId->Option (List SK)} {tr:TypeId->List Value->Prop} (hr:∀t ks cs,r t=some ks->tr t cs->gd enc P W ks cs) {cs:List Value}:∀{fs:List Field} {o:Nat} {l:List SK},L8 P r o fs=some l->
  (∀f∈fs,tr f.type ((cs.drop f.offset).take (P.cellsOf f.type)))->o+l.length=cs.length->gd enc P W l (cs.drop o)
 | [],o,l,h,_,hl=>by
   cases h
   have:cs.drop o=[]:=List.drop_eq_nil_of_le (by simp at hl;omega)
   rw [this]
   exact ⟨rfl,fun j k v h=>by simp at h⟩
 |f :: fs,o,l,h,hf,hl=>by
  simp only [L8] at h
  split at h
  ·rename_i a b h0 h1 h2
   split at h
   ·rename_i h3
    cases h
    have h0:=Nat.eq_of_beq_eq_true h0
    have h3:=Nat.eq_of_beq_eq_true h3
    have k1:=hr _ _ _ h1 (hf f (List.mem_cons_self ..))
    rw [List.length_append] at hl
    have k2:=G5 hr (fs:=fs) (cs:=cs) h2 (fun g hg=>hf g (List.mem_cons_of_mem _ hg)) (by rw [← h3];omega)
    rw [← xX cs o (P.cellsOf f.type),← h0]
    rw [← h0] at k2
    exact k1.append k2
   ·cases h
  ·cases h
theorem KU {a:List SK} {sz:Nat} (ha:a.length=sz):∀{m:Nat} {cs:List Value},cs.length=m * sz->(∀i,i < m->gd enc P W a ((cs.drop (i * sz)).take sz))->gd enc P W (L7 a m) cs
 | 0,cs,hl,_=>by
   have:cs=[]:=List.length_eq_zero_iff.1 (by omega)
   subst this
   exact ⟨rfl,fun j k v h=>by simp [L7] at h⟩
 |m+1,cs,hl,h=>by
  have k1:=h 0 (Nat.succ_pos _)
  rw [Nat.zero_mul,List.drop_zero] at k1
  have k2:=KU ha (m:=m) (cs:=cs.drop sz) (by rw [List.length_drop,hl,Nat.add_mul];omega) fun i hi=>by
   have:=h (i+1) (by omega)
   rw [Nat.add_mul,Nat.one_mul,Nat.add_comm,← List.drop_drop] at this
   exact this
  have:=k1.append k2
  rw [List.take_append_drop] at this
  exact this
theorem pL:∀(n F:Nat) (t:TypeId) (ks:List SK) (cs:List Value) (x:DataW H' × List MemPlace),Nz P n t=some ks->DataW.trod enc P W 0 (fun _=>true) true F t cs=some x->gd enc P W ks cs
 | 0,_,_,_,_,_,h,_=>by cases h
 |n+1,F,t,ks,cs,x,h,ht=>by
  simp only [Nz] at h
  split at h
  ·rename_i hu
   cases h
   obtain ⟨b,rfl,_⟩:=DataW.trod_bool hu ht
   exact .one ⟨b,rfl⟩
  ·rename_i k hu
   cases h
   obtain ⟨m,rfl,_,hw⟩:=DataW.trod_int hu ht
   exact .one ⟨m,rfl,hw⟩
  ·rename_i hu
   cases h
   obtain ⟨s,rfl,_,hs⟩:=DataW.trod_string hu ht
   exact .one ⟨s,rfl,hs⟩
  ·rename_i e hu
   cases h
   rcases DataW.trod_slice hu ht with ⟨rfl,_⟩ |⟨a,len,cap,elems,rest,m,_,rfl,_,_,h1,h2,h3,h4,_⟩
   ·exact .one (.inl rfl)
   ·refine .one (.inr ⟨a,len,cap,rfl,h1,h2,fun i hi=>?_⟩)
    have:=h4 i hi
    rw [List.getElem?_eq_getElem (by omega),Option.bind_eq_some_iff] at this
    obtain ⟨c,g1,g2⟩:=this
    exact ⟨m,c,_,g1,g2⟩
  ·rename_i fs hu
   split at h
   ·rename_i l hl
    split at h
    ·rename_i hlen
     cases h
     have hlen:=Nat.eq_of_beq_eq_true hlen
     obtain ⟨xs,m,_,_,hcs,hxs,hf⟩:=DataW.trod_struct hu ht
     have:=G5 (tr:=fun t cs=>∃x,DataW.trod enc P W 0 (fun _=>true) true m t cs=some x) (fun t ks cs h1 ⟨x,h2⟩=>pL n m t ks cs x h1 h2) (cs:=cs) hl (fun f hfm=>by
      obtain ⟨i,hi,e⟩:=List.getElem_of_mem hfm
      have hi':i < fs.size:=by simpa using hi
      have h1:fs[i]?=some f:=by rw [← Array.getElem?_toList,List.getElem?_eq_getElem hi,e]
      have:=hf i f h1
      rw [List.getElem?_eq_getElem (by omega)] at this
      exact ⟨_,this⟩) (by omega)
     rwa [List.drop_zero] at this
    ·cases h
   ·cases h
  ·rename_i m e hu
   split at h
   ·rename_i a ha
    split at h
    ·rename_i hb
     cases h
     simp only [Bool.and_eq_true] at hb
     have h1:=Nat.eq_of_beq_eq_true hb.1
     have h2:=Nat.eq_of_beq_eq_true hb.2
     obtain ⟨xs,k,_,_,hcs,hxs,hf⟩:=DataW.trod_array hu ht
     refine KU (m:=m) h1 (by omega) fun i hi=>?_
     have:=hf i hi
     rw [List.getElem?_eq_getElem (by omega)] at this
     exact pL n k e a _ _ ha this
    ·cases h
   ·cases h
  ·cases h
theorem ok_slice {r:Reach} {base:Nat} {u:TypeId} {a:Addr} {n c:Nat} (h:Cell.okWide P W r base u (.slice (some a) n c)):a.spot=none/\a.block < W.heap.size:=by
 unfold Cell.okWide Cell.ok at h
 cases hu:P.underlying u with
 |none=>rw [hu] at h;exact h.elim
 |some d=>
  rw [hu] at h
  cases d
  case slice e=>
   obtain ⟨_,_,_,hs,row,cells,hsh,_⟩:=h
   refine ⟨hs,?_⟩
   rcases Nat.lt_or_ge a.block W.heap.size with h |h
   ·exact h
   ·have hn:W.heap[a.block]?=none:=Array.getElem?_eq_none_iff.2 h
    simp [World.shape?,hn] at hsh
  all_goals exact h.elim
theorem xF {α:Type} {Q:Nat->α->Prop}:∀{n:Nat},(∀i,i < n->∃r,Q i r)->∃l:List α,l.length=n/\∀i r,l[i]?=some r->Q i r
 | 0,_=>⟨[],rfl,fun i r h=>by simp at h⟩
 |n+1,h=>by
  obtain ⟨l,h1,h2⟩:=xF (n:=n) fun i hi=>h i (by omega)
  obtain ⟨r,hr⟩:=h n (by omega)
  refine ⟨l++[r],by simp [h1],fun i r' hi=>?_⟩
  rcases Nat.lt_or_ge i l.length with hlt |hge
  ·rw [List.getElem?_append_left hlt] at hi;exact h2 i r' hi
  ·rw [List.getElem?_append_right hge] at hi
   have:i - l.length=0:=by
    rcases Nat.eq_zero_or_pos (i - l.length) with h |h
    ·exact h
    ·rw [List.getElem?_eq_none (by simp;omega)] at hi;cases hi
   rw [this] at hi
   cases hi
   have e:i=n:=by omega
   subst e;exact hr
theorem EH {α β:Type} {f:α->Option β}:∀{l:List α} {r:List β} {j:Nat} {y:β},l.mapM f=some r->r[j]?=some y->∃x,l[j]?=some x/\f x=some y
 | [],r,j,y,h,hj=>by
   simp only [List.mapM_nil,Option.pure_def,Option.some.injEq] at h
   subst h;simp at hj
 |x :: l,r,j,y,h,hj=>by
  simp only [List.mapM_cons,Option.bind_eq_bind,Option.bind_eq_some_iff,Option.pure_def,Option.some.injEq] at h
  obtain ⟨z,h1,zs,h2,rfl⟩:=h
  cases j with
  |zero=>cases hj;exact ⟨x,rfl,h1⟩
  |succ j=>
   obtain ⟨x',k1,k2⟩:=EH h2 (by simpa using hj)
   exact ⟨x',by simpa using k1,k2⟩
theorem IF {b n:Nat} {a:Addr} {cs:List Value} (h:W.cells? b a n=some cs) {j:Nat} {w:Value} (hj:cs[j]?=some w):W.cell? (a.add j)=some w:=by
 unfold World.cells? at h
 split at h
 ·obtain ⟨i,h1,h2⟩:=EH h hj
  have hlt:=(List.getElem?_eq_some_iff.1 h1).1
  rw [List.length_range] at hlt
  rw [List.getElem?_range hlt] at h1
  cases h1
  exact h2
 ·cases h
theorem EI (B O j:Nat):(⟨B,O,none⟩:Addr).add j=⟨B,O+j,none⟩:=by
 by_cases h:j=0
 ·subst h;simp [Addr.add]
 ·simp [Addr.add,h]
theorem Ke {e:TypeId} {ks:List SK} (hsz:E.sz e=P.cellsOf e) (n:Nat) (hk:Nz P n e=some ks) (hdec:∀cs,gd enc P W ks cs->∃r:T e,E.enc e r=cs.map .v/\cs.all aS=true) {v:Value}
  (hv:G4 enc P W (.sl e) v) (hok:∀a n c,v= .slice (some a) n c->a.spot=none/\a.block < W.heap.size):∃l:List (T e),tH E W v (.ro e l):=by
 rcases hv with rfl |⟨a,m,c,rfl,hmc,hcm,hi⟩
 ·exact ⟨[],.nil e⟩
 ·obtain ⟨hs,hB⟩:=hok a m c rfl
  obtain ⟨B,O,sp⟩:=a
  simp only at hs hB
  subst hs
  obtain ⟨l,h1,h2⟩:=xF (Q:=fun i (r:T e)=>∀(j:Nat) (x:X T),(E.enc e r)[j]?=some x->∃w,x= .v w/\aS w=true/\W.cell? ⟨B,O+(i * E.sz e+j),none⟩=some w) (n:=m) fun i hlt=>by
   obtain ⟨F,cs,x,g1,g2⟩:=hi i hlt
   obtain ⟨r,k1,k2⟩:=hdec cs (pL n F e ks cs x hk g2)
   refine ⟨r,fun j x hj=>?_⟩
   rw [k1,List.getElem?_map,Option.map_eq_some_iff] at hj
   obtain ⟨w,hw,rfl⟩:=hj
   refine ⟨w,rfl,List.all_eq_true.1 k2 w (List.mem_of_getElem? hw),?_⟩
   have:=IF g1 hw
   rw [hsz,← Nat.add_assoc]
   rw [EI,EI] at this
   exact this
  exact ⟨l,.sl e l B O m c h1.symm (Nat.le_trans hmc hcm) hmc hB h2⟩
theorem CM {base:Nat} {t:TypeId} {cs:Array Value} (h:Row.okWide P W .any base t cs):∀v∈cs.toList,∀a n c,v= .slice (some a) n c->a.spot=none/\a.block < W.heap.size:=by
 intro v hv a n c e
 obtain ⟨ts,_,_,hc⟩:=h
 obtain ⟨i,hi,e2⟩:=List.getElem_of_mem hv
 obtain ⟨u,_,hu⟩:=hc i v (by rw [← Array.getElem?_toList,List.getElem?_eq_getElem hi,e2])
 subst e
 exact ok_slice hu
theorem Ak {n:Nat}:∀{tabs:fY} {p:Nat × List Value},(tabs.map (·.1)).Nodup->p∈tabs->(hstart n tabs).get p.1=some (.ro p.2)
 |q :: r,p,hn,hp=>by
  simp only [hstart]
  simp only [List.map_cons,List.nodup_cons] at hn
  rcases List.mem_cons.1 hp with rfl |hp
  ·exact H.an _ _ _
  ·rw [H.ah _ _ fun e=>hn.1 (by rw [e];exact List.mem_map_of_mem hp)]
   exact Ak hn.2 hp
theorem Al {n:Nat}:∀{tabs:fY},(∀p∈tabs,p.1 < n)->nB (hstart n tabs)
 | [],_=>fun i _=>Trie.qG _
 |p :: r,h=>by
  have ih:=Al (n:=n) (tabs:=r) fun q hq=>h q (List.mem_cons_of_mem _ hq)
  exact ih.set (by rw [iW];exact h p (List.mem_cons_self ..)) _
structure Kl (E:gR T) (P:Program) (tabs:fY):Prop where
 ok:nV P.globals.size tabs=true
 nodup:(tabs.map (·.1)).Nodup
 dU:∀g cs,E.dU g=some cs->∃vs,(g,vs)∈tabs/\cs=vs.map .v
 all:∀p∈tabs,E.dU p.1=some (p.2.map .v)
theorem DL.consts {h:H} {O:Nat->Prop} {ρ:Loc}:∀(vs:List Value),DL E h O ρ (vs.map .v) vs
 | []=>DL.nil
 |v :: vs=>DL.cons (.v v) (DL.consts vs)
theorem DL.wA {h:H} {O:Nat->Prop} {ρ:Loc}:∀{vs us:List Value},DL E h O ρ (vs.map .v) us->us=vs
 | [],us,d=>List.length_eq_zero_iff.1 d.1.symm
 |v :: vs,us,d=>by
  obtain ⟨w,ws,rfl,d1,d2⟩:=DL.cM (x:=.v v) (l:=vs.map .v) d
  rw [uS d1,DL.wA d2]
theorem F7 {tabs:fY} (t:Kl E P tabs) (hW:oV W tabs):Seen P W.heap.size W W (td P.globals.size) (hstart P.globals.size tabs):=
 ⟨Bn t.ok hW,uE _ _,Al fun _p hp=>(lR t.ok hp).2.2⟩
theorem IG {tabs:fY} (t:Kl E P tabs) {ρ:bz} {h:H} (S:Seen P W.heap.size W W ρ h) (m:wz (td P.globals.size) (hstart P.globals.size tabs) ρ h):aE E (fun _=>False) (fun _=>none) (cO ([]:List (Ob T))) h:=by
 refine ⟨S.top,fun _ _=>rfl,Nat.succ_pos _,fun _ _ _ h=>(by cases h),fun _ h=>h.elim,fun b hb=>?_,fun i j s s' o o' q q' n n' b f f' h1=>(by cases h1),fun id s o hf=>(by cases hf),fun g cs hg=>?_⟩
 ·obtain ⟨k,s,o,q,n,off,hf,_⟩:=hb
  cases hf
 ·obtain ⟨vs,hm,rfl⟩:=t.dU g cs hg
  have hlt:=(lR t.ok hm).2.2
  refine ⟨fun hc=>?_,vs,⟨?_,?_⟩,DL.consts vs⟩
  ·rcases hc with hc |hc
   ·exact hc
   ·obtain ⟨k,s,o,q,n,off,hf,_⟩:=hc
    cases hf
  ·have:=m.next;rw [iW] at this;exact Nat.lt_of_lt_of_le hlt this
  ·rw [m.get g (by rw [iW];exact hlt)];exact Ak t.nodup hm
theorem KV {B:Nat->Prop} {ρ:Loc} {h:H} (I:aE E B ρ (cO ([]:List (Ob T))) h):aE E B ρ (fQ ([]:List (Ob T)) [] []) h:=
 ⟨I.top,fun id hid=>I.dom id (Nat.le_of_succ_le hid),Nat.succ_pos _,fun id q n hq=>Nat.lt_succ_of_lt (I.lG id q n hq),I.base,I.jA,I.AR,fun id s o hf=>(by cases hf),I.dU⟩
theorem Ig {tabs:fY} {cs:jl} {Tf:Nat->Option kM} (t:Kl E P tabs) {g:Nat} {xs:List Value} {v:Value} (hT:(Tf g).isSome=true) (hf:∀h,fG h cs g xs=some (some v)) (hgood:tabs.all (fun p=>p.2.all qQ)=true):
  cC E (JE P Tf tabs cs) (.fn g [] []) [] (xs.map .v) (.v v) [] []:=by
 intro h B ρ vf vs I _ df da
 have e:=DL.wA da
 subst e
 cases df with
 |fn _ _ _ va vb ha hb _ _=>
  have hva:va=[]:=List.length_eq_zero_iff.1 ha.symm
  have hvb:vb=[]:=List.length_eq_zero_iff.1 hb.symm
  subst hva hvb
  have ht:nt tabs h=true:=by
   unfold nt
   rw [List.all_eq_true]
   intro p hp
   obtain ⟨_,us,l,d⟩:=I.dU p.1 _ (t.all p hp)
   have:=DL.wA d
   subst this
   rw [l.ro]
   exact rQ (List.all_eq_true.1 hgood p hp)
  have hk:eB Tf tabs cs (.func (.func g) ⟨[]⟩ ⟨[]⟩) vs .dF h=some (some v):=by
   simp only [eB,hf h,hT,ht]
   rfl
  exact ⟨v,.dF,h,ρ,HP hk,.v v,KV I,Nat.le_refl _,fun _ _ _=>rfl,fun _ _ h=>h,fun k q m hk=>absurd hk (Nat.not_lt_zero _)⟩
theorem Kg (hE:bM E) {tabs:fY} {cs:jl} (t:Kl E P tabs) (hm:P.follows .mixedOrders=true) (hN:P.funcs.toList.all (fun f=>!(f.name == "runtime.NumGoroutine"))=true) (hcs:oW P tabs cs) {g:Nat} (hg:w5 cs g=true)
  {xs:List (X T)} {v:Value} (hv:ay v=true) (hc:cC E (JE P (kU P) tabs cs) (.fn g [] []) [] xs (.v v) [] []) (hW:oV W tabs) {args:Array Value} (hs:tH E W (.agg args) (.agg xs)):
  Calls P g args W fun e W'=>e= .returned v/\Below W.heap.size W W':=by
 obtain ⟨ρ,h,u,S,m,hr,d⟩:=Oo (P:=P) (N:=W.heap.size) (w0:=W) hE hs (F7 t hW)
 cases d with
 |agg _ vs hl hd=>
  have hO:∀b,ak (fun _=>False) (fun _=>none) (cO ([]:List (Ob T))).env b->False:=fun b hb=>by
   rcases hb with hb |hb
   ·exact hb
   ·obtain ⟨k,s,o,q,n,off,hf,_⟩:=hb
    cases hf
  have dl:DL E h (ak (fun _=>False) (fun _=>none) (cO ([]:List (Ob T))).env) (fun _=>none) xs vs:=DL.sub hO ⟨hl,hd⟩
  obtain ⟨v',rc,h',ρ',k1,k3,_⟩:=hc h _ _ (.func (.func g) #[] #[]) vs (IG t S m) (fun _ _=>rfl) (.fn g [] [] [] [] rfl rfl (fun j x w h=>by simp at h) (fun j x w h=>by simp at h)) dl
  have:=uS k3
  subst this
  cases hr with
  |agg _ _ hrl=>exact F6 hm hN hcs t.ok hg hv S.rep hrl k1
end Go.Ev
namespace Go.Ev
open Go
variable {T:TypeId->Type} {E:gR T} {P:Program} {W:World} {H':Type} {enc:TypeId × Value->H'}
theorem gd.cons {k:SK} {ks:List SK} {cs:List Value} (h:gd enc P W (k :: ks) cs):∃c cs',cs=c :: cs'/\G4 enc P W k c/\gd enc P W ks cs':=by
 obtain ⟨h1,h2⟩:=h
 cases cs with
 |nil=>cases h1
 |cons c cs=>exact ⟨c,cs,rfl,h2 0 _ _ rfl rfl,by simpa using h1,fun j k v e1 e2=>h2 (j+1) k v (by simpa using e1) (by simpa using e2)⟩
theorem gd.nil {cs:List Value} (h:gd enc P W [] cs):cs=[]:=List.length_eq_zero_iff.1 h.1.symm
def AP (E:gR T) (W:World) (us:List Value) (xs:List (X T)):Prop:=us.length=xs.length/\∀(i:Nat) (u:Value) (x:X T),us[i]?=some u->xs[i]?=some x->tH E W u x
theorem AP.nil:AP E W [] []:=⟨rfl,fun i u x h=>by simp at h⟩
theorem AP.cons {u:Value} {x:X T} {us:List Value} {xs:List (X T)} (h:tH E W u x) (k:AP E W us xs):AP E W (u :: us) (x :: xs):=⟨by simp [k.1],fun i u' x' h1 h2=>by
 cases i with
 |zero=>cases h1;cases h2;exact h
 |succ i=>exact k.2 i u' x' (by simpa using h1) (by simpa using h2)⟩
theorem AP.agg {us:List Value} {xs:List (X T)} (h:AP E W us xs):tH E W (.agg ⟨us⟩) (.agg xs):=.agg us xs h.1 h.2
theorem FI {base:Nat} {t:TypeId} {v:Value} (hu:P.underlying t=some .string) (h:Value.okWide P W .any base t v):∃s:ByteArray,v= .string s/\tH E W v (.v (.string s)):=by
 unfold Value.okWide at h
 rw [hu] at h
 unfold Cell.okWide Cell.ok at h
 rw [hu] at h
 cases v<;>first |exact h.elim |exact ⟨_,rfl,.v _ rfl⟩
theorem BD {base:Nat} {t:TypeId} {v:Value} {d:DataW H'} {p:List MemPlace} {fs:Array Field} {ks:List SK} {n:Nat} (hu:P.underlying t=some (.struct fs)) (hk:Nz P n t=some ks) (h:Value.okWide P W .any base t v) (h2:DataW.Trod enc P W 0 (fun _=>true) true t v d p):
  ∃cs:List Value,v= .agg ⟨cs⟩/\gd enc P W ks cs/\∀c∈cs,∀a n m,c= .slice (some a) n m->a.spot=none/\a.block < W.heap.size:=by
 unfold Value.okWide at h
 rw [hu] at h
 obtain ⟨cs,rfl,_,hrow⟩:=h
 obtain ⟨F,hF⟩:=h2
 obtain ⟨l⟩:=cs
 exact ⟨l,rfl,pL n F t ks _ _ hk hF,CM hrow⟩
end Go.Ev
namespace Go.Ev
open Go
structure Kh where
 f:Int
 t:Int
structure bR where
 a:Int
 b:Int
 c:Int
 d:Int
structure qS where
 kind:Int
 times:Int
 set:bR
 group:Int
 first:Int
 next:Int
structure MZ where
 low:Int
 high:Int
inductive D8 where
 |top (pos:Int)
 |seq (node:Int) (k:D8)
 |Pc (x:qS) (pos:Int) (k:D8)
inductive MW where
 |nil
 |cons (node group from_:Int) (k:MW)
structure Mq where
 nodes:List qS
 OQ:Bool
 fin:Bool
 groups:Int
structure aP where
 lead:List bR
 trail:List bR
 least:Int
 most:Int
structure aK where
 first:ByteArray
 last:ByteArray
 exact:Bool
 least:Int
 most:Int
structure GP where
 s:ByteArray
 pos:Int
 e:Int
 f:Int
 OQ:Bool
 fin:Bool
 groups:Int
end Go.Ev
namespace Go.Ev
open Go
def words (s:bR):List Int:=[s.a,s.b,s.c,s.d]
def hasB (a:bR) (b:Int):Bool:=decide (Li .u64 (Ll .u64 ((words a).getD (b.tdiv 64).toNat 0) (b.tmod 64)) 1=1)
instance:DecidableEq bR:=fun a b=>decidable_of_iff (a.a=b.a/\a.b=b.b/\a.c=b.c/\a.d=b.d) ⟨fun h=>by cases a;cases b;simp_all,fun h=>by subst h;simp⟩
theorem CO {b:Int} (h0:0<=b) (h1:b < 256):0<=b.tdiv 64/\b.tdiv 64 < 4/\0<=b.tmod 64/\b.tmod 64 < 64:=by
 rw [Int.tdiv_eq_ediv_of_nonneg h0,Int.tmod_eq_emod_of_nonneg h0]
 omega
theorem IN {x:Int} (h0:0<=x) (h1:x < 256):IntKind.u8.wrap x=x:=by
 have hb:IntKind.u8.bits=8:=rfl
 have hs:IntKind.u8.signed=false:=rfl
 unfold IntKind.wrap
 simp only [hb,hs,Bool.false_and,Bool.false_eq_true,if_false]
 omega
theorem KY {x:Int} (h0:0<=x) (h1:x < 18446744073709551616):IntKind.u64.wrap x=x:=by
 have hb:IntKind.u64.bits=64:=rfl
 have hs:IntKind.u64.signed=false:=rfl
 unfold IntKind.wrap
 simp only [hb,hs,Bool.false_and,Bool.false_eq_true,if_false]
 omega
end Go.Ev
namespace Go.Ev
open Go
section
variable {α β:Type} {f:α × β->Bool} {a:List α} {b:List β} {n:Nat}
theorem EL (h:((a.zip b).take n).all f=true) {x:α} {y:β} (hx:a[n]?=some x) (hy:b[n]?=some y):((a.zip b).take (n+1)).all f=f (x,y):=by
 have:(a.zip b)[n]?=some (x,y):=by rw [List.getElem?_zip_eq_some];exact ⟨hx,hy⟩
 rw [List.take_add_one,this,List.all_append,h]
 simp
theorem CV (h:((a.zip b).take n).all f=true) (hn:a.length<=n\/b.length<=n):(a.zip b).all f=true:=by
 rw [← h,List.take_of_length_le]
 rw [List.length_zip]
 omega
theorem Mx (h:((a.zip b).take n).all f=false):(a.zip b).all f=false:=by
 rw [List.all_eq_false] at h ⊢
 obtain ⟨x,hx,h⟩:=h
 exact ⟨x,List.mem_of_mem_take hx,h⟩
end
theorem A0 {r s:bR}:([.int .u64 r.a,.int .u64 r.b,.int .u64 r.c,.int .u64 r.d]:List Value)=[.int .u64 s.a,.int .u64 s.b,.int .u64 s.c,.int .u64 s.d]↔r=s:=by
 cases r;cases s
 simp
def kz (e:aP):Int:=
 if e.least < 0\/(e.most≠-1/\e.most < e.least) then 2
 else if 64 < e.lead.length\/e.least < (e.lead.length:Int)\/64 < e.trail.length\/e.least < (e.trail.length:Int) then 4 else 0
theorem G7 {e:aP} (h:e.least < 0\/(e.most≠-1/\e.most < e.least)):2=kz e:=by unfold kz;rw [if_pos h]
theorem CP {e:aP} (h:¬(e.least < 0\/(e.most≠-1/\e.most < e.least))) (h2:64 < (e.lead.length:Int)\/e.least < (e.lead.length:Int)\/64 < (e.trail.length:Int)\/e.least < (e.trail.length:Int)):4=kz e:=by unfold kz;rw [if_neg h,if_pos (by omega)]
theorem NA {e:aP} (h:¬(e.least < 0\/(e.most≠-1/\e.most < e.least))) (h2:¬(64 < (e.lead.length:Int)\/e.least < (e.lead.length:Int)\/64 < (e.trail.length:Int)\/e.least < (e.trail.length:Int))):0=kz e:=by unfold kz;rw [if_neg h,if_neg (by omega)]
def meets (a b:Int × Int):Bool:=(decide (a.2=-1) || decide (b.1<=a.2)) && (decide (b.2=-1) || decide (a.1<=b.2))
theorem C0 {e:aP} (h:kz e=0):e.most=-1\/0<=e.most:=by
 have a1:¬(e.least < 0\/(e.most≠-1/\e.most < e.least)):=fun hc=>by rw [← G7 hc] at h;exact absurd h (by decide)
 omega
theorem IQ {a1 a2 b1 b2:Int} (ha:a2=-1\/0<=a2) (hb:b2=-1\/0<=b2):meets (a1,a2) (b1,b2)=((decide (a2 < 0) || decide (b1<=a2)) && (decide (b2 < 0) || decide (a1<=b2))):=by
 have e1:decide (a2=-1)=decide (a2 < 0):=decide_eq_decide.2 (by omega)
 have e2:decide (b2=-1)=decide (b2 < 0):=decide_eq_decide.2 (by omega)
 unfold meets
 rw [e1,e2]
theorem He {e:aP} (h:kz e=0) (n:Nat):meets (e.least,e.most) ((n:Int),(n:Int))=(decide (e.least<=(n:Int)) && (decide (e.most < 0) || decide ((n:Int)<=e.most))):=by
 have e1:decide (e.most=-1)=decide (e.most < 0):=decide_eq_decide.2 (by have:=C0 h;omega)
 have e2:decide ((n:Int)=-1)=false:=decide_eq_false (by omega)
 unfold meets
 simp only [e1,e2,Bool.false_or]
 exact Bool.and_comm _ _
def snd (x:aK):Int:=
 if 96 < (x.first.size:Int)\/96 < (x.last.size:Int) then 4
 else if x.exact=true then (if x.last≠x.first\/x.least≠x.first.size\/x.most≠x.first.size then 3 else 0)
 else if x.least < (x.first.size:Int)+x.last.size\/1000 < x.least\/x.most≠-1 then 2 else 0
theorem CQ {a b:Nat} (ha:¬96 < (a:Int)) (hb:¬96 < (b:Int)):IntKind.i64.wrap ((a:Int)+(b:Int))=(a:Int)+(b:Int):=wrap64 (by omega) (by omega)
theorem CU {a b:Nat} (h:(b:Int)<=(a:Int)) (ha:a<=300):IntKind.i64.wrap ((a:Int) - (b:Int))=((a - b:Nat):Int):=by rw [wrap64 (by omega) (by omega)];omega
theorem G8 {x:aK} (h:96 < (x.first.size:Int)\/96 < (x.last.size:Int)):4=snd x:=by unfold snd;rw [if_pos h]
theorem EK {x:aK} (h:¬(96 < (x.first.size:Int)\/96 < (x.last.size:Int))) (he:x.exact=true) (h2:x.last≠x.first\/x.least≠x.first.size\/x.most≠x.first.size):3=snd x:=by unfold snd;rw [if_neg h,if_pos he,if_pos h2]
theorem NB {x:aK} (h:¬(96 < (x.first.size:Int)\/96 < (x.last.size:Int))) (he:x.exact=true) (h1:x.last=x.first) (h2:x.least=x.first.size) (h3:x.most=x.first.size):0=snd x:=by
 unfold snd;rw [if_neg h,if_pos he,if_neg (fun h=>h.elim (fun h=>h h1) fun h=>h.elim (fun h=>h h2) fun h=>h h3)]
theorem CR {x:aK} (h:¬(96 < (x.first.size:Int)\/96 < (x.last.size:Int))) (he:x.exact=false) (h2:x.least < (x.first.size:Int)+x.last.size\/1000 < x.least\/x.most≠-1):2=snd x:=by unfold snd;rw [if_neg h,if_neg (by rw [he];decide),if_pos h2]
theorem L9 {x:aK} (h:¬(96 < (x.first.size:Int)\/96 < (x.last.size:Int))) (he:x.exact=false) (h1:¬x.least < (x.first.size:Int)+x.last.size) (h2:¬1000 < x.least) (h3:x.most=-1):0=snd x:=by
 unfold snd;rw [if_neg h,if_neg (by rw [he];decide),if_neg (fun h=>h.elim h1 fun h=>h.elim h2 fun h=>h h3)]
def KZ (s:ByteArray):aK × Int:=if 96 < (s.size:Int) then (⟨⟨#[]⟩,⟨#[]⟩,false,0,0⟩,4) else (⟨s,s,true,s.size,s.size⟩,0)
def CS (a b:ByteArray):Bool:=decide (b.size<=a.size) && decide (a.extract 0 b.size=b)
def CT (a b:ByteArray):Bool:=decide (b.size<=a.size) && decide (a.extract (a.size - b.size) a.size=b)
def j7 (x:aK) (s:ByteArray):Bool × Int:=
 if snd x≠0 then (false,snd x) else if x.exact=true then (decide (s=x.first),0) else (decide (x.least<=(s.size:Int)) && (CS s x.first && CT s x.last),0)
def iC (s:ByteArray):List Int:=s.data.toList.map fun b=>(b.toNat:Int)
def IP (l:List bR) (b:List Int):Bool:=(l.zip b).all fun p=>hasB p.1 p.2
theorem oB (s:ByteArray):(iC s).length=s.size:=by unfold iC;rw [List.length_map];rfl
theorem ym {s:ByteArray} {i:Int} (h0:0<=i) (h1:i < (s.size:Int)):(iC s)[i.toNat]?=some (kP s i):=by
 have h:i.toNat < s.data.toList.length:=by have e:s.data.toList.length=s.size:=rfl;omega
 simp only [iC,kP,List.getElem?_map,List.getElem?_eq_getElem h,Option.map_some,List.getD_eq_getElem?_getD,Option.getD_some]
theorem AY (s:ByteArray) (i:Int):0<=kP s i/\kP s i < 256:=by
 unfold kP
 have:=UInt8.toNat_lt (s.data.toList.getD i.toNat 0)
 omega
theorem AZ (s:ByteArray):∀x∈iC s,0<=x/\x < 256:=fun x hx=>by
 obtain ⟨y,_,rfl⟩:=List.mem_map.1 hx
 have:=UInt8.toNat_lt y
 omega
def yo (e:aP) (a b:ByteArray):Bool:=IP e.lead (iC a) && IP e.trail (iC b).reverse
def As (e:aP) (s:ByteArray):Bool × Int:=if kz e≠0 then (false,kz e) else (meets (e.least,e.most) ((s.size:Int),(s.size:Int)) && yo e s s,0)
def ud (e:aP) (x:aK):Bool × Int:=if kz e≠0 then (false,kz e) else if snd x≠0 then (false,snd x) else (meets (e.least,e.most) (x.least,x.most) && yo e x.first x.last,0)
theorem IS {x:aK} (h:snd x=0):x.most=-1\/0<=x.most:=by
 by_cases h1:96 < (x.first.size:Int)\/96 < (x.last.size:Int)
 ·rw [← G8 h1] at h;exact absurd h (by decide)
 ·cases he:x.exact with
  |true=>
   by_cases h2:x.last≠x.first\/x.least≠x.first.size\/x.most≠x.first.size
   ·rw [← EK h1 he h2] at h;exact absurd h (by decide)
   ·omega
  |false=>
   by_cases h2:x.least < (x.first.size:Int)+x.last.size\/1000 < x.least\/x.most≠-1
   ·rw [← CR h1 he h2] at h;exact absurd h (by decide)
   ·omega
theorem G9 {x:aK} (h:snd x=0) (he:x.exact=false):(x.first.size:Int)+x.last.size<=x.least:=by
 by_cases h1:96 < (x.first.size:Int)\/96 < (x.last.size:Int)
 ·rw [← G8 h1] at h;exact absurd h (by decide)
 ·by_cases h2:x.least < (x.first.size:Int)+x.last.size\/1000 < x.least\/x.most≠-1
  ·rw [← CR h1 he h2] at h;exact absurd h (by decide)
  ·omega
def yp (a b:List bR):Bool:=decide (a=b)
def F8 (a b:aP):Bool:=yp a.lead b.lead && (yp a.trail b.trail && (decide (a.least=b.least) && decide (a.most=b.most)))
theorem ER (e:aP):F8 e e=true:=by simp [F8,yp]
theorem Hf {α:Type} {a b:List α} {n:Nat} (h:a.take n=b.take n) {x:α} (hx:a[n]?=some x) (hy:b[n]?=some x):a.take (n+1)=b.take (n+1):=by
 rw [List.take_add_one,List.take_add_one,h,hx,hy]
def BY (l:List Int) (i:Nat) (m:List Int):Prop:=m.length=l.length/\∀k,k < l.length->m[k]?=if k < i\/l.length - i<=k then l[l.length - 1 - k]? else l[k]?
theorem BY.start (l:List Int):BY l 0 l:=⟨rfl,fun k hk=>by rw [if_neg (by omega)]⟩
theorem BY.done {l m:List Int} {i:Nat} (h:BY l i m) (hi:l.length<=2 * i+1):m=l.reverse:=by
 refine List.ext_getElem? fun k=>?_
 by_cases hk:k < l.length
 ·rw [h.2 k hk,List.getElem?_reverse hk]
  by_cases hc:k < i\/l.length - i<=k
  ·rw [if_pos hc]
  ·rw [if_neg hc]
   have:l.length - 1 - k=k:=by omega
   rw [this]
 ·rw [List.getElem?_eq_none (by rw [h.1];omega),List.getElem?_eq_none (by rw [List.length_reverse];omega)]
theorem BY.step {l m:List Int} {i:Nat} (h:BY l i m) (hi:2 * i+1 < l.length) {x y:Int} (hx:m[l.length - 1 - i]?=some x) (hy:m[i]?=some y):BY l (i+1) ((m.set i x).set (l.length - 1 - i) y):=by
 refine ⟨by rw [List.length_set,List.length_set];exact h.1,fun k hk=>?_⟩
 have hm:=h.1
 rw [List.getElem?_set,List.getElem?_set,List.length_set]
 by_cases e1:l.length - 1 - i=k
 ·rw [if_pos e1,if_pos (by omega),if_pos (by omega)]
  rw [h.2 i (by omega),if_neg (by omega)] at hy
  rw [← hy]
  congr 1
  omega
 ·rw [if_neg e1]
  by_cases e2:i=k
  ·rw [if_pos e2,if_pos (by omega),if_pos (by omega)]
   rw [h.2 _ (by omega),if_neg (by omega)] at hx
   rw [← hx]
   congr 1
   omega
  ·rw [if_neg e2,h.2 k hk]
   by_cases c:k < i\/l.length - i<=k
   ·rw [if_pos c,if_pos (by omega)]
   ·rw [if_neg c,if_neg (by omega)]
end Go.Ev
