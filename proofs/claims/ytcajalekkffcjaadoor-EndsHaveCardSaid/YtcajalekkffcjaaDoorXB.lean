/- Symbolic values: calls, regions, loops. -/
import Derived.Test.YtcajalekkffcjaaDoorXA
import Derived.Test.YtcajalekkffcjaaDoorEvD
namespace Go.Ev
open Go
variable {T:TypeId->Type} {P:Program} {E:gR T} {W:Rec} {B B':Nat->Prop} {ρ ρ' ρ'':Loc} {ec ec' ec'':EC T} {h h' h'':H} {O O':Nat->Prop}
def dY (ρ:Loc) (env:Env T) (id b:Nat):Prop:=∃s o q n off,cW env id=some (s,o)/\o.own=true/\ρ id=some (q,n)/\q.p=some ⟨b,off,none⟩
theorem au {b:Nat}:eZ ρ ec.env b↔∃id,dY ρ ec.env id b:=
 ⟨fun ⟨id,s,o,q,n,off,h⟩=>⟨id,s,o,q,n,off,h⟩,fun ⟨id,s,o,q,n,off,h⟩=>⟨id,s,o,q,n,off,h⟩⟩
theorem aE.gj (I:aE E B ρ ec h) {i j b:Nat} (h1:dY ρ ec.env i b) (h2:dY ρ ec.env j b):i=j:=by
 obtain ⟨s,o,q,n,off,a1,a2,a3,a4⟩:=h1
 obtain ⟨s',o',q',n',off',b1,b2,b3,b4⟩:=h2
 exact I.AR i j s s' o o' q q' n n' b off off' a1 b1 a2 b2 a3 b3 a4 b4
def BC (B:Nat->Prop) (ρ:Loc) (env:Env T) (L V:List Nat) (b:Nat):Prop:=B b\/∃id,id ∉ L/\id ∉ V/\dY ρ env id b
def ρC (ρ:Loc) (L:List Nat) (k:Nat):Option (SV × Nat):=match L[k]? with
 |some id=>(match ρ id with |some (q,n)=>some (q,if n=0 then 0 else 1) |none=>none)
 |none=>none
theorem u7 {l:List (Ob T)} {k:Nat}:cW (cO l).env k=(l[k]?).map fun o=>(0,o):=by
 show cW (xj 0 l) k=_
 rw [v7,if_pos (Nat.zero_le _),Nat.sub_zero]
theorem j6 {l:List (Ob T)} {out:List (Ch T)} {new:List (Ob T)} {k:Nat}:cW (fQ l out new).env k=if k < l.length then (match l[k]?,bU out k with
  |some o,.same=>some (0,o)
  |some _,.gP o'=>some (0,o')
  |_,_=>none) else (new[k - l.length]?).map fun o=>(0,o):=by
 show cW (pq 0 l out++xj l.length new) k=_
 rw [zT,zU,v7,if_pos (Nat.zero_le _),Nat.sub_zero]
 by_cases hk:k < l.length
 ·rw [if_pos hk,if_neg (by omega),List.getElem?_eq_getElem hk]
  cases bU out k<;>rfl
 ·rw [if_neg hk,if_pos (by omega),List.getElem?_eq_none (by omega)]
theorem u9 {o:Ob T} {mi:Nat->Option Nat} {mo:Nat->Nat->X T} {n:Nat}:((o.kN mi mo).cB n).own=o.own:=by cases o<;>rfl
theorem lU.v8 {id:Nat} {o:Ob T} (ho:lU E h O ρ id o):(o.vn=0/\∀mi mo n,((o.kN mi mo).cB n).vn=0)\/(0 < o.vn/\∀mi mo n,((o.kN mi mo).cB n).vn=n):=by
 cases o with
 |box cs=>exact .inl ⟨rfl,fun _ _ _=>rfl⟩
 |os v e l=>obtain ⟨q,rows,h1,h0,_⟩:=ho;exact .inr ⟨h0,fun _ _ _=>rfl⟩
 |mp es=>exact .inl ⟨rfl,fun _ _ _=>rfl⟩
 |fz v e l=>obtain ⟨q,h1,h0,_⟩:=ho;exact .inr ⟨h0,fun _ _ _=>rfl⟩
 |fb cs=>exact .inl ⟨rfl,fun _ _ _=>rfl⟩
section
variable (hE:bM E) (I:aE E B ρ ec h) {L V:List Nat} (hL:L.Nodup) (hLV:∀i∈V,i ∉ L) {Ein:List (Ob T)} (hin:Ks ec L L=some Ein)
include I hL hin
theorem vc {k id:Nat} (hk:L[k]?=some id):∃o q,ec.get id=some o/\Ein[k]?=some ((o.kN (fun i=>dL L i 0) (BG ec L)).cB 1)/\ρ id=some (q,o.vn)/\ρC ρ L k=some (q,((o.kN (fun i=>dL L i 0) (BG ec L)).cB 1).vn):=by
 have _:=hL
 obtain ⟨o,h1,h2⟩:=(gy hin).2 k id hk
 obtain ⟨s,hf⟩:=aB h1
 obtain ⟨q,hq⟩:=lU.loc (I.obj id s o hf).2
 refine ⟨o,q,h1,h2,hq,?_⟩
 simp only [ρC,hk,hq]
 rcases lU.v8 (I.obj id s o hf).2 with ⟨e1,e2⟩ |⟨e1,e2⟩
 ·rw [if_pos e1,e2]
 ·rw [if_neg (by omega),e2]
theorem jy {k b:Nat}:dY (ρC ρ L) (cO Ein).env k b↔∃id,L[k]?=some id/\dY ρ ec.env id b:=by
 constructor
 ·rintro ⟨s,o,q,n,off,h1,h2,h3,h4⟩
  rw [u7,Option.map_eq_some_iff] at h1
  obtain ⟨o',h1,e⟩:=h1
  cases e
  have hk:k < L.length:=by rw [← (gy hin).1];exact (List.getElem?_eq_some_iff.1 h1).1
  obtain ⟨o1,q1,g1,g2,g3,g4⟩:=vc I hL hin (List.getElem?_eq_getElem hk)
  rw [g2] at h1;cases h1
  rw [g4] at h3;cases h3
  obtain ⟨s1,hf⟩:=aB g1
  rw [u9] at h2
  exact ⟨_,List.getElem?_eq_getElem hk,s1,o1,_,_,off,hf,h2,g3,h4⟩
 ·rintro ⟨id,hk,s,o,q,n,off,h1,h2,h3,h4⟩
  obtain ⟨o1,q1,g1,g2,g3,g4⟩:=vc I hL hin hk
  obtain ⟨s1,hf⟩:=aB g1
  rw [h1] at hf;cases hf
  rw [h3] at g3;cases g3
  exact ⟨0,_,_,_,off,by rw [u7,g2];rfl,by rw [u9];exact h2,g4,h4⟩
theorem FT:∀b,ak (BC B ρ ec.env L V) (ρC ρ L) (cO Ein).env b->ak B ρ ec.env b:=by
 rintro b ((h1 |⟨id,_,_,h1⟩) |h1)
 ·exact .inl h1
 ·exact .inr (au.2 ⟨id,h1⟩)
 ·obtain ⟨k,h1⟩:=au.1 h1
  obtain ⟨id,_,h2⟩:=(jy I hL hin).1 h1
  exact .inr (au.2 ⟨id,h2⟩)
theorem O3 {id k:Nat} {q:SV} (hk:dL L id 0=some k) (hq:ρ id=some (q,0)):ρC ρ L k=some (q,0):=by
 have _:=I
 have _:=hL
 have _:=hin
 simp only [ρC,eR hk,hq];rfl
theorem Ku {O':Nat->Prop} {id cB:Nat} {w:Value} (d:D (T:=T) E h O ρ (.os id cB) w):D E h O' (ρC ρ L) (BG ec L id cB) w:=by
 have _:=hL
 have _:=hin
 unfold BG
 split
 ·rename_i k v e l hk hg
  split
  ·rename_i hb
   have:=Nat.eq_of_beq_eq_true hb
   subst this
   obtain ⟨s,hf⟩:=aB hg
   obtain ⟨_,q,rows,h1,h0,_⟩:=I.obj id s _ hf
   cases d with
   |os _ _ n q1 q0 hq hle hw=>
    rw [h1] at hq;cases hq
    rw [hw rfl]
    exact .os k 1 1 q q (by simp only [ρC,eR hk,h1];rw [if_neg (by omega)]) (Nat.le_refl _) fun _=>rfl
  ·exact .bad _
 ·rename_i k v e l hk hg
  split
  ·rename_i hb
   have:=Nat.eq_of_beq_eq_true hb
   subst this
   obtain ⟨s,hf⟩:=aB hg
   obtain ⟨_,q,h1,h0,_⟩:=I.obj id s _ hf
   cases d with
   |os _ _ n q1 q0 hq hle hw=>
    rw [h1] at hq;cases hq
    rw [hw rfl]
    exact .os k 1 1 q q (by simp only [ρC,eR hk,h1];rw [if_neg (by omega)]) (Nat.le_refl _) fun _=>rfl
  ·exact .bad _
 ·exact .bad _
include hLV in
include hE in
theorem FU:aE E (BC B ρ ec.env L V) (ρC ρ L) (cO Ein) h:=by
 have _:=hLV
 have hsub:=FT (V:=V) I hL hin
 have hlen:=(gy hin).1
 refine ⟨I.top,fun k hk=>?_,by show 0 < Ein.length+2;omega,fun k q n hq=>?_,fun b hb=>I.jX (hsub b (.inl hb)),fun b hb hc=>?_,?_,?_,?_⟩
 ·have hk':Ein.length+2<=k:=hk
  simp only [ρC]
  rw [List.getElem?_eq_none (by omega)]
 ·simp only [ρC] at hq
  split at hq
  ·split at hq
   ·cases hq
    show _ < Ein.length+2
    split<;>omega
   ·cases hq
  ·cases hq
 ·obtain ⟨k,hb⟩:=au.1 hb
  obtain ⟨id,hk,hb⟩:=(jy I hL hin).1 hb
  rcases hc with hc |⟨j,h1,h2,h3⟩
  ·exact I.jA b (au.2 ⟨id,hb⟩) hc
  ·exact h1 ((I.gj h3 hb)▸List.mem_of_getElem? hk)
 ·intro i j s s' o o' q q' n n' b f f' h1 h2 h3 h4 h5 h6 h7 h8
  obtain ⟨id,g1,g2⟩:=(jy I hL hin).1 ⟨s,o,q,n,f,h1,h3,h5,h7⟩
  obtain ⟨jd,k1,k2⟩:=(jy I hL hin).1 ⟨s',o',q',n',f',h2,h4,h6,h8⟩
  have e:=I.gj g2 k2
  subst e
  have e1:=rR (k0:=0) hL g1
  have e2:=rR (k0:=0) hL k1
  rw [e1] at e2
  simpa using e2
 ·intro k s o hf
  rw [u7,Option.map_eq_some_iff] at hf
  obtain ⟨o',hf,e⟩:=hf
  cases e
  refine ⟨by show 0 < Ein.length+2;omega,?_⟩
  have hk:k < L.length:=by rw [← hlen];exact (List.getElem?_eq_some_iff.1 hf).1
  obtain ⟨o1,q1,g1,g2,g3,g4⟩:=vc I hL hin (List.getElem?_eq_getElem hk)
  rw [g2] at hf;cases hf
  obtain ⟨s1,hf1⟩:=aB g1
  exact lU.kN hE (fun id k q h1 h2=>O3 I hL hin h1 h2) (fun id cB w d=>Ku I hL hin d) hsub (I.obj _ s1 o1 hf1).2 (by omega) g3 g4
 ·intro g cs hg
  obtain ⟨h1,vs,h2,h3⟩:=I.dU g cs hg
  exact ⟨fun hc=>h1 (hsub g hc),vs,h2,⟨h3.1,fun j x w k1 k2=>(h3.2 j x w k1 k2).gN hE (hE.dU g cs hg x (List.mem_of_getElem? k1)) hsub⟩⟩
end
end Go.Ev
namespace Go.Ev
open Go
variable {T:TypeId->Type} {P:Program} {E:gR T} {W:Rec} {B B':Nat->Prop} {ρ ρ1:Loc} {ec ec' ec'':EC T} {h h' h'':H} {O O':Nat->Prop}
def ρO (ec:EC T) (ρ ρ1:Loc) (L:List Nat) (out:List (Ch T)) (new:List (Ob T)) (id:Nat):Option (SV × Nat):=
 if id < ec.cnt then (match dL L id 0 with
  |some k=>(match bU out k with
   | .gP o=>(match ρ1 k with |some (q,n)=>some (q,if n=0 then 0 else oq ec o id) |none=>ρ id)
   |_=>ρ id)
  |none=>ρ id)
 else if id - ec.cnt < new.length then (match ρ1 (L.length+(id - ec.cnt)) with
  |some (q,n)=>some (q,if n=0 then 0 else 1)
  |none=>none) else none
theorem Ek (ec:EC T) (L:List Nat) (out:List (Ch T)) (new:List (Ob T)):∀{M:List Nat} {k0:Nat} {env:Env T} {id:Nat},M.Nodup->cW (Kv ec L out new k0 M env) id=match dL M id k0 with
  |some k=>(match bU out k with
   | .same=>cW env id
   | .gP o=>some (ec.cnt,(o.kN (tP L out new ec.cnt) (xU ec L out new)).cB (oq ec o id))
   | .gone=>none)
  |none=>cW env id
 | [],_,_,_,_=>rfl
 |x :: r,k0,env,id,hn=>by
  obtain ⟨h1,h2⟩:=List.nodup_cons.1 hn
  rw [Kv,Ek ec L out new h2]
  by_cases hx:x=id
  ·subst hx
   have hnone:dL r x (k0+1)=none:=by
    cases hi:dL r x (k0+1) with
    |none=>rfl
    |some k=>exact absurd (List.mem_of_getElem? (vZ hi).2) h1
   simp only [hnone,dL,Nat.beq_refl,cond_true]
   cases bU out k0 with
   |same=>rfl
   |gP o=>simp only;rw [gx,if_pos rfl]
   |gone=>simp only;exact lK _ _
  ·have hb:Nat.beq x id=false:=by
    cases hb:Nat.beq x id with
    |false=>rfl
    |true=>exact absurd (Nat.eq_of_beq_eq_true hb) hx
   have he:cW (match bU out k0 with
     | .same=>env
     | .gP o=>(x,ec.cnt,(o.kN (tP L out new ec.cnt) (xU ec L out new)).cB (oq ec o x)) :: del env x
     | .gone=>del env x) id=cW env id:=by
    cases bU out k0 with
    |same=>rfl
    |gP o=>simp only;rw [gx,if_neg hx,j0 _ (Ne.symm hx)]
    |gone=>simp only;exact j0 _ (Ne.symm hx)
   simp only [dL,hb,cond_false]
   cases dL r id (k0+1) with
   |none=>exact he
   |some k=>
    dsimp only
    generalize bU out k=cc
    cases cc with
    |same=>exact he
    |gP o=>rfl
    |gone=>rfl
theorem El (ec:EC T) (L:List Nat) (out:List (Ch T)) (new:List (Ob T)):∀{m:List (Ob T)} {k0:Nat} {env:Env T} {id:Nat},cW (Ip ec L out new k0 m env) id=if ec.cnt+k0<=id/\id < ec.cnt+k0+m.length then (m[id - (ec.cnt+k0)]?).map (fun o=>(ec.cnt,(o.kN (tP L out new ec.cnt) (xU ec L out new)).cB 1)) else cW env id
 | [],k0,env,id=>by
   rw [Ip,if_neg (by simp)]
 |o :: r,k0,env,id=>by
  rw [Ip,El ec L out new,gx]
  by_cases h1:ec.cnt+k0=id
  ·subst h1
   rw [if_neg (by omega),if_pos rfl,if_pos (by simp),Nat.sub_self];rfl
  ·rw [if_neg h1]
   by_cases h2:ec.cnt+k0<=id/\id < ec.cnt+k0+(o :: r).length
   ·rw [if_pos h2,if_pos (by simp only [List.length_cons] at h2;omega)]
    have:id - (ec.cnt+k0)=(id - (ec.cnt+(k0+1)))+1:=by omega
    rw [this];rfl
   ·rw [if_neg h2,if_neg (by simp only [List.length_cons] at h2;omega)]
theorem pz {o:Ob T} {u:Nat} (h:mP o=some u):o.vn=u:=by cases o<;>simp_all [mP,Ob.vn]
theorem xk (ec:EC T) (o:Ob T) (id:Nat):(mP o=some 1/\∃x v,ec.get id=some x/\mP x=some v/\oq ec o id=v)\/oq ec o id=ec.cnt:=by
 unfold oq
 split
 ·rename_i u hu
  cases hb:Nat.beq u 1 with
  |true=>
   rw [Nat.eq_of_beq_eq_true hb] at hu
   simp only [cond_true]
   split
   ·rename_i x hx
    split
    ·rename_i v hv;exact .inl ⟨hu,x,v,hx,hv,rfl⟩
    ·exact .inr rfl
   ·exact .inr rfl
  |false=>exact .inr rfl
 ·exact .inr rfl
theorem Em (I:aE E B ρ ec h) (o:Ob T) (id:Nat):0 < oq ec o id/\oq ec o id<=ec.cnt:=by
 rcases xk ec o id with ⟨_,x,v,h1,h2,h3⟩ |h1
 ·obtain ⟨s,hf⟩:=aB h1
  obtain ⟨g1,g2⟩:=I.obj id s x hf
  obtain ⟨q,hq⟩:=lU.loc g2
  have h4:=pz h2
  have:=I.lG _ _ _ hq
  rw [h3]
  refine ⟨?_,by omega⟩
  cases x with
  |os=>obtain ⟨_,_,_,h0,_⟩:=g2;simp only [Ob.vn] at h4;omega
  |fz=>obtain ⟨_,_,h0,_⟩:=g2;simp only [Ob.vn] at h4;omega
  |_=>cases h2
 ·rw [h1];exact ⟨I.pos,Nat.le_refl _⟩
inductive Src (ec:EC T) (L:List Nat) (out:List (Ch T)) (new:List (Ob T)) (id s:Nat) (o:Ob T):Prop where
 |old (hf:cW ec.env id=some (s,o)) (hk:dL L id 0=none\/∃k,dL L id 0=some k/\bU out k= .same)
 |gP (k:Nat) (o':Ob T) (hk:dL L id 0=some k) (hc:bU out k= .gP o') (hs:s=ec.cnt) (ho:o=(o'.kN (tP L out new ec.cnt) (xU ec L out new)).cB (oq ec o' id))
 |new (j:Nat) (o':Ob T) (hj:new[j]?=some o') (hid:id=ec.cnt+j) (hs:s=ec.cnt) (ho:o=(o'.kN (tP L out new ec.cnt) (xU ec L out new)).cB 1)
theorem zV {L:List Nat} (hL:L.Nodup) {out:List (Ch T)} {new:List (Ob T)} {id s:Nat} {o:Ob T} (hf:cW (q7 ec L out new).env id=some (s,o)):Src ec L out new id s o:=by
 have hf:cW (Ip ec L out new 0 new (Kv ec L out new 0 L ec.env)) id=some (s,o):=hf
 rw [El] at hf
 split at hf
 ·rename_i hid
  rw [Option.map_eq_some_iff] at hf
  obtain ⟨o',h1,h2⟩:=hf
  cases h2
  exact .new (id - ec.cnt) o' (by simpa using h1) (by omega) rfl rfl
 ·rw [Ek ec L out new hL] at hf
  split at hf
  ·rename_i k hk
   split at hf
   ·rename_i hc
    exact .old hf (.inr ⟨k,hk,hc⟩)
   ·rename_i o' hc
    cases hf
    exact .gP k o' hk hc rfl rfl
   ·cases hf
  ·rename_i hk
   exact .old hf (.inl hk)
section
variable (hE:bM E) (I:aE E B ρ ec h) {L V:List Nat} (hL:L.Nodup) (hLV:∀i∈V,i ∉ L) {Ein:List (Ob T)} (hin:Ks ec L L=some Ein)
 {out:List (Ch T)} {new:List (Ob T)} {res:X T} {v:Value} (I1:aE E (BC B ρ ec.env L V) ρ1 (fQ Ein out new) h')
 (hn:h.next<=h'.next) (hfr:∀b,b < h.next->¬zW (ρC ρ L) Ein out b->h'.get b=h.get b) (hown:∀b,b < h.next->eZ ρ1 (fQ Ein out new).env b->eZ (ρC ρ L) (cO Ein).env b)
 (hloc:∀k q m,k < Ein.length->ρC ρ L k=some (q,m)->match bU out k with
      | .same=>ρ1 k=some (q,m)
      | .gP o=>(m=0->ρ1 k=some (q,0))/\(m≠0->∃q' m',ρ1 k=some (q',m')/\m'≠0)/\(mP o=some 1->ρ1 k=some (q,m))
      | .gone=>True)
 (hV:V=[]\/(res.jJ=false/\out=[]/\new=[]))
include I hL hin
theorem v9 {b:Nat} (ht:zW (ρC ρ L) Ein out b):∃id k,dL L id 0=some k/\(match bU out k with | .same=>False |_=>True)/\dY ρ ec.env id b:=by
 obtain ⟨k,s,o,q,n,off,h0,h1⟩:=ht
 obtain ⟨id,h2,h3⟩:=(jy I hL hin).1 ⟨s,o,q,n,off,h1⟩
 exact ⟨id,k,by simpa using rR (k0:=0) hL h2,h0,h3⟩
include hfr in
theorem GU {id b:Nat} (hb:dY ρ ec.env id b) (hk:dL L id 0=none\/∃k,dL L id 0=some k/\bU out k= .same):h'.get b=h.get b:=by
 refine hfr b (I.jX (.inr (au.2 ⟨id,hb⟩))) fun ht=>?_
 obtain ⟨id',k,h1,h2,h3⟩:=v9 I hL hin ht
 have e:=I.gj hb h3
 subst e
 rcases hk with hk |⟨k',hk,hc⟩
 ·rw [hk] at h1;cases h1
 ·rw [hk] at h1;cases h1
  rw [hc] at h2;exact h2
theorem tQ {id:Nat} (hid:id < ec.cnt) (hk:dL L id 0=none\/∃k,dL L id 0=some k/\(bU out k= .same\/bU out k= .gone)):ρO ec ρ ρ1 L out new id=ρ id:=by
 have _:=I
 have _:=hL
 have _:=hin
 unfold ρO
 rw [if_pos hid]
 rcases hk with hk |⟨k,hk,hc |hc⟩
 ·simp only [hk]
 ·simp only [hk,hc]
 ·simp only [hk,hc]
include I1 in
theorem zX {id k:Nat} {o':Ob T} (hid:id < ec.cnt) (hk:dL L id 0=some k) (hc:bU out k= .gP o'):∃q,ρ1 k=some (q,o'.vn)/\ρO ec ρ ρ1 L out new id=some (q,if o'.vn=0 then 0 else oq ec o' id)/\lU E h' (ak (BC B ρ ec.env L V) ρ1 (fQ Ein out new).env) ρ1 k o':=by
 have _:=I
 have _:=hL
 have hkl:k < Ein.length:=by rw [(gy hin).1];exact (List.getElem?_eq_some_iff.1 (eR hk)).1
 have hf:cW (fQ Ein out new).env k=some (0,o'):=by
  rw [j6,if_pos hkl,List.getElem?_eq_getElem hkl,hc]
 have ho:=(I1.obj k 0 o' hf).2
 obtain ⟨q,hq⟩:=ho.loc
 refine ⟨q,hq,?_,ho⟩
 unfold ρO
 rw [if_pos hid]
 simp only [hk,hc,hq]
include I1 in
theorem CB {j:Nat} {o':Ob T} (hj:new[j]?=some o'):∃q,ρ1 (L.length+j)=some (q,o'.vn)/\ρO ec ρ ρ1 L out new (ec.cnt+j)=some (q,if o'.vn=0 then 0 else 1)/\lU E h' (ak (BC B ρ ec.env L V) ρ1 (fQ Ein out new).env) ρ1 (L.length+j) o':=by
 have _:=I
 have _:=hL
 have hlen:=(gy hin).1
 have hjl:=(List.getElem?_eq_some_iff.1 hj).1
 have hf:cW (fQ Ein out new).env (L.length+j)=some (0,o'):=by
  rw [j6,if_neg (by omega),hlen]
  have:L.length+j - L.length=j:=by omega
  rw [this,hj];rfl
 have ho:=(I1.obj _ 0 o' hf).2
 obtain ⟨q,hq⟩:=ho.loc
 refine ⟨q,hq,?_,ho⟩
 unfold ρO
 rw [if_neg (by omega)]
 have:ec.cnt+j - ec.cnt=j:=by omega
 rw [this,if_pos hjl,hq]
include I1 in
theorem Kw {id b:Nat} (hb:dY (ρO ec ρ ρ1 L out new) (q7 ec L out new).env id b):(dY ρ ec.env id b/\(dL L id 0=none\/∃k,dL L id 0=some k/\bU out k= .same))\/
  (∃k o',(dL L id 0=some k/\bU out k= .gP o'\/id=ec.cnt+(k - L.length)/\L.length<=k/\new[k - L.length]?=some o')/\dY ρ1 (fQ Ein out new).env k b):=by
 obtain ⟨s,o,q,n,off,h1,h2,h3,h4⟩:=hb
 have hlen:=(gy hin).1
 cases zV hL h1 with
 |old hf hk=>
  left
  rw [tQ I hL hin (I.jz hf) (by rcases hk with hk |⟨k,hk,hc⟩;exact .inl hk;exact .inr ⟨k,hk,.inl hc⟩)] at h3
  exact ⟨⟨s,o,q,n,off,hf,h2,h3,h4⟩,hk⟩
 |gP k o' hk hc hs ho=>
  right
  have hid:id < ec.cnt:=by
   obtain ⟨o2,q2,g1,_⟩:=vc I hL hin (eR hk)
   obtain ⟨s2,hf2⟩:=aB g1
   exact I.jz hf2
  obtain ⟨q',e1,e2,e3⟩:=zX I hL hin I1 hid hk hc
  rw [e2] at h3;cases h3
  have hkl:k < Ein.length:=by rw [hlen];exact (List.getElem?_eq_some_iff.1 (eR hk)).1
  refine ⟨k,o',.inl ⟨hk,hc⟩,0,o',_,_,off,?_,by rw [ho,u9] at h2;exact h2,e1,h4⟩
  rw [j6,if_pos hkl,List.getElem?_eq_getElem hkl,hc]
 |new j o' hj hid hs ho=>
  right
  subst hid
  obtain ⟨q',e1,e2,e3⟩:=CB I hL hin I1 hj
  rw [e2] at h3;cases h3
  have e5:L.length+j - L.length=j:=by omega
  refine ⟨L.length+j,o',.inr ⟨by rw [e5],by omega,by rw [e5];exact hj⟩,0,o',_,_,off,?_,by rw [ho,u9] at h2;exact h2,e1,h4⟩
  rw [j6,if_neg (by omega),hlen,e5,hj];rfl
end
end Go.Ev
namespace Go.Ev
open Go
variable {T:TypeId->Type} {P:Program} {E:gR T} {W:Rec} {B B':Nat->Prop} {ρ ρ1:Loc} {ec ec' ec'':EC T} {h h' h'':H} {O O':Nat->Prop}
theorem gO {a b:Nat}:Nat.blt a b=true↔a < b:=by rw [Nat.blt_eq]
section
variable (hE:bM E) (I:aE E B ρ ec h) {L V:List Nat} (hL:L.Nodup) (hLV:∀i∈V,i ∉ L) {Ein:List (Ob T)} (hin:Ks ec L L=some Ein)
 {out:List (Ch T)} {new:List (Ob T)} {res:X T} {v:Value} (I1:aE E (BC B ρ ec.env L V) ρ1 (fQ Ein out new) h')
 (hn:h.next<=h'.next) (hfr:∀b,b < h.next->¬zW (ρC ρ L) Ein out b->h'.get b=h.get b) (hown:∀b,b < h.next->eZ ρ1 (fQ Ein out new).env b->eZ (ρC ρ L) (cO Ein).env b)
 (hloc:∀k q m,k < Ein.length->ρC ρ L k=some (q,m)->match bU out k with
      | .same=>ρ1 k=some (q,m)
      | .gP o=>(m=0->ρ1 k=some (q,0))/\(m≠0->∃q' m',ρ1 k=some (q',m')/\m'≠0)/\(mP o=some 1->ρ1 k=some (q,m))
      | .gone=>True)
 (hV:V=[]\/(res.jJ=false/\out=[]/\new=[]))
include I hL hin I1
include hloc in
theorem En {id k b:Nat} (hb:dY ρ ec.env id b) (hk:dL L id 0=some k) (hc:bU out k= .same):dY ρ1 (fQ Ein out new).env k b:=by
 have _:=I1
 obtain ⟨s,o,q,n,off,h1,h2,h3,h4⟩:=hb
 obtain ⟨o1,q1,g1,g2,g3,g4⟩:=vc I hL hin (eR hk)
 obtain ⟨s1,hf⟩:=aB g1
 rw [h1] at hf;cases hf
 rw [h3] at g3;cases g3
 have hkl:=(List.getElem?_eq_some_iff.1 g2).1
 have hl:=hloc k _ _ hkl g4
 rw [hc] at hl
 exact ⟨0,(o.kN (fun i=>dL L i 0) (BG ec L)).cB 1,_,_,off,by rw [j6,if_pos hkl,g2,hc],by rw [u9];exact h2,hl,h4⟩
include hloc hV in
theorem zY (hne:V=[]) {b:Nat} (hb:ak B (ρO ec ρ ρ1 L out new) (q7 ec L out new).env b):ak (BC B ρ ec.env L V) ρ1 (fQ Ein out new).env b:=by
 have _:=hV
 rcases hb with hb |hb
 ·exact .inl (.inl hb)
 ·obtain ⟨id,hb⟩:=(au (ec:=q7 ec L out new)).1 hb
  rcases Kw I hL hin I1 hb with ⟨h1,h2 |⟨k,h2,h3⟩⟩ |⟨k,o',_,h2⟩
  ·exact .inl (.inr ⟨id,v5 h2,by rw [hne];simp,h1⟩)
  ·exact .inr (au.2 ⟨k,En I hL hin I1 hloc h1 h2 h3⟩)
  ·exact .inr (au.2 ⟨k,h2⟩)
include hloc in
theorem Kx {id k:Nat} {q:SV} (hi:tP L out new ec.cnt k=some id) (hq:ρ1 k=some (q,0)):ρO ec ρ ρ1 L out new id=some (q,0):=by
 have hlen:=(gy hin).1
 unfold tP at hi
 cases hb:Nat.blt k L.length with
 |true=>
  rw [hb] at hi
  simp only [cond_true] at hi
  have hkl:k < L.length:=gO.1 hb
  have hLk:=List.getElem?_eq_getElem hkl
  obtain ⟨o1,q1,g1,g2,g3,g4⟩:=vc I hL hin hLk
  obtain ⟨s1,hf⟩:=aB g1
  have hid:=I.jz hf
  have hidx:=rR (k0:=0) hL hLk
  rw [Nat.zero_add] at hidx
  have hl:=hloc k _ _ (by omega) g4
  cases hc:bU out k with
  |same=>
   rw [hc] at hi hl
   simp only at hi hl
   rw [hLk] at hi;cases hi
   rw [tQ I hL hin hid (.inr ⟨k,hidx,.inl hc⟩),g3]
   rw [hl] at hq
   rcases lU.v8 (I.obj _ _ _ hf).2 with ⟨e1,e2⟩ |⟨e1,e2⟩
   ·rw [e2] at hq;cases hq;rw [e1]
   ·rw [e2] at hq;cases hq
  |gP o'=>
   rw [hc] at hi
   simp only at hi
   rw [hLk] at hi;cases hi
   obtain ⟨q',e1,e2,e3⟩:=zX I hL hin I1 hid hidx hc
   rw [hq] at e1
   simp only [Option.some.injEq,Prod.mk.injEq] at e1
   rw [e2,if_pos e1.2.symm,e1.1]
  |gone=>rw [hc] at hi;cases hi
 |false=>
  rw [hb] at hi
  simp only [cond_false] at hi
  have hkl:L.length<=k:=by
   rcases Nat.lt_or_ge k L.length with h1 |h1
   ·rw [gO.2 h1] at hb;cases hb
   ·exact h1
  cases hb2:Nat.blt k (L.length+new.length) with
  |true=>
   rw [hb2] at hi
   simp only [cond_true,Option.some.injEq] at hi
   subst hi
   have hlt:k < L.length+new.length:=gO.1 hb2
   obtain ⟨q',e1,e2,e3⟩:=CB I hL hin I1 (List.getElem?_eq_getElem (show k - L.length < new.length by omega))
   have e5:L.length+(k - L.length)=k:=by omega
   rw [e5,hq] at e1
   simp only [Option.some.injEq,Prod.mk.injEq] at e1
   rw [e2,if_pos e1.2.symm,e1.1]
  |false=>rw [hb2] at hi;cases hi
include hloc in
theorem FV {O':Nat->Prop} {k cB:Nat} {w:Value} (d:D (T:=T) E h' O ρ1 (.os k cB) w):D E h' O' (ρO ec ρ ρ1 L out new) (xU ec L out new k cB) w:=by
 have hlen:=(gy hin).1
 unfold xU
 split
 ·rename_i id hi hok
  unfold tP at hi
  unfold Mu at hok
  cases d with
  |os _ _ n q q0 hq hle hw=>
  cases hb:Nat.blt k L.length with
  |true=>
   rw [hb] at hi hok
   simp only [cond_true] at hi
   have hkl:k < L.length:=gO.1 hb
   have hLk:=List.getElem?_eq_getElem hkl
   obtain ⟨o1,q1,g1,g2,g3,g4⟩:=vc I hL hin hLk
   obtain ⟨s1,hf⟩:=aB g1
   have hid:=I.jz hf
   have hidx:=rR (k0:=0) hL hLk
   rw [Nat.zero_add] at hidx
   have hl:=hloc k _ _ (by omega) g4
   cases hc:bU out k with
   |same=>
    rw [hc] at hi hl hok
    simp only at hi hl hok
    rw [hLk] at hi;cases hi
    have hv:=Nat.eq_of_beq_eq_true hok
    rw [hl] at hq
    rcases lU.v8 (I.obj _ _ _ hf).2 with ⟨e1,e2⟩ |⟨e1,e2⟩
    ·rw [e2] at hq;cases hq;omega
    ·rw [e2] at hq;cases hq
     have:FW ec L out k=o1.vn:=by
      unfold FW
      rw [hc,hLk]
      simp only [g1]
      cases o1<;>rfl
     rw [hw hv,this]
     exact .os _ _ o1.vn q q (by rw [tQ I hL hin hid (.inr ⟨k,hidx,.inl hc⟩)];exact g3) (Nat.le_refl _) fun _=>rfl
   |gP o'=>
    rw [hc] at hi hok
    simp only at hi hok
    rw [hLk] at hi;cases hi
    split at hok
    ·rename_i u hu
     have hv:=Nat.eq_of_beq_eq_true hok
     obtain ⟨q',e1,e2,e3⟩:=zX I hL hin I1 hid hidx hc
     rw [hq] at e1
     simp only [Option.some.injEq,Prod.mk.injEq] at e1
     obtain ⟨rfl,e1⟩:=e1
     have hun:=pz hu
     have hpos:o'.vn≠0:=by
      cases o' with
      |os=>obtain ⟨_,_,_,h0,_⟩:=e3;simp only [Ob.vn];omega
      |fz=>obtain ⟨_,_,h0,_⟩:=e3;simp only [Ob.vn];omega
      |_=>cases hu
     rw [if_neg hpos] at e2
     have:FW ec L out k=oq ec o' L[k]:=by
      unfold FW
      rw [hc,hLk]
     rw [hw (by omega),this]
     exact .os _ _ _ q q e2 (Nat.le_refl _) fun _=>rfl
    ·cases hok
   |gone=>rw [hc] at hi;cases hi
  |false=>
   rw [hb] at hi hok
   simp only [cond_false] at hi
   have hkl:L.length<=k:=by
    rcases Nat.lt_or_ge k L.length with h1 |h1
    ·rw [gO.2 h1] at hb;cases hb
    ·exact h1
   cases hb2:Nat.blt k (L.length+new.length) with
   |true=>
    rw [hb2] at hi
    simp only [cond_true,Option.some.injEq] at hi
    subst hi
    have hlt:k < L.length+new.length:=gO.1 hb2
    have hnj:=List.getElem?_eq_getElem (show k - L.length < new.length by omega)
    obtain ⟨q',e1,e2,e3⟩:=CB I hL hin I1 hnj
    have e5:L.length+(k - L.length)=k:=by omega
    rw [e5,hq] at e1
    have hok2:(match new[k - L.length]? with |some o=>(match mP o with |some u=>Nat.beq cB u |none=>false) |none=>false)=true:=by
     cases hcc:bU out k<;>rw [hcc] at hok<;>exact hok
    rw [hnj] at hok2
    simp only at hok2
    split at hok2
    ·rename_i u hu
     have hv:=Nat.eq_of_beq_eq_true hok2
     have hun:=pz hu
     rw [e5] at e3
     have hpos:(new[k - L.length]).vn≠0:=by
      generalize new[k - L.length]=oo at hu e3
      cases oo with
      |os=>obtain ⟨_,_,_,h0,_⟩:=e3;simp only [Ob.vn];omega
      |fz=>obtain ⟨_,_,h0,_⟩:=e3;simp only [Ob.vn];omega
      |_=>cases hu
     rw [if_neg hpos] at e2
     have:FW ec L out k=1:=by
      unfold FW
      rw [List.getElem?_eq_none hkl]
      cases bU out k<;>rfl
     simp only [Option.some.injEq,Prod.mk.injEq] at e1
     rw [hw (by omega),this]
     exact .os _ _ 1 q q (by rw [e2,e1.1]) (Nat.le_refl _) fun _=>rfl
    ·cases hok2
   |false=>rw [hb2] at hi;cases hi
 ·exact .bad _
include hE hLV hn hfr hown hloc hV in
theorem GV (ht:nB h'):q9 E B ρ ec h (ρO ec ρ ρ1 L out new) (q7 ec L out new) h':=by
 have _:=hLV
 have hlen:=(gy hin).1
 have hcnt:(q7 ec L out new).cnt=ec.cnt+new.length+1:=rfl
 have hVne:(∃k o',bU out k= .gP o')\/(∃(j:Nat) (o':Ob T),new[j]?=some o')->V=[]:=by
  rintro hx
  rcases hV with hV |⟨_,e1,e2⟩
  ·exact hV
  ·rcases hx with ⟨k,o',hx⟩ |⟨j,o',hx⟩
   ·rw [e1] at hx;simp [bU] at hx
   ·rw [e2] at hx;simp at hx
 have hkeepB:∀b,B b->h'.get b=h.get b:=fun b hb=>hfr b (I.base b hb) fun htc=>by
  obtain ⟨id,k,_,_,h3⟩:=v9 I hL hin htc
  exact I.jA b (au.2 ⟨id,h3⟩) hb
 have hmv:Mv h h' (ak B ρ ec.env) (ak B (ρO ec ρ ρ1 L out new) (q7 ec L out new).env) ρ (ρO ec ρ ρ1 L out new):=by
  refine ⟨hn,fun b hb ho=>hfr b hb fun htc=>ho (.inr ?_),fun b hb ho=>?_,fun id q n hq=>?_⟩
  ·obtain ⟨id,k,_,_,h3⟩:=v9 I hL hin htc
   exact au.2 ⟨id,h3⟩
  ·rcases ho with ho |ho
   ·exact .inl ho
   ·obtain ⟨id,ho⟩:=(au (ec:=q7 ec L out new)).1 ho
    rcases Kw I hL hin I1 ho with ⟨h1,_⟩ |⟨k,o',_,h2⟩
    ·exact .inr (au.2 ⟨id,h1⟩)
    ·obtain ⟨k',h3⟩:=(au (ec:=cO Ein)).1 (hown b hb (au.2 ⟨k,h2⟩))
     obtain ⟨id',_,h4⟩:=(jy I hL hin).1 h3
     exact .inr (au.2 ⟨id',h4⟩)
  ·have hid:id < ec.cnt:=by
    rcases Nat.lt_or_ge id ec.cnt with h1 |h1
    ·exact h1
    ·rw [I.dom id h1] at hq;cases hq
   cases hk:dL L id 0 with
   |none=>exact ⟨q,n,by rw [tQ I hL hin hid (.inl hk)];exact hq,Nat.le_refl _,fun _=>rfl,fun e=>e⟩
   |some k=>
    cases hc:bU out k with
    |same=>exact ⟨q,n,by rw [tQ I hL hin hid (.inr ⟨k,hk,.inl hc⟩)];exact hq,Nat.le_refl _,fun _=>rfl,fun e=>e⟩
    |gone=>exact ⟨q,n,by rw [tQ I hL hin hid (.inr ⟨k,hk,.inr hc⟩)];exact hq,Nat.le_refl _,fun _=>rfl,fun e=>e⟩
    |gP o'=>
     obtain ⟨q',e1,e2,e3⟩:=zX I hL hin I1 hid hk hc
     obtain ⟨o1,q1,g1,g2,g3,g4⟩:=vc I hL hin (eR hk)
     obtain ⟨s1,hf⟩:=aB g1
     have hl:=hloc k _ _ (List.getElem?_eq_some_iff.1 g2).1 g4
     rw [hc] at hl
     rw [hq] at g3;cases g3
     have hver:=I.lG _ _ _ hq
     rcases lU.v8 (I.obj _ _ _ hf).2 with ⟨k1,k2⟩ |⟨k1,k2⟩
     ·have h0:=hl.1 (k2 _ _ _)
      rw [h0] at e1
      simp only [Option.some.injEq,Prod.mk.injEq] at e1
      rw [← e1.1,if_pos e1.2.symm] at e2
      exact ⟨_,_,e2,by omega,fun _=>rfl,fun e=>rfl⟩
     ·obtain ⟨q2,m2,h0,h00⟩:=hl.2.1 (by rw [k2];omega)
      have h1s:=hl.2.2
      rw [k2] at h1s
      rw [h0] at e1 h1s
      simp only [Option.some.injEq,Prod.mk.injEq] at e1
      rw [if_neg (by omega)] at e2
      rcases xk ec o' id with ⟨c1,x,v,c2,c3,c4⟩ |c1
      ·have hx:=h1s c1
       simp only [Option.some.injEq,Prod.mk.injEq] at hx
       have hxv:=pz c3
       rw [c2] at g1;cases g1
       refine ⟨_,_,e2,by omega,fun e=>?_,fun e=>by omega⟩
       rw [← e1.1,hx.1]
      ·exact ⟨_,_,e2,by omega,fun e=>by omega,fun e=>by omega⟩
 have hdist:∀i j b,dY (ρO ec ρ ρ1 L out new) (q7 ec L out new).env i b->dY (ρO ec ρ ρ1 L out new) (q7 ec L out new).env j b->i=j:=by
  have mix:∀i b k o',dY ρ ec.env i b->(dL L i 0=none\/∃k,dL L i 0=some k/\bU out k= .same)->dY ρ1 (fQ Ein out new).env k b->(bU out k= .gP o'/\k < L.length\/L.length<=k/\new[k - L.length]?=some o')->False:=by
   intro i b k o' h1 h2 h3 h4
   have hVe:V=[]:=hVne (by rcases h4 with h4 |h4;exact .inl ⟨k,o',h4.1⟩;exact .inr ⟨_,o',h4.2⟩)
   rcases h2 with h2 |⟨k',h2,h5⟩
   ·exact I1.jA b (au.2 ⟨k,h3⟩) (.inr ⟨i,v5 h2,by rw [hVe];simp,h1⟩)
   ·have h6:=En I hL hin I1 hloc h1 h2 h5
    have e:=I1.gj h3 h6
    subst e
    rcases h4 with h4 |h4
    ·rw [h5] at h4;cases h4.1
    ·have:=(List.getElem?_eq_some_iff.1 (eR h2)).1;omega
  have src:∀i k o',(dL L i 0=some k/\bU out k= .gP o'\/i=ec.cnt+(k - L.length)/\L.length<=k/\new[k - L.length]?=some o')->(bU out k= .gP o'/\k < L.length\/L.length<=k/\new[k - L.length]?=some o'):=by
   rintro i k o' (⟨h1,h2⟩ |⟨_,h2,h3⟩)
   ·exact .inl ⟨h2,(List.getElem?_eq_some_iff.1 (eR h1)).1⟩
   ·exact .inr ⟨h2,h3⟩
  intro i j b hi hj
  rcases Kw I hL hin I1 hi with ⟨h1,h2⟩ |⟨k,o',h1,h2⟩<;>rcases Kw I hL hin I1 hj with ⟨h3,h4⟩ |⟨k',o'',h3,h4⟩
  ·exact I.gj h1 h3
  ·exact (mix i b k' o'' h1 h2 h4 (src j k' o'' h3)).elim
  ·exact (mix j b k o' h3 h4 h2 (src i k o' h1)).elim
  ·have e:=I1.gj h2 h4
   subst e
   rcases h1 with ⟨h1,h5⟩ |⟨h1,h5,_⟩<;>rcases h3 with ⟨h3,h6⟩ |⟨h3,h6,_⟩
   ·have a:=eR h1
    rw [eR h3] at a
    exact (Option.some.inj a).symm
   ·have:=(List.getElem?_eq_some_iff.1 (eR h1)).1;omega
   ·have:=(List.getElem?_eq_some_iff.1 (eR h3)).1;omega
   ·rw [h1,h3]
 have hI2:∀id k q,tP L out new ec.cnt id=some k->ρ1 id=some (q,0)->ρO ec ρ ρ1 L out new k=some (q,0):=fun id k q h1 h2=>Kx I hL hin I1 hloc h1 h2
 refine ⟨⟨ht,fun id hid=>?_,by omega,fun id q n hq=>?_,fun b hb=>Nat.lt_of_lt_of_le (I.base b hb) hn,fun b hb hB=>?_,?_,?_,?_⟩,⟨hmv,by omega,?_⟩,hkeepB,rfl,rfl⟩
 ·unfold ρO
  rw [if_neg (by omega),if_neg (by omega)]
 ·unfold ρO at hq
  split at hq
  ·rename_i hid
   split at hq
   ·split at hq
    ·rename_i o _
     split at hq
     ·cases hq
      have:=(Em I o id).2
      split<;>omega
     ·have:=I.lG _ _ _ hq;omega
    ·have:=I.lG _ _ _ hq;omega
   ·have:=I.lG _ _ _ hq;omega
  ·split at hq
   ·split at hq
    ·cases hq
     have:=I.pos
     split<;>omega
    ·cases hq
   ·cases hq
 ·obtain ⟨id,hb⟩:=(au (ec:=q7 ec L out new)).1 hb
  rcases Kw I hL hin I1 hb with ⟨h1,_⟩ |⟨k,o',_,h2⟩
  ·exact I.jA b (au.2 ⟨id,h1⟩) hB
  ·exact I1.jA b (au.2 ⟨k,h2⟩) (.inl hB)
 ·intro i j s s' o o' q q' n n' b f f' h1 h2 h3 h4 h5 h6 h7 h8
  exact hdist i j b ⟨s,o,q,n,f,h1,h3,h5,h7⟩ ⟨s',o',q',n',f',h2,h4,h6,h8⟩
 ·intro id s o hf
  cases zV hL hf with
  |old hf' hk=>
   obtain ⟨g1,g2⟩:=I.obj id s o hf'
   refine ⟨by omega,g2.keep hmv (fun q hq=>by rw [tQ I hL hin (I.jz hf') (by rcases hk with hk |⟨k,hk,hc⟩;exact .inl hk;exact .inr ⟨k,hk,.inl hc⟩)];exact hq) fun q b off ho hq hb=>?_⟩
   exact GU I hL hin hfr ⟨s,o,q,_,off,hf',ho,hq,hb⟩ hk
  |gP k o' hk hc hs ho=>
   have hid:id < ec.cnt:=by
    obtain ⟨o2,q2,g1,_⟩:=vc I hL hin (eR hk)
    obtain ⟨s2,hf2⟩:=aB g1
    exact I.jz hf2
   obtain ⟨q',e1,e2,e3⟩:=zX I hL hin I1 hid hk hc
   refine ⟨by omega,?_⟩
   rw [ho]
   refine lU.kN hE hI2 (fun id cB w d=>FV I hL hin I1 hloc d) (fun b hb=>zY I hL hin I1 hloc hV (hVne (.inl ⟨k,o',hc⟩)) hb) e3 (Em I o' id).1 e1 ?_
   rw [e2]
   rcases lU.v8 e3 with ⟨k1,k2⟩ |⟨k1,k2⟩
   ·rw [if_pos k1,k2]
   ·rw [if_neg (by omega),k2]
  |new j o' hj hid hs ho=>
   subst hid
   obtain ⟨q',e1,e2,e3⟩:=CB I hL hin I1 hj
   refine ⟨by omega,?_⟩
   rw [ho]
   refine lU.kN hE hI2 (fun id cB w d=>FV I hL hin I1 hloc d) (fun b hb=>zY I hL hin I1 hloc hV (hVne (.inr ⟨j,o',hj⟩)) hb) e3 (by omega) e1 ?_
   rw [e2]
   rcases lU.v8 e3 with ⟨k1,k2⟩ |⟨k1,k2⟩
   ·rw [if_pos k1,k2]
   ·rw [if_neg (by omega),k2]
 ·intro g cs hg
  obtain ⟨g1,us,g2,g3⟩:=I.dU g cs hg
  exact ⟨(hmv.AW g2 g1).2,us,(hmv.AW g2 g1).1,g3.mv hmv⟩
 ·intro id s o hf hlt
  cases zV hL hf with
  |old hf' hk=>exact ⟨hf',fun q n b off hq hb ho=>GU I hL hin hfr ⟨s,o,q,n,off,hf',ho,hq,hb⟩ hk⟩
  |gP k o' hk hc hs ho=>omega
  |new j o' hj hid hs ho=>omega
end
theorem Ky (hE:bM E) (I:aE E B ρ ec h) {L V:List Nat} (hL:L.Nodup) (hLV:∀i∈V,i ∉ L) {Ein:List (Ob T)} (hin:Ks ec L L=some Ein) {f:X T} {args:List (X T)} {out:List (Ch T)} {new:List (Ob T)} {res:X T}
  (c:cC E W f Ein args res out new) {vf:Value} {vs:List Value} (df:D E h (ak (BC B ρ ec.env L V) (ρC ρ L) (cO Ein).env) (ρC ρ L) f vf) (da:DL E h (ak (BC B ρ ec.env L V) (ρC ρ L) (cO Ein).env) (ρC ρ L) args vs)
  (hV:V=[]\/(res.jJ=false/\out=[]/\new=[])):
  ∃v rc h' ρ',W.call vf vs .dF h=some (.ret v,rc,h')/\q9 E B ρ ec h ρ' (q7 ec L out new) h'/\D E h' (ak B ρ' (q7 ec L out new).env) ρ' (X.kN (tP L out new ec.cnt) (xU ec L out new) res) v:=by
 obtain ⟨v,rc,h',ρ1,h1,d1,I1,hn,hfr,hown,hloc⟩:=c h _ _ vf vs (FU hE I hL hLV hin) (fun k hk=>by simp only [ρC];rw [List.getElem?_eq_none (by rw [← (gy hin).1];exact hk)]) df da
 refine ⟨v,rc,h',ρO ec ρ ρ1 L out new,h1,GV hE I hL hLV hin I1 hn hfr hown hloc hV I1.top,?_⟩
 refine d1.kN hE (fun id k q h1 h2=>Kx I hL hin I1 hloc h1 h2) (fun id cB w d=>FV I hL hin I1 hloc d) ?_
 rcases hV with hV' |hV'
 ·exact .inl fun b hb=>zY (res:=res) I hL hin I1 hloc (.inl hV') hV' hb
 ·exact .inr hV'.1
theorem Iq (hE:bM E) (I:aE E B ρ ec h) {L V:List Nat} (hL:L.Nodup) (hLV:∀i∈V,i ∉ L) {Ein:List (Ob T)} (hin:Ks ec L L=some Ein) {f:X T} {args:List (X T)} {out:List (Ch T)} {new:List (Ob T)} {pv:Value}
  (c:Oa E W f Ein args pv out new) {vf:Value} {vs:List Value} (df:D E h (ak (BC B ρ ec.env L V) (ρC ρ L) (cO Ein).env) (ρC ρ L) f vf) (da:DL E h (ak (BC B ρ ec.env L V) (ρC ρ L) (cO Ein).env) (ρC ρ L) args vs)
  (hV:V=[]\/(out=[]/\new=[])):
  ∃rc h' ρ',W.call vf vs .dF h=some (.panic pv,rc,h')/\q9 E B ρ ec h ρ' (q7 ec L out new) h':=by
 obtain ⟨rc,h',ρ1,h1,I1,hn,hfr,hown,hloc⟩:=c h _ _ vf vs (FU hE I hL hLV hin) (fun k hk=>by simp only [ρC];rw [List.getElem?_eq_none (by rw [← (gy hin).1];exact hk)]) df da
 exact ⟨rc,h',ρO ec ρ ρ1 L out new,h1,GV (res:=.bad) hE I hL hLV hin I1 hn hfr hown hloc (hV.imp id fun x=>⟨rfl,x⟩) I1.top⟩
end Go.Ev
namespace Go.Ev
open Go
variable {T:TypeId->Type} {P:Program} {E:gR T} {W:Rec} {Γ:Hi T} {B B':Nat->Prop} {ρ ρ1 ρ':Loc} {ec ec' ec'':EC T} {h h' h'':H} {O O':Nat->Prop}
mutual
theorem D.view (I:aE E B ρ ec h) (hO:∀b,O' b->ak B ρ ec.env b):∀{x:X T} {w:Value},D E h (ak B ρ ec.env) ρ x w->(∀id∈X.seen ec x,∀b,dY ρ ec.env id b->¬O' b)->D E h O' ρ (x.view ec) w
 | .os id cB,w,d,hs=>by
   simp only [X.view]
   split
   ·rename_i u e l hg
    split
    ·rename_i hb
     have:=Nat.eq_of_beq_eq_true hb
     subst this
     obtain ⟨s,hf⟩:=aB hg
     obtain ⟨q,rows,h1,rfl,h2,h3,h4⟩:=oe I hf d
     refine .ro e l q rows h2.MP h3.len h4 (by rcases h2.2 with ⟨e1,_⟩ |⟨b,t,e1,_⟩<;>rw [e1]<;>simp) (fun b o hq hne=>?_) fun i a r g1 g2=>((h3.row i a r g1 g2).sub hO).2
     refine hs id ?_ b ⟨s,_,q,_,o,hf,rfl,h1,hq⟩
     simp only [X.seen,hg,List.mem_singleton]
    ·exact .bad _
   ·rename_i u e l hg
    split
    ·rename_i hb
     have:=Nat.eq_of_beq_eq_true hb
     subst this
     obtain ⟨s,hf⟩:=aB hg
     exact (Eg I hf d).sub hO
    ·exact .bad _
   ·exact .bad _
 | .agg l,w,d,hs=>by
   cases d with
   |agg _ vs hl hd=>
    have:=DL.view I hO (l:=l) (vs:=vs) ⟨hl,hd⟩ (by simpa [X.seen] using hs)
    exact .agg _ vs this.1 this.2
 | .gD l,w,d,hs=>by
   cases d with
   |gD _ vs hl hd=>
    have:=DL.view I hO (l:=l) (vs:=vs) ⟨hl,hd⟩ (by simpa [X.seen] using hs)
    exact .gD _ vs this.1 this.2
 | .o9 t x,w,d,hs=>by
   cases d with
   |o9 _ _ u hd=>exact .o9 t _ u (D.view I hO hd (by simpa [X.seen] using hs))
 | .v _,w,d,_=>d.sub hO
 | .op _,w,d,_=>d.sub hO
 | .ro _ _,w,d,_=>d.sub hO
 | .ptr _ _,w,d,_=>d.sub hO
 | .arr _ _ _ _ _,w,d,_=>d.sub hO
 | .ea _ _ _,w,d,_=>d.sub hO
 | .oa _ _ _ _ _,w,d,_=>d.sub hO
 | .gp _ _,w,d,_=>d.sub hO
 | .ga _ _ _ _ _,w,d,_=>d.sub hO
 | .fn _ _ _,w,d,_=>d.sub hO
 | .mp _,w,d,_=>d.sub hO
 | .ab _ _ _,w,d,_=>d.sub hO
 | .bad,w,d,_=>.bad _
theorem DL.view (I:aE E B ρ ec h) (hO:∀b,O' b->ak B ρ ec.env b):∀{l:List (X T)} {vs:List Value},DL E h (ak B ρ ec.env) ρ l vs->(∀id∈X.ot ec l,∀b,dY ρ ec.env id b->¬O' b)->DL E h O' ρ (X.xl ec l) vs
 | [],vs,d,_=>by
   have:vs=[]:=List.length_eq_zero_iff.1 d.1.symm
   subst this;exact .nil
 |x :: r,vs,d,hs=>by
  obtain ⟨w,us,rfl,d1,d2⟩:=d.cM
  simp only [X.ot,List.mem_append] at hs
  exact .cons (D.view I hO d1 fun id hi=>hs id (.inl hi)) (DL.view I hO d2 fun id hi=>hs id (.inr hi))
end
theorem zZ:∀{l:List Nat} {ec:EC T},aE E B ρ ec h->q9 E B ρ ec h ρ (Mw ec l) h/\(∀b,eZ ρ (Mw ec l).env b->eZ ρ ec.env b)/\∀id∈l,∀b,(∃v e r,ec.get id=some (.os v e r))->dY ρ ec.env id b->¬eZ ρ (Mw ec l).env b
 | [],ec,I=>⟨.refl I,fun _ hb=>hb,fun id hi=>by simp at hi⟩
 |i :: r,ec,I=>by
  simp only [Mw]
  split
  ·rename_i v e l hg
   obtain ⟨s,hf⟩:=aB hg
   have st:=I.freeze hf
   have hsub:∀id b,dY ρ (ec.put i (.fz v e l)).env id b->dY ρ ec.env id b/\id≠i:=by
    rintro id b ⟨s',o',q,n,off,h1,h2,h3⟩
    rw [iy] at h1
    split at h1
    ·cases h1;cases h2
    ·rename_i hne;exact ⟨⟨s',o',q,n,off,h1,h2,h3⟩,hne⟩
   obtain ⟨s1,s2,s3⟩:=zZ (l:=r) st.inv
   refine ⟨st.trans I s1,fun b hb=>?_,fun id hi b hos hb hc=>?_⟩
   ·obtain ⟨j,hj⟩:=(au (ec:=ec.put i (.fz v e l))).1 (s2 b hb)
    exact au.2 ⟨j,(hsub j b hj).1⟩
   ·by_cases he:id=i
    ·subst he
     obtain ⟨j,hj⟩:=(au (ec:=ec.put id (.fz v e l))).1 (s2 b hc)
     exact (hsub j b hj).2 (I.gj (hsub j b hj).1 hb)
    ·have hi':id∈r:=by
      rcases List.mem_cons.1 hi with h1 |h1
      ·exact absurd h1 he
      ·exact h1
     obtain ⟨v',e',l',hos⟩:=hos
     refine s3 id hi' b ⟨v',e',l',?_⟩ ?_ hc
     ·simp only [EC.get,iy,if_neg he];exact hos
     ·obtain ⟨s',o',q,n,off,h1,h2⟩:=hb
      exact ⟨s',o',q,n,off,by rw [iy,if_neg he];exact h1,h2⟩
  ·rename_i hne
   obtain ⟨s1,s2,s3⟩:=zZ (l:=r) I
   refine ⟨s1,s2,fun id hi b hos hb=>?_⟩
   rcases List.mem_cons.1 hi with h1 |h1
   ·subst h1
    obtain ⟨v,e,l,hos⟩:=hos
    exact absurd hos (hne v e l)
   ·exact s3 id h1 b hos hb
mutual
theorem GW (ec:EC T):∀{x:X T} {id:Nat},id∈X.seen ec x->∃v e r,ec.get id=some (.os v e r)
 | .os i cB,id,hi=>by
   simp only [X.seen] at hi
   split at hi
   ·rename_i v e l hg
    simp only [List.mem_singleton] at hi
    subst hi
    exact ⟨v,e,l,hg⟩
   ·simp at hi
 | .agg l,id,hi=>ve ec (by simpa [X.seen] using hi)
 | .gD l,id,hi=>ve ec (by simpa [X.seen] using hi)
 | .o9 t x,id,hi=>GW ec (x:=x) (by simpa [X.seen] using hi)
 | .v _,id,hi=>by simp [X.seen] at hi
 | .op _,id,hi=>by simp [X.seen] at hi
 | .ro _ _,id,hi=>by simp [X.seen] at hi
 | .ptr _ _,id,hi=>by simp [X.seen] at hi
 | .arr _ _ _ _ _,id,hi=>by simp [X.seen] at hi
 | .ea _ _ _,id,hi=>by simp [X.seen] at hi
 | .oa _ _ _ _ _,id,hi=>by simp [X.seen] at hi
 | .gp _ _,id,hi=>by simp [X.seen] at hi
 | .ga _ _ _ _ _,id,hi=>by simp [X.seen] at hi
 | .fn _ _ _,id,hi=>by simp [X.seen] at hi
 | .mp _,id,hi=>by simp [X.seen] at hi
 | .ab _ _ _,id,hi=>by simp [X.seen] at hi
 | .bad,id,hi=>by simp [X.seen] at hi
theorem ve (ec:EC T):∀{l:List (X T)} {id:Nat},id∈X.ot ec l->∃v e r,ec.get id=some (.os v e r)
 | [],id,hi=>by simp [X.ot] at hi
 |x :: r,id,hi=>by
  simp only [X.ot,List.mem_append] at hi
  rcases hi with hi |hi
  ·exact GW ec hi
  ·exact ve ec hi
end
theorem rS {α:Type} {l:List α} (h:we l=true):l=[]:=by cases l<;>simp_all [we]
structure KX (E:gR T) (W:Rec) (Γ:Hi T) (Y:Nat->Bool->(Nat->Prop)->(Nat->Prop)->H->Prop):Prop where
 xV:∀k fin B1 C1 C2 h1 h2,Y k fin B1 C1 h1->nB h2->h1.next<=h2.next->(∀b,b < h1.next->¬C1 b->h2.get b=h1.get b)->(∀b,C2 b->b < h2.next/\(b < h1.next->C1 b))->Y k fin B1 C2 h2
 step:match Γ.y with
  |some s=>∀k x vs B1 C h1,s.xs[k]?=some x->Y k false B1 C h1->nB h1->(∀b,B1 b\/C b->b < h1.next)->(∀b,C b->¬B1 b)->DL E h1 (fun b=>B1 b\/C b) (fun _=>none) (s.enc x) vs->
   ∃b rc h2 B2,W.call Γ.yv vs .dF h1=some (.ret (.bool b),rc,h2)/\Y (bif b then k+1 else k) (!b) B2 C h2/\nB h2/\h1.next<=h2.next/\(∀i,i < h1.next->¬B1 i->h2.get i=h1.get i)/\
    (∀i,B2 i->i < h2.next/\(i < h1.next->B1 i))
  |none=>True
 row:match Γ.y with
  |some s=>∀x,∀y∈s.enc x,y.row=true
  |none=>True
structure GS (E:gR T) (Γ:Hi T) (Y:Nat->Bool->(Nat->Prop)->(Nat->Prop)->H->Prop) (B:Nat->Prop) (ρ:Loc) (ec:EC T) (h:H) (B':Nat->Prop) (ρ':Loc) (ec':EC T) (h':H):Prop where
 inv:aE E B' ρ' ec' h'
 ext:Ext B ρ ec h B' ρ' ec' h'
 y:Y ec'.k ec'.fin B' (eZ ρ' ec'.env) h'
 kp:Γ.y.isNone=true->(∀b,B b->B' b)/\(∀b,B' b->b < h.next->B b)/\∀b,B b->h'.get b=h.get b
theorem GS.refl {Y:Nat->Bool->(Nat->Prop)->(Nat->Prop)->H->Prop} (I:aE E B ρ ec h) (y:Y ec.k ec.fin B (eZ ρ ec.env) h):GS E Γ Y B ρ ec h B ρ ec h:=⟨I,Ext.refl,y,fun _=>⟨fun _ h=>h,fun _ h _=>h,fun _ _=>rfl⟩⟩
theorem GS.trans {Y:Nat->Bool->(Nat->Prop)->(Nat->Prop)->H->Prop} {B'':Nat->Prop} {ρ'':Loc} (I:aE E B ρ ec h) (a:GS E Γ Y B ρ ec h B' ρ' ec' h') (b:GS E Γ Y B' ρ' ec' h' B'' ρ'' ec'' h''):GS E Γ Y B ρ ec h B'' ρ'' ec'' h'':=
 ⟨b.inv,a.ext.trans I a.inv b.ext,b.y,fun hy=>⟨fun c hc=>(b.kp hy).1 c ((a.kp hy).1 c hc),fun c hc hlt=>(a.kp hy).2.1 c ((b.kp hy).2.1 c hc (Nat.lt_of_lt_of_le hlt a.ext.mv.next)) hlt,fun c hc=>((b.kp hy).2.2 c ((a.kp hy).1 c hc)).trans ((a.kp hy).2.2 c hc)⟩⟩
theorem q9.gs {Y:Nat->Bool->(Nat->Prop)->(Nat->Prop)->H->Prop} (hy:KX E W Γ Y) (st:q9 E B ρ ec h ρ' ec' h') (y:Y ec.k ec.fin B (eZ ρ ec.env) h):GS E Γ Y B ρ ec h B ρ' ec' h':=
 ⟨st.inv,st.ext,by
  rw [st.k,st.fin]
  refine hy.xV _ _ _ _ _ _ _ y st.inv.top st.ext.mv.next (fun b hb hc=>?_) (fun b hb=>⟨st.inv.jX (.inr hb),fun hlt=>?_⟩)
  ·by_cases hB:B b
   ·exact st.keep b hB
   ·exact st.ext.mv.get b hb fun ho=>ho.elim hB hc
  ·rcases st.ext.mv.own b hlt (.inr hb) with h1 |h1
   ·exact absurd h1 (st.inv.jA b hb)
   ·exact h1,fun _=>⟨fun _ h=>h,fun _ h _=>h,st.keep⟩⟩
end Go.Ev
namespace Go.Ev
open Go
variable {T:TypeId->Type} {P:Program} {E:gR T} {W:Rec} {Γ:Hi T} {Y:Nat->Bool->(Nat->Prop)->(Nat->Prop)->H->Prop} {B B':Nat->Prop} {ρ ρ1 ρ':Loc} {ec ec' ec'':EC T} {h h' h'':H} {O O':Nat->Prop}
theorem aE.yield (I:aE E B ρ ec h) {B2:Nat->Prop} {h2:H} {k:Nat} {fin:Bool} (ht:nB h2) (hn:h.next<=h2.next) (hg:∀i,i < h.next->¬B i->h2.get i=h.get i) (hB:∀i,B2 i->i < h2.next/\(i < h.next->B i)):
  aE E B2 ρ ⟨ec.env,ec.cnt,k,fin⟩ h2/\Ext B ρ ec h B2 ρ ⟨ec.env,ec.cnt,k,fin⟩ h2:=by
 have hown:∀id s o q n b off,cW ec.env id=some (s,o)->o.own=true->ρ id=some (q,n)->q.p=some ⟨b,off,none⟩->h2.get b=h.get b:=fun id s o q n b off h1 h2' h3 h4=>
  hg b (I.rf h1 h2' h3 h4) (I.jA b ⟨id,s,o,q,n,off,h1,h2',h3,h4⟩)
 have hmv:Mv h h2 (ak B ρ ec.env) (ak B2 ρ ec.env) ρ ρ:=⟨hn,fun b hb ho=>hg b hb fun hc=>ho (.inl hc),fun b hb ho=>by
  rcases ho with ho |ho
  ·exact .inl ((hB b ho).2 hb)
  ·exact .inr ho,fun id q n hq=>⟨q,n,hq,Nat.le_refl _,fun _=>rfl,fun e=>e⟩⟩
 refine ⟨⟨ht,I.dom,I.pos,I.lG,fun b hb=>(hB b hb).1,fun b hb hc=>?_,I.AR,fun id s o hf=>?_,fun g cs hg'=>?_⟩,hmv,Nat.le_refl _,fun id s o hf _=>⟨hf,fun q n b off hq hb ho=>hown id s o q n b off hf ho hq hb⟩⟩
 ·exact I.jA b hb ((hB b hc).2 (I.jX (.inr hb)))
 ·obtain ⟨g1,g2⟩:=I.obj id s o hf
  exact ⟨g1,g2.keep hmv (fun q hq=>hq) fun q b off ho hq hb=>hown id s o q _ b off hf ho hq hb⟩
 ·obtain ⟨g1,us,g2,g3⟩:=I.dU g cs hg'
  exact ⟨(hmv.AW g2 g1).2,us,(hmv.AW g2 g1).1,g3.mv hmv⟩
theorem z0:∀{l:List Nat} {ec:EC T},aE E B ρ ec h->q9 E B ρ ec h ρ (Kz ec l) h/\(∀id cs,(ec.get id=some (.fb cs)->(Kz ec l).get id=some (.fb cs))/\(id∈l->ec.get id=some (.box cs)->(Kz ec l).get id=some (.fb cs)))
 | [],ec,I=>⟨.refl I,fun id cs=>⟨fun hg=>hg,fun hi=>by simp at hi⟩⟩
 |i :: r,ec,I=>by
  simp only [Kz]
  split
  ·rename_i c hg
   obtain ⟨s,hf⟩:=aB hg
   have st:=I.LP hf
   obtain ⟨s1,s2⟩:=z0 (l:=r) st.inv
   have hput:∀id,(ec.put i (.fb c)).get id=if id=i then some (.fb c) else ec.get id:=fun id=>by
    simp only [EC.get,iy]
    split<;>rfl
   refine ⟨st.trans I s1,fun id cs=>⟨fun hg2=>(s2 id cs).1 ?_,fun hi hg2=>?_⟩⟩
   ·rw [hput]
    split
    ·rename_i he;subst he;rw [hg] at hg2;cases hg2
    ·exact hg2
   ·by_cases he:id=i
    ·subst he
     rw [hg] at hg2;cases hg2
     exact (s2 id c).1 (by rw [hput,if_pos rfl])
    ·refine (s2 id cs).2 ?_ (by rw [hput,if_neg he];exact hg2)
     rcases List.mem_cons.1 hi with h1 |h1
     ·exact absurd h1 he
     ·exact h1
  ·rename_i hne
   obtain ⟨s1,s2⟩:=z0 (l:=r) I
   refine ⟨s1,fun id cs=>⟨(s2 id cs).1,fun hi hg=>?_⟩⟩
   rcases List.mem_cons.1 hi with h1 |h1
   ·subst h1;exact absurd hg (hne cs)
   ·exact (s2 id cs).2 h1 hg
theorem tR:∀{caps:List (X T)} {css:List (List (X T))} {ids:List Nat},z6 ec caps=some (css,ids)->css.length=ids.length/\caps=ids.map (fun i=>.ptr i 0)/\∀(j:Nat) (id:Nat) (cs:List (X T)),ids[j]?=some id->css[j]?=some cs->ec.get id=some (.box cs)\/ec.get id=some (.fb cs)
 | [],css,ids,hc=>by
   simp only [z6,Option.some.injEq,Prod.mk.injEq] at hc
   obtain ⟨rfl,rfl⟩:=hc
   exact ⟨rfl,rfl,fun j id cs h1=>by simp at h1⟩
 |x :: r,css,ids,hc=>by
  unfold z6 at hc
  split at hc
  ·cases ‹x :: r=[]›
  ·rename_i id r' heq
   cases heq
   split at hc
   ·rename_i cs l m hg hr
    cases hc
    obtain ⟨g1,g2,g3⟩:=tR hr
    refine ⟨by simp [g1],by rw [g2];rfl,fun j i c h1 h2=>?_⟩
    cases j with
    |zero=>simp at h1 h2;subst h1;subst h2;exact .inl hg
    |succ j=>simp at h1 h2;exact g3 j i c h1 h2
   ·rename_i cs l m hg hr
    cases hc
    obtain ⟨g1,g2,g3⟩:=tR hr
    refine ⟨by simp [g1],by rw [g2];rfl,fun j i c h1 h2=>?_⟩
    cases j with
    |zero=>simp at h1 h2;subst h1;subst h2;exact .inr hg
    |succ j=>simp at h1 h2;exact g3 j i c h1 h2
   ·cases hc
  ·cases hc
theorem KA:∀{ids:List Nat} {vs:List Value},DL E h O ρ (ids.map fun i=>(.ptr i 0:X T)) vs->∃bs:List Nat,vs=bs.map (fun b=>.pointer (some ⟨b,0,none⟩))/\ids.length=bs.length/\∀(j id b:Nat),ids[j]?=some id->bs[j]?=some b->∃q,ρ id=some (q,0)/\q.p=some ⟨b,0,none⟩
 | [],vs,d=>⟨[],by have:=d.1;simpa using this.symm,rfl,fun j id b h1=>by simp at h1⟩
 |i :: r,vs,d=>by
  obtain ⟨w,us,rfl,d1,d2⟩:=DL.cM (x:=.ptr i 0) (l:=r.map fun i=>(.ptr i 0:X T)) d
  obtain ⟨bs,rfl,g1,g2⟩:=KA d2
  cases d1 with
  |ptr _ _ b q hq hb=>
   refine ⟨b :: bs,rfl,by simp [g1],fun j id c h1 h2=>?_⟩
   cases j with
   |zero=>simp at h1 h2;subst h1;subst h2;exact ⟨q,hq,hb⟩
   |succ j=>simp at h1 h2;exact g2 j id c h1 h2
theorem GX (I:aE E B ρ ec h) {caps:List (X T)} {css:List (List (X T))} {ids:List Nat} (hc:z6 ec caps=some (css,ids)) {vs:List Value} (d:DL E h (ak B ρ ec.env) ρ caps vs):
  q9 E B ρ ec h ρ (Kz ec ids) h/\∃bs:List Nat,vs=bs.map (fun b=>.pointer (some ⟨b,0,none⟩))/\css.length=bs.length/\∀(j:Nat) (cs:List (X T)) (b:Nat),css[j]?=some cs->bs[j]?=some b->AM E h (ak B ρ (Kz ec ids).env) ρ cs b:=by
 obtain ⟨g1,rfl,g3⟩:=tR hc
 obtain ⟨s1,s2⟩:=z0 (l:=ids) I
 obtain ⟨bs,e1,e2,e3⟩:=KA d
 refine ⟨s1,bs,e1,by rw [g1,e2],fun j cs b h1 h2=>?_⟩
 have hj:j < ids.length:=by rw [← g1];exact (List.getElem?_eq_some_iff.1 h1).1
 have hid:=List.getElem?_eq_getElem hj
 obtain ⟨q,hq,hb⟩:=e3 j _ b hid h2
 have hfb:(Kz ec ids).get ids[j]=some (.fb cs):=by
  rcases g3 j _ cs hid h1 with hg |hg
  ·exact (s2 _ cs).2 (List.getElem_mem hj) hg
  ·exact (s2 _ cs).1 hg
 obtain ⟨s,hf⟩:=aB hfb
 obtain ⟨_,q',b',k1,k2,k3⟩:=s1.inv.obj _ s _ hf
 rw [hq] at k1;cases k1
 rw [hb] at k2;cases k2
 exact k3
theorem Ir (hE:bM E) (I:aE E B ρ ec h) {x y:X T} {w:Value} (d:D E h (ak B ρ ec.env) ρ x w) (hc:Nb E ec x=some (y,ec')):q9 E B ρ ec h ρ ec' h/\D E h (ak B ρ ec'.env) ρ y w:=by
 unfold Nb at hc
 split at hc
 ·rename_i g caps
  split at hc
  ·rename_i css ids hcap
   split at hc
   ·rename_i id e r hfold
    cases hc
    cases d with
    |fn _ _ _ va vb ha hb hda hdb=>
     obtain ⟨s1,bs,e1,e2,e3⟩:=GX I hcap (vs:=vb) ⟨hb,hdb⟩
     have hva:va=[]:=List.length_eq_zero_iff.1 ha.symm
     subst hva;subst e1
     exact ⟨s1,hE.fold _ _ _ _ hfold _ _ _ _ ⟨bs,rfl,e2,e3⟩⟩
   ·cases hc
  ·cases hc
 ·rename_i i
  split at hc
  ·rename_i cs ids hcap
   split at hc
   ·rename_i id e r hfold
    cases hc
    obtain ⟨s1,bs,e1,e2,e3⟩:=GX I hcap (vs:=[w]) (.cons d .nil)
    match bs,e1,e2,e3 with
    | [b],e1,_,e3=>
      simp only [List.map_cons,List.map_nil,List.cons.injEq,and_true] at e1
      subst e1
      exact ⟨s1,hE.fold _ _ _ _ hfold _ _ _ _ ⟨b,rfl,e3 0 cs b rfl rfl⟩⟩
    | [],e1,_,_=>simp at e1
    |_ :: _ :: _,e1,_,_=>simp at e1
   ·cases hc
  ·cases hc
 ·rename_i u
  split at hc
  ·rename_i id e r hfold
   cases hc
   exact ⟨.refl I,hE.fold _ _ _ _ hfold _ _ _ _ (uS d)⟩
  ·cases hc
 ·cases hc
  exact ⟨.refl I,d⟩
 ·cases hc
theorem wg (hE:bM E) {ps:List Nat}:∀{l l':List (X T)} {vs:List Value} {k:Nat} {ec ec':EC T},aE E B ρ ec h->DL E h (ak B ρ ec.env) ρ l vs->Is E ps k l ec=some (l',ec')->q9 E B ρ ec h ρ ec' h/\DL E h (ak B ρ ec'.env) ρ l' vs
 | [],l',vs,k,ec,ec',I,d,hc=>by
   simp only [Is,Option.some.injEq,Prod.mk.injEq] at hc
   obtain ⟨rfl,rfl⟩:=hc
   exact ⟨.refl I,d⟩
 |x :: r,l',vs,k,ec,ec',I,d,hc=>by
  obtain ⟨w,us,rfl,d1,d2⟩:=d.cM
  simp only [Is] at hc
  split at hc
  ·split at hc
   ·rename_i y ec1 h1
    split at hc
    ·rename_i l2 ec2 h2
     cases hc
     obtain ⟨s1,g1⟩:=Ir hE I d1 h1
     obtain ⟨s2,g2⟩:=wg hE s1.inv (d2.mv s1.ext.mv) h2
     exact ⟨s1.trans I s2,.cons (g1.mv s2.ext.mv) g2⟩
    ·cases hc
   ·cases hc
  ·split at hc
   ·rename_i l2 ec2 h2
    cases hc
    obtain ⟨s2,g2⟩:=wg hE I d2 h2
    exact ⟨s2,.cons (d1.mv s2.ext.mv) g2⟩
   ·cases hc
def KB (E:gR T) (W:Rec) (Γ:Hi T) (Y:Nat->Bool->(Nat->Prop)->(Nat->Prop)->H->Prop) (B:Nat->Prop) (ρ:Loc) (ec:EC T) (h:H) (vf:Value) (vs:List Value) (K:X T->EC T->Prop) (KP:Value->EC T->Prop):Prop:=
 ∃rc h' B' ρ' ec',GS E Γ Y B ρ ec h B' ρ' ec' h'/\((∃v x,W.call vf vs .dF h=some (.ret v,rc,h')/\D E h' (ak B' ρ' ec'.env) ρ' x v/\K x ec')\/∃v,W.call vf vs .dF h=some (.panic v,rc,h')/\KP v ec')
theorem xm (hE:bM E) (hy:KX E W Γ Y) (I0:aE E B ρ ec h) (y:Y ec.k ec.fin B (eZ ρ ec.env) h) {sg:IK T} {f:X T} {args:List (X T)} {vf:Value} {vs:List Value} (df:D E h (ak B ρ ec.env) ρ f vf) (da:DL E h (ak B ρ ec.env) ρ args vs)
  {K:X T->EC T->Prop} {KP:Value->EC T->Prop} (hs:CC E W sg f args ec K KP):KB E W Γ Y B ρ ec h vf vs K KP:=by
 unfold CC at hs
 split at hs
 ·exact hs.elim
 rename_i args2 ec2 hcv
 obtain ⟨st0,da2⟩:q9 E B ρ ec h ρ ec2 h/\DL E h (ak B ρ ec2.env) ρ args2 vs:=by
  split at hcv
  ·simp only [Option.some.injEq,Prod.mk.injEq] at hcv
   obtain ⟨rfl,rfl⟩:=hcv
   exact ⟨.refl I0,da⟩
  ·exact wg hE I0 da hcv
 have df2:=df.mv st0.ext.mv
 have I:=st0.inv
 have y2:=(st0.gs hy y).y
 have hprep:∃args1 ec1 V,KC sg args2 ec2=((args1,ec1),V)/\q9 E B ρ ec2 h ρ ec1 h/\
   ∀O':Nat->Prop,(∀b,O' b->ak B ρ ec1.env b)->(∀id∈V,∀b,dY ρ ec1.env id b->¬O' b)->DL E h O' ρ args1 vs/\D E h O' ρ f vf:=by
  unfold KC
  cases hk:sg.keep with
  |true=>exact ⟨args2,ec2,[],by simp,.refl I,fun O' hO _=>⟨da2.sub hO,df2.sub hO⟩⟩
  |false=>
   cases hf:sg.fe with
   |true=>
    obtain ⟨s1,s2,s3⟩:=zZ (l:=X.ot ec2 args2) I
    refine ⟨X.xl ec2 args2,Mw ec2 (X.ot ec2 args2),[],by simp,s1,fun O' hO _=>?_⟩
    have hO1:∀b,O' b->ak B ρ ec2.env b:=fun b hb=>by
     rcases hO b hb with h1 |h1
     ·exact .inl h1
     ·exact .inr (s2 b h1)
    refine ⟨DL.view I hO1 da2 fun id hi b hb hc=>?_,df2.sub hO1⟩
    rcases hO b hc with h1 |h1
    ·exact I.jA b (au.2 ⟨id,hb⟩) h1
    ·exact s3 id hi b (ve ec2 hi) hb h1
   |false=>exact ⟨X.xl ec2 args2,ec2,X.ot ec2 args2,by simp,.refl I,fun O' hO hV=>⟨DL.view I hO da2 hV,df2.sub hO⟩⟩
 obtain ⟨args1,ec1,V,e1,st1,hD⟩:=hprep
 rw [e1] at hs
 simp only at hs
 split at hs
 ·rename_i Ein hin
  obtain ⟨r,hs⟩:=hs
  have hL:(nD ec1.env (ec1.env.length+(tO [] (X.ids f++X.mQ args1)).length+1) (tO [] (X.ids f++X.mQ args1)) 0).Nodup:=lM (mG (by simp))
  generalize nD ec1.env (ec1.env.length+(tO [] (X.ids f++X.mQ args1)).length+1) (tO [] (X.ids f++X.mQ args1)) 0=L at hs hin hL
  have I1:=st1.inv
  have split:(we V || ((V.all fun i=>!(kI L i)) && !(X.jJ (sg.res r)) && we (sg.out r) && we (sg.new r)))=true->(∀i∈V,i ∉ L)/\(V=[]\/((sg.res r).jJ=false/\sg.out r=[]/\sg.new r=[])):=by
   intro hok
   simp only [Bool.or_eq_true,Bool.and_eq_true,List.all_eq_true] at hok
   refine ⟨fun i hi hm=>?_,?_⟩
   ·rcases hok with hok |hok
    ·rw [rS hok] at hi;simp at hi
    ·have:=hok.1.1.1 i hi
     rw [Ej.2 hm] at this;cases this
   ·rcases hok with hok |hok
    ·exact .inl (rS hok)
    ·exact .inr ⟨by simpa using hok.1.1.2,rS hok.1.2,rS hok.2⟩
  have give:(∀i∈V,i ∉ L)->D E h (ak (BC B ρ ec1.env L V) (ρC ρ L) (cO Ein).env) (ρC ρ L) (X.kN (fun i=>dL L i 0) (BG ec1 L) f) vf/\DL E h (ak (BC B ρ ec1.env L V) (ρC ρ L) (cO Ein).env) (ρC ρ L) (X.tN (fun i=>dL L i 0) (BG ec1 L) args1) vs:=by
   intro hVL
   have hsub:=FT (V:=V) I1 hL hin
   obtain ⟨d1,d2⟩:=hD (ak (BC B ρ ec1.env L V) (ρC ρ L) (cO Ein).env) hsub fun id hi b hb hc=>by
    rcases hc with (h1 |⟨id',h1,h2,h3⟩) |h1
    ·exact I1.jA b (au.2 ⟨id,hb⟩) h1
    ·exact h2 ((I1.gj h3 hb)▸hi)
    ·obtain ⟨k,h1⟩:=au.1 h1
     obtain ⟨id',h2,h3⟩:=(jy I1 hL hin).1 h1
     exact hVL id hi ((I1.gj h3 hb)▸List.mem_of_getElem? h2)
   have hI:∀id k q,dL L id 0=some k->ρ id=some (q,0)->ρC ρ L k=some (q,0):=fun id k q h1 h2=>O3 I1 hL hin h1 h2
   have hM:∀id cB w,D E h (ak (BC B ρ ec1.env L V) (ρC ρ L) (cO Ein).env) ρ (.os id cB) w->D E h (ak (BC B ρ ec1.env L V) (ρC ρ L) (cO Ein).env) (ρC ρ L) (BG ec1 L id cB) w:=fun id cB w d=>Ku I1 hL hin d
   exact ⟨d2.kN (mi:=fun i=>dL L i 0) (mo:=BG ec1 L) hE hI hM (.inl fun _ hb=>hb),d1.kN (mi:=fun i=>dL L i 0) (mo:=BG ec1 L) hE hI hM (fun _ hb=>hb)⟩
  have stA:=st0.trans I0 st1
  have go:cC E W (X.kN (fun i=>dL L i 0) (BG ec1 L) f) Ein (X.tN (fun i=>dL L i 0) (BG ec1 L) args1) (sg.res r) (sg.out r) (sg.new r)/\need (we V || ((V.all fun i=>!(kI L i)) && !(X.jJ (sg.res r)) && we (sg.out r) && we (sg.new r))) (K (X.kN (tP L (sg.out r) (sg.new r) ec1.cnt) (xU ec1 L (sg.out r) (sg.new r)) (sg.res r)) (q7 ec1 L (sg.out r) (sg.new r)))->KB E W Γ Y B ρ ec h vf vs K KP:=by
   rintro ⟨hc,hs⟩
   obtain ⟨hok,hs⟩:=ai.1 hs
   obtain ⟨hVL,hV⟩:=split hok
   obtain ⟨d4,d3⟩:=give hVL
   obtain ⟨v,rc,h',ρ2,k1,k2,k3⟩:=Ky hE I1 hL hVL hin hc d4 d3 hV
   exact ⟨rc,h',B,ρ2,_,(stA.trans I0 k2).gs hy y,.inl ⟨v,_,k1,k3,hs⟩⟩
  split at hs
  ·exact go hs
  ·rcases gu hs with ⟨_,hc,hs⟩ |⟨_,hs⟩
   ·obtain ⟨hok,hs⟩:=ai.1 hs
    obtain ⟨hVL,hV⟩:=split hok
    obtain ⟨d4,d3⟩:=give hVL
    obtain ⟨rc,h',ρ2,k1,k2⟩:=Iq hE I1 hL hVL hin hc d4 d3 (hV.imp id fun x=>x.2)
    exact ⟨rc,h',B,ρ2,_,(stA.trans I0 k2).gs hy y,.inr ⟨_,k1,hs⟩⟩
   ·exact go hs
 ·exact hs.elim
theorem KD {a b:X T} (h:Nc a b):a=b:=by
 unfold Nc at h
 split at h
 ·obtain ⟨h1,h2⟩:=ai.1 h
  rw [of_decide_eq_true h1,h2]
 ·rw [h]
 ·rw [h]
 ·split at h
  ·rename_i x hx
   obtain ⟨rfl,rfl⟩:=mH hx
   rw [← h]
  ·exact h.elim
 ·exact h.elim
theorem Eo:∀{a b:List (X T)},vg a b->a=b
 | [],[],_=>rfl
 | [a],[b],h=>by rw [KD (show Nc a b from h)]
 |a :: a' :: r,b :: b' :: s,h=>by
  obtain ⟨h1,h2⟩:Nc a b/\vg (a' :: r) (b' :: s):=h
  rw [KD h1,Eo h2]
 | [],_ :: _,h=>h.elim
 | [_],[],h=>by simp [vg] at h
 |_ :: _ :: _,[],h=>by simp [vg] at h
 | [_],_ :: _ :: _,h=>by simp [vg] at h
 |_ :: _ :: _,[_],h=>by
  obtain ⟨_,h⟩:=(show Nc _ _/\vg _ [] from h)
  simp [vg] at h
theorem LQ {v w:Value} {K:Prop} (h:Nd v w K):v=w/\K:=by
 unfold Nd at h
 split at h
 ·obtain ⟨rfl,h⟩:=h;exact ⟨rfl,h⟩
 ·exact h.elim
theorem FX (hE:bM E) (hy:KX E W Γ Y) (I:aE E B ρ ec h) (y:Y ec.k ec.fin B (eZ ρ ec.env) h) {f:X T} {args:List (X T)} {vf:Value} {vs:List Value} (df:D E h (ak B ρ ec.env) ρ f vf) (da:DL E h (ak B ρ ec.env) ρ args vs)
  {K:X T->EC T->Prop} {KP:Value->EC T->Prop} (hs:GY E W Γ f args ec K KP):KB E W Γ Y B ρ ec h vf vs K KP:=by
 unfold GY at hs
 split at hs
 ·exact xm hE hy I y df da hs
 ·split at hs
  ·exact xm hE hy I y df da hs
  ·exact hs.elim
 ·rename_i w
  have hrow:=hy.row
  have hstep:=hy.step
  cases df
  split at hs
  ·rename_i s hΓ hfin
   rw [hΓ] at hrow hstep
   simp only at hrow hstep
   obtain ⟨rfl,r,h1,h0,h2,h3⟩:=LQ hs
   obtain rfl:=Eo h0
   rw [hfin] at y
   have da2:DL E h (fun b=>B b\/eZ ρ ec.env b) (fun _=>none) (s.enc r) vs:=⟨da.1,fun j x w g1 g2=>(da.2 j x w g1 g2).gN hE (hrow r x (List.mem_of_getElem? g1)) fun b hb=>hb⟩
   obtain ⟨b,rc,h2',B2,g1,g2,g3,g4,g5,g6⟩:=hstep ec.k r vs B _ h h1 y I.top (fun b hb=>I.jX hb) I.jA da2
   cases b with
   |true=>
    obtain ⟨i1,i2⟩:=I.yield (k:=ec.k+1) (fin:=false) g3 g4 g5 g6
    exact ⟨rc,h2',B2,ρ,_,⟨i1,i2,g2,fun hn=>by rw [hΓ] at hn;cases hn⟩,.inl ⟨_,_,g1,.v _,h2⟩⟩
   |false=>
    obtain ⟨i1,i2⟩:=I.yield (k:=ec.k) (fin:=true) g3 g4 g5 g6
    exact ⟨rc,h2',B2,ρ,_,⟨i1,i2,g2,fun hn=>by rw [hΓ] at hn;cases hn⟩,.inl ⟨_,_,g1,.v _,h3⟩⟩
  ·exact hs.elim
 ·exact hs.elim
end Go.Ev
namespace Go.Ev
open Go
variable {T:TypeId->Type} {P:Program} {E:gR T} {W:Rec} {Γ:Hi T} {Y:Nat->Bool->(Nat->Prop)->(Nat->Prop)->H->Prop} {B B':Nat->Prop} {ρ ρ1 ρ':Loc} {ec ec' ec'':EC T} {h h' h'':H} {O O':Nat->Prop} {ts:List (X T)} {vs:List Value}
theorem BH {dst:Option Tmp} {x:X T} {K:List (X T)->Prop} (hs:It dst x ts K):K (Ep dst x ts):=by
 unfold It at hs
 cases dst with
 |none=>exact hs
 |some d=>exact hs
theorem DL.xW {t:Tmp} {b:Bool} (d:DL E h O ρ ts vs) (hw:ts.getD t .bad= .v (.bool b)):DL E h O ρ (Ev.xW t b ts) vs:=by
 have hd:=d.getD t undef
 rw [hw] at hd
 have hv:=uS hd
 have e:vs.set t (.bool b)=vs:=by
  rcases Nat.lt_or_ge t vs.length with hl |hl
  ·rw [List.getD_eq_getElem?_getD,List.getElem?_eq_getElem hl] at hv
   have hv:vs[t]= .bool b:=hv
   rw [← hv,List.set_getElem_self]
  ·exact List.set_eq_of_length_le hl
 have:=d.set t (D.v (E:=E) (h:=h) (O:=O) (ρ:=ρ) (.bool b))
 rw [e] at this
 exact this
theorem DL.Iu {c:Operand} {b:Bool} (d:DL E h O ρ ts vs) (hw:bV ts c= .v (.bool b)):DL E h O ρ (Ev.Iu c b ts) vs:=by
 cases c with
 |tmp t=>exact d.xW hw
 |_=>exact d
theorem DL.put {dst:Option Tmp} {x:X T} {v:Value} (d:DL E h O ρ ts vs) (dx:D E h O ρ x v):DL E h O ρ (Ep dst x ts) (dB dst v vs):=by
 cases dst with
 |none=>exact d
 |some t=>exact d.set t dx
theorem ri {g:Option (Tmp × Bool)} {A C:List (X T)->Prop} (d:DL E h O ρ ts vs) (hs:z7 g ts A C):∃ts',DL E h O ρ ts' vs/\((aq g vs=true/\A ts')\/(aq g vs=false/\C ts')):=by
 cases g with
 |none=>exact ⟨ts,d,.inl ⟨rfl,hs⟩⟩
 |some tb=>
  obtain ⟨t,b⟩:=tb
  simp only [z7] at hs
  have hd:=d.getD t undef
  have hget:∀w,ts.getD t .bad= .v w->vs[t]?=some w:=fun w hw=>by
   rw [hw] at hd
   have:=uS hd
   rw [List.getD_eq_getElem?_getD] at hw
   cases hts:ts[t]? with
   |none=>rw [hts] at hw;cases hw
   |some x=>
    have hlt:=(List.getElem?_eq_some_iff.1 hts).1
    rw [d.1] at hlt
    rw [List.getD_eq_getElem?_getD,List.getElem?_eq_getElem hlt] at this
    rw [List.getElem?_eq_getElem hlt]
    exact congrArg some this
  split at hs
  ·rename_i c hc
   simp only [aq,hget _ hc]
   cases b with
   |true=>rcases gu hs with ⟨rfl,h1⟩ |⟨rfl,h1⟩;exact ⟨_,d.xW hc,.inl ⟨rfl,h1⟩⟩;exact ⟨_,d.xW hc,.inr ⟨rfl,h1⟩⟩
   |false=>rcases gu hs with ⟨rfl,h1⟩ |⟨rfl,h1⟩;exact ⟨_,d.xW hc,.inr ⟨rfl,h1⟩⟩;exact ⟨_,d.xW hc,.inl ⟨rfl,h1⟩⟩
  ·rename_i w hne hw
   refine ⟨ts,d,.inr ⟨?_,hs⟩⟩
   simp only [aq,hget _ hw]
   cases w<;>first |rfl |exact absurd rfl (hne _)
  ·exact hs.elim
theorem CD {g:Option (Tmp × Bool)} {A C:Prop} (d:DL E h O ρ ts vs) (hs:CE g ts A C):(aq g vs=true/\A)\/(aq g vs=false/\C):=by
 cases g with
 |none=>exact .inl ⟨rfl,hs⟩
 |some tb=>
  obtain ⟨t,b⟩:=tb
  simp only [CE] at hs
  have hd:=d.getD t undef
  have hget:∀w,ts.getD t .bad= .v w->vs[t]?=some w:=fun w hw=>by
   rw [hw] at hd
   have:=uS hd
   rw [List.getD_eq_getElem?_getD] at hw
   cases hts:ts[t]? with
   |none=>rw [hts] at hw;cases hw
   |some x=>
    have hlt:=(List.getElem?_eq_some_iff.1 hts).1
    rw [d.1] at hlt
    rw [List.getD_eq_getElem?_getD,List.getElem?_eq_getElem hlt] at this
    rw [List.getElem?_eq_getElem hlt]
    exact congrArg some this
  split at hs
  ·rename_i c hc
   simp only [aq,hget _ hc]
   cases b with
   |true=>rcases gu hs with ⟨rfl,h1⟩ |⟨rfl,h1⟩;exact .inl ⟨rfl,h1⟩;exact .inr ⟨rfl,h1⟩
   |false=>rcases gu hs with ⟨rfl,h1⟩ |⟨rfl,h1⟩;exact .inr ⟨rfl,h1⟩;exact .inl ⟨rfl,h1⟩
  ·rename_i w hne hw
   right
   refine ⟨?_,hs⟩
   simp only [aq,hget _ hw]
   cases w<;>first |rfl |exact absurd rfl (hne _)
  ·exact hs.elim
theorem z8 (hE:bM E) (hy:KX E W Γ Y) (I:aE E B ρ ec h) (y:Y ec.k ec.fin B (eZ ρ ec.env) h) (d:DL E h (ak B ρ ec.env) ρ ts vs) {o:AO} (hw:aq o.guard vs=true) {K:List (X T)->EC T->Prop} {KP:Value->EC T->Prop} (hs:Oc P E W Γ o ts ec K KP):
  ∃h' B' ρ' ec',GS E Γ Y B ρ ec h B' ρ' ec' h'/\((∃v ts',(∀df rc rd,cG P W o (gX vs df rc rd) h=some (.on (gX (dB o.dst v vs) df rc rd) h'))/\iE P W o vs h=some (v,h')/\DL E h' (ak B' ρ' ec'.env) ρ' ts' (dB o.dst v vs)/\K ts' ec'/\
   (tS o=true->h'.next=h.next))\/∃v,(∀df rc rd,cG P W o (gX vs df rc rd) h=some (.panic v (gX vs df rc rd) h'))/\KP v ec'):=by
 unfold Oc at hs
 have hcall:∀{f:Operand} {args:List Operand},GY E W Γ (bV ts f) (args.map (bV ts)) ec (fun x ec'=>It o.dst x ts fun ts'=>K ts' ec') KP->
   ∃rc h' B' ρ' ec',GS E Γ Y B ρ ec h B' ρ' ec' h'/\((∃v ts',W.call (aj vs f) (args.map (aj vs)) .dF h=some (.ret v,rc,h')/\DL E h' (ak B' ρ' ec'.env) ρ' ts' (dB o.dst v vs)/\K ts' ec')\/∃v,W.call (aj vs f) (args.map (aj vs)) .dF h=some (.panic v,rc,h')/\KP v ec'):=by
  intro f args hs
  obtain ⟨rc,h',B',ρ',ec',h2,h1⟩:=FX hE hy I y (D.bV d f) (DL.LN d args) hs
  refine ⟨rc,h',B',ρ',ec',h2,?_⟩
  rcases h1 with ⟨v,x,h1,h3,h4⟩ |⟨v,h1,h4⟩
  ·exact .inl ⟨v,_,h1,(d.mv h2.ext.mv).put h3,BH (K:=fun ts'=>K ts' ec') h4⟩
  ·exact .inr ⟨v,h1,h4⟩
 have hother:dr P E o.op ts ec (fun x ec'=>It o.dst x ts fun ts'=>K ts' ec')->∃v h' B' ρ' ts' ec',af P vs h o.op=some (v,h')/\GS E Γ Y B ρ ec h B' ρ' ec' h'/\DL E h' (ak B' ρ' ec'.env) ρ' ts' (dB o.dst v vs)/\K ts' ec':=by
  intro hs
  obtain ⟨v,h',ρ',x,ec',h1,h2,h3,h4⟩:=Io hE I d hs
  exact ⟨v,h',B,ρ',_,ec',h1,h2.gs hy y,(d.mv h2.ext.mv).put h3,BH (K:=fun ts'=>K ts' ec') h4⟩
 have hwm:∀df rc rd,aq o.guard (gX vs df rc rd).tmps=true:=fun _ _ _=>hw
 unfold cG iE tS
 simp only [hwm,hw,if_true]
 cases hop:o.op<;>rw [hop] at hs hother<;>simp only at hs ⊢
 case call f args=>
  obtain ⟨rc,h',B',ρ',ec',h2,⟨v,ts',h1,h3,h4⟩ |⟨v,h1,h4⟩⟩:=hcall hs
  ·exact ⟨h',B',ρ',ec',h2,.inl ⟨v,ts',fun df rc rd=>by simp only [gX];rw [h1];rfl,by rw [h1],h3,h4,fun e=>by cases e⟩⟩
  ·exact ⟨h',B',ρ',ec',h2,.inr ⟨v,fun df rc rd=>by simp only [gX];rw [h1],h4⟩⟩
 case dA f args=>
  obtain ⟨rc,h',B',ρ',ec',h2,⟨v,ts',h1,h3,h4⟩ |⟨v,h1,h4⟩⟩:=hcall hs
  ·exact ⟨h',B',ρ',ec',h2,.inl ⟨v,ts',fun df rc rd=>by simp only [gX];rw [h1];rfl,by rw [h1],h3,h4,fun e=>by cases e⟩⟩
  ·exact ⟨h',B',ρ',ec',h2,.inr ⟨v,fun df rc rd=>by simp only [gX];rw [h1],h4⟩⟩
 case panic x=>
  split at hs
  ·rename_i t w hc
   have hv:=mE hc (D.bV d x)
   exact ⟨h,B,ρ,ec,.refl I y,.inr ⟨_,fun df rc rd=>by simp only [gX];rw [hv],hs⟩⟩
  ·exact hs.elim
 case store n a x=>
  obtain ⟨v,h',B',ρ',ts',ec',h1,h2,h3,h4⟩:=hother hs
  refine ⟨h',B',ρ',ec',h2,.inl ⟨v,ts',fun df rc rd=>by simp only [gX];rw [h1];rfl,h1,h3,h4,fun _=>?_⟩⟩
  simp only [af] at h1
  split at h1
  ·split at h1
   ·split at h1
    ·cases h1;rfl
    ·cases h1
   ·cases h1
  ·cases h1
 all_goals first
  |exact hs.elim
  |(obtain ⟨v,h',B',ρ',ts',ec',h1,h2,h3,h4⟩:=hother hs
    refine ⟨h',B',ρ',ec',h2,.inl ⟨v,ts',fun df rc rd=>by simp only [gX];rw [h1];rfl,h1,h3,h4,fun hq=>?_⟩⟩
    rw [mW (by simpa using hq) h1])
theorem Er {o:AO} {a:aD} (hw:aq o.guard a.tmps=false):cG P W o a h=some (.on (a.put o.dst undef) h):=by
 unfold cG
 rw [if_neg (by rw [hw];simp)]
theorem FY {o:AO} {r:List AO} {a:aD} {h:H}:eW P W (o :: r) a h=match cG P W o a h with
  |some (.on a' h')=>eW P W r a' h'
  |some (.panic v a' h')=>some (.panic v,a',h')
  |none=>none:=rfl
theorem KE (hE:bM E) (I:aE E B ρ ec h) (d:DL E h (ak B ρ ec.env) ρ ts vs) {o o2:AO} {e n size:Nat} {zero:List Value} {ps:List (Nat × Nat × Operand)} {t t2:Tmp} (hp:FZ o o2=some ((e,n,size),zero,ps,t,t2)) {K:List (X T)->EC T->Prop} (hs:O4 E e n size zero ps t t2 ts ec K):
  ∃vs' h' ts' ec',(∀df rc rd r,eW P W (o :: o2 :: r) (gX vs df rc rd) h=eW P W r (gX vs' df rc rd) h')/\q9 E B ρ ec h ρ ec' h'/\DL E h' (ak B ρ ec'.env) ρ ts' vs'/\K ts' ec':=by
 obtain ⟨ho,ho2,hd,hg,hd2,hg2⟩:o.op= .buildSlice e n size zero ps/\o2.op= .Au (.tmp t)/\o.dst=some t/\o.guard=none/\o2.dst=some t2/\o2.guard=none:=by
  unfold FZ at hp
  split at hp
  ·rename_i e' n' size' zero' ps' t' h1 h2
   split at hp
   ·rename_i s s2 k1 k2 k3 k4
    cases hb:Nat.beq s t' with
    |false=>rw [hb] at hp;cases hp
    |true=>
     rw [hb] at hp
     simp only [cond_true,Option.some.injEq,Prod.mk.injEq] at hp
     obtain ⟨⟨rfl,rfl,rfl⟩,rfl,rfl,rfl,rfl⟩:=hp
     obtain rfl:=Nat.eq_of_beq_eq_true hb
     exact ⟨h1,h2,k1,k2,k3,k4⟩
   ·cases hp
  ·cases hp
 unfold O4 at hs
 split at hs
 ·rename_i l hl hb
  simp only [Bool.and_eq_true] at hb
  obtain ⟨⟨hb1,hb2⟩,hb3⟩:=hb
  have hsz:=Nat.eq_of_beq_eq_true hb1
  have hz:(cE zero n).length=n * size:=by rw [bH,Nat.eq_of_beq_eq_true hb2]
  have htl:t < vs.length:=by rw [← d.1];exact gO.1 hb3
  subst hsz
  obtain ⟨m,h1,h2,h3⟩:=ni d hl
  obtain ⟨g1,g2⟩:=vh (q5 (cE zero n)) h2 (fun j x w a b=>by rw [List.length_map,hz];exact h3 j x w a b)
  cases hfz:AX ec (xo ((cE zero n).map .v) l) with
  |mk cs ec1=>
   rw [hfz] at hs
   simp only at hs
   obtain ⟨s1,d1⟩:=rT I g1 hfz
   split at hs
   ·rename_i rows hr
    obtain ⟨a1,a2,a3⟩:=hs
    obtain ⟨rv,r1,r2,r3⟩:=wh hE hr d1 (by rw [← g1.1,g2,List.length_map,hz])
    generalize hh1:h.alloc (.cells true (fj (cE zero n) m) e n)=h1'
    have hget1:h1'.get h.next=some (.cells true (fj (cE zero n) m) e n):=by rw [← hh1];exact H.aH _ _
    have hn1:h1'.next=h.next+1:=by rw [← hh1];rfl
    have htop:nB (h1'.set h.next (.ro (fj (cE zero n) m))):=nB.set (by rw [← hh1];exact I.top.alloc _) (by omega) _
    obtain ⟨I2,x2⟩:=s1.inv.yield (B2:=B) (h2:=h1'.set h.next (.ro (fj (cE zero n) m))) (k:=ec1.k) (fin:=ec1.fin) htop (by rw [H.ey];omega)
     (fun i hi _=>by rw [H.ah _ _ (by omega),← hh1,H.aI _ _ (by omega)]) (fun i hi=>⟨by rw [H.ey];have:=s1.inv.base i hi;omega,fun _=>hi⟩)
    have hnO:¬ak B ρ ec1.env h.next:=fun hO=>by have:=s1.inv.jX hO;omega
    have dro:D E (h1'.set h.next (.ro (fj (cE zero n) m))) (ak B ρ ec1.env) ρ (.ro e rows) (.slice (some ⟨h.next,0,none⟩) n 0):=by
     refine .ro e rows ⟨some ⟨h.next,0,none⟩,n,0⟩ rv ⟨r2.symm,r3.sz,fun _=>⟨h.next,0,fj (cE zero n) m,rfl,⟨by rw [H.ey];omega,_,H.an _ _ _,rfl⟩,?_,fun i r hi=>?_⟩⟩ r3.len (by rw [← r3.len,r2];exact a2) (.inr ⟨_,_,rfl⟩) (fun b o hb _=>?_) fun i a r hi1 hi2=>?_
     ·rw [← r1,dR r3.sz];omega
     ·rw [← r1,Nat.zero_add];exact gY r3.sz hi
     ·cases hb;exact hnO
     ·exact ((r3.row i a r hi1 hi2).mv x2.mv).2
    refine ⟨(vs.set t (.slice (some ⟨h.next,0,none⟩) n 0)).set t2 (.slice (some ⟨h.next,0,none⟩) n 0),_,_,ec1,fun df rc rd r=>?_,s1.trans I ⟨I2,x2,fun b hb=>?_,rfl,rfl⟩,((((d.mv s1.ext.mv).mv x2.mv).set t (.bad _)).set t2 dro),a3⟩
    ·have e1:cG P W o (gX vs df rc rd) h=some (.on (gX (vs.set t (.slice (some ⟨h.next,0,none⟩) n 0)) df rc rd) h1'):=by
      unfold cG
      simp only [hg,aq,if_true,ho,gX,af,h1,Option.map_some,hd,aD.put,dB,hh1]
     have e2:cG P W o2 (gX (vs.set t (.slice (some ⟨h.next,0,none⟩) n 0)) df rc rd) h1'=some (.on (gX ((vs.set t (.slice (some ⟨h.next,0,none⟩) n 0)).set t2 (.slice (some ⟨h.next,0,none⟩) n 0)) df rc rd) (h1'.set h.next (.ro (fj (cE zero n) m)))):=by
      have ev:aj (vs.set t (.slice (some ⟨h.next,0,none⟩) n 0)) (.tmp t)= .slice (some ⟨h.next,0,none⟩) n 0:=by
       simp only [aj,List.getD_eq_getElem?_getD,List.getElem?_set_self htl,Option.getD_some]
      unfold cG
      simp only [hg2,aq,if_true,ho2,gX,af,ev,hget1,hd2,aD.put,dB]
     simp only [eW,e1,e2]
    ·have hb':=s1.inv.base b hb
     rw [H.ah _ _ (by omega),← hh1,H.aI _ _ (by omega)]
   ·exact hs.elim
 ·exact hs.elim
theorem rU (hE:bM E) (hy:KX E W Γ Y):∀{l:List AO} {B:Nat->Prop} {ρ:Loc} {ec:EC T} {h:H} {ts:List (X T)} {vs:List Value} {K:List (X T)->EC T->Prop} {KP:Value->List (X T)->EC T->Prop},aE E B ρ ec h->Y ec.k ec.fin B (eZ ρ ec.env) h->DL E h (ak B ρ ec.env) ρ ts vs->F0 P E W Γ l ts ec K KP->
  ∃x vs' h' B' ρ' ts' ec',(∀df rc rd,eW P W l (gX vs df rc rd) h=some (x,gX vs' df rc rd,h'))/\GS E Γ Y B ρ ec h B' ρ' ec' h'/\DL E h' (ak B' ρ' ec'.env) ρ' ts' vs'/\(match x with | .normal=>K ts' ec' | .panic v=>KP v ts' ec' |_=>False)
 | [],B,ρ,ec,h,ts,vs,K,KP,I,y,d,hs=>⟨.normal,vs,h,B,ρ,ts,ec,fun _ _ _=>rfl,.refl I y,d,hs⟩
 | [o],B,ρ,ec,h,ts,vs,K,KP,I,y,d,hs=>by
   simp only [F0] at hs
   simp only [eW]
   obtain ⟨ts,d,⟨hw,hs⟩ |⟨hw,hs⟩⟩:=ri d hs
   ·obtain ⟨h1,B1,ρ1,e1,g2,⟨v,t1,g1,_,g3,g4,_⟩ |⟨v,g1,g4⟩⟩:=z8 hE hy I y d hw hs
    ·exact ⟨.normal,_,h1,B1,ρ1,t1,e1,fun df rc rd=>by rw [g1],g2,g3,g4⟩
    ·exact ⟨.panic v,vs,h1,B1,ρ1,ts,e1,fun df rc rd=>by rw [g1],g2,d.mv g2.ext.mv,g4⟩
   ·exact ⟨.normal,_,h,B,ρ,_,ec,fun df rc rd=>by rw [Er (show aq o.guard (gX vs df rc rd).tmps=false from hw)];rfl,.refl I y,d.put (dst:=o.dst) (.v undef),hs⟩
 |o :: o2 :: r,B,ρ,ec,h,ts,vs,K,KP,I,y,d,hs=>by
  simp only [F0] at hs
  split at hs
  ·rename_i e n size zero ps t t2 hp
   obtain ⟨vs1,h1,ts1,e1,k1,k2,k3,k4⟩:=KE (P:=P) (W:=W) hE I d hp hs
   have g2:=k2.gs hy y
   obtain ⟨x,vs',h',B',ρ',ts',ec',m1,m2,m3,m4⟩:=rU hE hy g2.inv g2.y k3 k4
   exact ⟨x,vs',h',B',ρ',ts',ec',fun df rc rd=>by rw [k1];exact m1 df rc rd,g2.trans I m2,m3,m4⟩
  ·simp only [FY]
   obtain ⟨ts,d,⟨hw,hs⟩ |⟨hw,hs⟩⟩:=ri d hs
   ·obtain ⟨h1,B1,ρ1,e1,g2,⟨v,t1,g1,_,g3,g4,_⟩ |⟨v,g1,g4⟩⟩:=z8 hE hy I y d hw hs
    ·obtain ⟨x,vs',h',B',ρ',ts',ec',k1,k2,k3,k4⟩:=rU hE hy g2.inv g2.y g3 g4
     exact ⟨x,vs',h',B',ρ',ts',ec',fun df rc rd=>by rw [g1];exact k1 df rc rd,g2.trans I k2,k3,k4⟩
    ·exact ⟨.panic v,vs,h1,B1,ρ1,ts,e1,fun df rc rd=>by rw [g1],g2,d.mv g2.ext.mv,g4⟩
   ·obtain ⟨x,vs',h',B',ρ',ts',ec',k1,k2,k3,k4⟩:=rU hE hy I y (d.put (dst:=o.dst) (.v undef)) hs
    exact ⟨x,vs',h',B',ρ',ts',ec',fun df rc rd=>by rw [Er (show aq o.guard (gX vs df rc rd).tmps=false from hw)];exact k1 df rc rd,k2,k3,k4⟩
structure wj (T:TypeId->Type) where
 ts:List (X T)
 ec:EC T
 vs:List Value
 h:H
 B:Nat->Prop
 ρ:Loc
def wj.ok (E:gR T) (s:wj T):Prop:=aE E s.B s.ρ s.ec s.h/\DL E s.h (ak s.B s.ρ s.ec.env) s.ρ s.ts s.vs
def mI (E:gR T):List AO->List (wj T)->Prop
 |_,[]=>True
 |l,s :: r=>s.ok E/\(∀(j:Nat) (u:wj T),r[j]?=some u->Ext s.B s.ρ s.ec s.h u.B u.ρ u.ec u.h/\((l.take (j+1)).all tS=true->u.h.next=s.h.next))/\mI E (l.drop 1) r
def Pg (P:Program) (E:gR T) (W:Rec) (Γ:Hi T) (Y:Nat->Bool->(Nat->Prop)->(Nat->Prop)->H->Prop) (l:List AO) (G:List (List (X T) × EC T)) (B:Nat->Prop) (ρ:Loc) (ec:EC T) (h:H) (vs:List Value) (K:List (List (X T) × EC T)->List (X T)->EC T->Prop):Prop:=
 ∃(S:List (wj T)) (u:wj T),trace P W l vs h=some (S.map fun s=>(s.vs,s.h))/\mI E l S/\S.length=l.length+1/\S[l.length]?=some u/\(∃t0,S[0]?=some ⟨t0,ec,vs,h,B,ρ⟩)/\GS E Γ Y B ρ ec h u.B u.ρ u.ec u.h/\K ((S.map fun s=>(s.ts,s.ec)).reverse++G) u.ts u.ec
def Ph (P:Program) (E:gR T) (W:Rec) (Γ:Hi T) (Y:Nat->Bool->(Nat->Prop)->(Nat->Prop)->H->Prop) (l:List AO) (G:List (List (X T) × EC T)) (B:Nat->Prop) (ρ:Loc) (ec:EC T) (h:H) (vs:List Value) (KP:Value->List (List (X T) × EC T)->List (X T)->EC T->Prop):Prop:=
 ∃(i:Nat) (S:List (wj T)) (u:wj T) (o:AO) (v:Value) (h':H) (B':Nat->Prop) (ρ':Loc) (ec':EC T),l[i]?=some o/\trace P W (l.take i) vs h=some (S.map fun s=>(s.vs,s.h))/\mI E (l.take i) S/\S.length=i+1/\S[i]?=some u/\(∃t0,S[0]?=some ⟨t0,ec,vs,h,B,ρ⟩)/\
  (∀df rc rd,cG P W o (gX u.vs df rc rd) u.h=some (.panic v (gX u.vs df rc rd) h'))/\GS E Γ Y B ρ ec h B' ρ' ec' h'/\DL E h' (ak B' ρ' ec'.env) ρ' u.ts u.vs/\KP v ((S.map fun s=>(s.ts,s.ec)).reverse++G) u.ts ec'
theorem Es (hE:bM E) (hy:KX E W Γ Y):∀{l:List AO} {G:List (List (X T) × EC T)} {B:Nat->Prop} {ρ:Loc} {ec:EC T} {h:H} {ts:List (X T)} {vs:List Value} {K:List (List (X T) × EC T)->List (X T)->EC T->Prop} {KP:Value->List (List (X T) × EC T)->List (X T)->EC T->Prop},aE E B ρ ec h->Y ec.k ec.fin B (eZ ρ ec.env) h->DL E h (ak B ρ ec.env) ρ ts vs->Nu P E W Γ l G ts ec K KP->
  Pg P E W Γ Y l G B ρ ec h vs K\/Ph P E W Γ Y l G B ρ ec h vs KP
 | [],G,B,ρ,ec,h,ts,vs,K,KP,I,y,d,hs=>.inl ⟨[⟨ts,ec,vs,h,B,ρ⟩],⟨ts,ec,vs,h,B,ρ⟩,rfl,⟨⟨I,d⟩,fun j u hj=>by simp at hj,trivial⟩,rfl,rfl,⟨_,rfl⟩,.refl I y,hs⟩
 |o :: r,G,B,ρ,ec,h,ts,vs,K,KP,I,y,d,hs=>by
  simp only [Nu] at hs
  obtain ⟨ts,d,hs⟩:=ri d hs
  have rel:∀{h1:H} {B1:Nat->Prop} {ρ1:Loc} {e1:EC T} {m:List AO} {S:List (wj T)} {w:List Value},GS E Γ Y B ρ ec h B1 ρ1 e1 h1->(tS o=true->h1.next=h.next)->mI E m S->(∃t0,S[0]?=some ⟨t0,e1,w,h1,B1,ρ1⟩)->mI E (o :: m) (⟨ts,ec,vs,h,B,ρ⟩ :: S):=by
   intro h1 B1 ρ1 e1 m S w g2 g5 k2 ⟨t0,k0⟩
   have hx:∀(j:Nat) (w:wj T),S[j]?=some w->Ext B1 ρ1 e1 h1 w.B w.ρ w.ec w.h/\((m.take j).all tS=true->w.h.next=h1.next):=by
    intro j w hj
    cases S with
    |nil=>simp at hj
    |cons s S=>
     simp only [List.getElem?_cons_zero,Option.some.injEq] at k0
     subst k0
     cases j with
     |zero=>simp at hj;subst hj;exact ⟨.refl,fun _=>rfl⟩
     |succ j=>simp at hj;exact k2.2.1 j w hj
   refine ⟨⟨I,d⟩,fun j w hj=>?_,k2⟩
   obtain ⟨a1,a2⟩:=hx j w hj
   refine ⟨g2.ext.trans I g2.inv a1,fun hq=>?_⟩
   simp only [List.take_succ_cons,List.all_cons,Bool.and_eq_true] at hq
   rw [a2 hq.2,g5 hq.1]
  have fin:∀{v:Value} {h1:H} {B1:Nat->Prop} {ρ1:Loc} {t1:List (X T)} {e1:EC T},iE P W o vs h=some (v,h1)->GS E Γ Y B ρ ec h B1 ρ1 e1 h1->DL E h1 (ak B1 ρ1 e1.env) ρ1 t1 (dB o.dst v vs)->Nu P E W Γ r ((ts,ec) :: G) t1 e1 K KP->(tS o=true->h1.next=h.next)->
    Pg P E W Γ Y (o :: r) G B ρ ec h vs K\/Ph P E W Γ Y (o :: r) G B ρ ec h vs KP:=by
   intro v h1 B1 ρ1 t1 e1 g1 g2 g3 g4 g5
   rcases Es hE hy g2.inv g2.y g3 g4 with ⟨S,u,k1,k2,k3,k4,k0,k5,k6⟩ |⟨i,S,u,o',v',h',B',ρ',ec',m1,k1,k2,k3,k4,k0,m2,k5,m3,k6⟩
   ·refine .inl ⟨⟨ts,ec,vs,h,B,ρ⟩ :: S,u,?_,rel g2 g5 k2 k0,by simp [k3],by simpa using k4,⟨_,rfl⟩,g2.trans I k5,by simpa using k6⟩
    simp only [trace,g1,k1,Option.map_some,List.map_cons]
   ·refine .inr ⟨i+1,⟨ts,ec,vs,h,B,ρ⟩ :: S,u,o',v',h',B',ρ',ec',by simpa using m1,?_,rel g2 g5 k2 k0,by simp [k3],by simpa using k4,⟨_,rfl⟩,m2,g2.trans I k5,m3,by simpa using k6⟩
    simp only [List.take_succ_cons,trace,g1,k1,Option.map_some,List.map_cons]
  rcases hs with ⟨hw,hs⟩ |⟨hw,hs⟩
  ·obtain ⟨h1,B1,ρ1,e1,g2,⟨v,t1,_,g1,g3,g4,g5⟩ |⟨v,g1,g4⟩⟩:=z8 hE hy I y d hw hs
   ·exact fin g1 g2 g3 g4 g5
   ·exact .inr ⟨0,[⟨ts,ec,vs,h,B,ρ⟩],⟨ts,ec,vs,h,B,ρ⟩,o,v,h1,B1,ρ1,e1,rfl,rfl,⟨⟨I,d⟩,fun j u hj=>by simp at hj,trivial⟩,rfl,rfl,⟨_,rfl⟩,g1,g2,d.mv g2.ext.mv,by simpa using g4⟩
  ·refine fin (v:=undef) (h1:=h) ?_ (.refl I y) (d.put (dst:=o.dst) (.v undef)) hs (fun _=>rfl)
   unfold iE
   rw [if_neg (by rw [hw];simp)]
end Go.Ev
namespace Go.Ev
open Go
variable {T:TypeId->Type} {P:Program} {E:gR T} {W:Rec} {Γ:Hi T} {Y:Nat->Bool->(Nat->Prop)->(Nat->Prop)->H->Prop} {B B':Nat->Prop} {ρ ρ1 ρ':Loc} {ec ec' ec'':EC T} {h h' h'':H} {O O':Nat->Prop} {ts:List (X T)} {vs:List Value}
theorem mI.ok:∀{l:List AO} {S:List (wj T)} {i:Nat} {s:wj T},mI E l S->S[i]?=some s->s.ok E
 |_,[],_,_,_,h=>by simp at h
 |l,x :: r,0,s,hr,h=>by simp at h;subst h;exact hr.1
 |l,x :: r,i+1,s,hr,h=>by simp at h;exact mI.ok hr.2.2 h
theorem mI.lt:∀{l:List AO} {S:List (wj T)} {i m:Nat} {s u:wj T},mI E l S->i < m->S[i]?=some s->S[m]?=some u->Ext s.B s.ρ s.ec s.h u.B u.ρ u.ec u.h/\(((l.take m).drop i).all tS=true->u.h.next=s.h.next)
 |_,[],_,_,_,_,_,_,h,_=>by simp at h
 |l,x :: r,0,m+1,s,u,hr,_,h1,h2=>by
  simp at h1 h2
  subst h1
  exact hr.2.1 m u h2
 |l,x :: r,i+1,m+1,s,u,hr,hlt,h1,h2=>by
  simp at h1 h2
  obtain ⟨a,b⟩:=mI.lt hr.2.2 (by omega) h1 h2
  refine ⟨a,fun hq=>b ?_⟩
  rw [List.take_drop,List.drop_drop] at *
  cases l with
  |nil=>simp
  |cons o l=>simpa [Nat.add_comm] using hq
theorem Nk {x:X T} {w:Value} (d:D E h O ρ x w) (hg:x.good=true):qQ w=true:=by
 cases d with
 |v w=>exact hg
 |ro=>rfl
 |os=>rfl
 |ptr=>rfl
 |mp=>rfl
 |fn g a b va vb ha hb _ _=>
  simp only [X.good,Bool.and_eq_true] at hg
  have e1:=rS hg.1
  have e2:=rS hg.2
  subst e1;subst e2
  have e3:va=[]:=List.length_eq_zero_iff.1 ha.symm
  have e4:vb=[]:=List.length_eq_zero_iff.1 hb.symm
  subst e3;subst e4
  rfl
 |_=>cases hg
theorem pH {l:List (X T)} {us:List Value} (d:DL E h O ρ l us) (hg:l.all (·.good)=true):us.all qQ=true:=by
 rw [List.all_eq_true] at hg ⊢
 intro w hw
 obtain ⟨j,hj,rfl⟩:=List.getElem_of_mem hw
 have hj':j < l.length:=by rw [d.1];exact hj
 exact Nk (d.2 j _ _ (List.getElem?_eq_getElem hj') (List.getElem?_eq_getElem hj)) (hg _ (List.getElem_mem hj'))
theorem tV {a b:Option (Nat × Ob T)} (hs:vi a b=true):∃s o o',a=some (s,o)/\b=some (s,o'):=by
 unfold vi at hs
 split at hs
 ·rename_i s o s' o'
  have:=Nat.eq_of_beq_eq_true hs
  subst this
  exact ⟨s,o,o',rfl,rfl⟩
 ·cases hs
theorem mI.same {l:List AO} {S:List (wj T)} (hr:mI E l S) {i m:Nat} {s u:wj T} (h1:S[i]?=some s) (h2:S[m]?=some u) {id:Nat} (hs:vi (cW s.ec.env id) (cW u.ec.env id)=true) {st n b off:Nat} {o:Ob T} {q:SV}
  (hf:cW s.ec.env id=some (st,o)) (ho:o.own=true) (hq:s.ρ id=some (q,n)) (hb:q.p=some ⟨b,off,none⟩):u.h.get b=s.h.get b:=by
 obtain ⟨st',o1,o2,e1,e2⟩:=tV hs
 rw [hf] at e1;cases e1
 have I1:=(hr.ok h1).1
 have I2:=(hr.ok h2).1
 rcases Nat.lt_trichotomy i m with hlt |heq |hgt
 ·obtain ⟨x,_⟩:=hr.lt hlt h1 h2
  obtain ⟨g1,g2⟩:=x.xV id st o2 e2 (I1.obj _ _ _ hf).1
  rw [hf] at g1;cases g1
  exact g2 q n b off hq hb ho
 ·subst heq
  rw [h1] at h2;cases h2;rfl
 ·obtain ⟨x,_⟩:=hr.lt hgt h2 h1
  obtain ⟨g1,g2⟩:=x.xV id st o hf (I2.obj _ _ _ e2).1
  obtain ⟨q1,k1⟩:=lU.loc (I2.obj _ _ _ g1).2
  obtain ⟨q2,k2⟩:=lU.loc (I1.obj _ _ _ hf).2
  have:=x.mv.same k1 k2
  rw [hq] at k2;cases k2
  rw [this] at hb
  exact (g2 _ _ b off k1 hb ho).symm
theorem mI.Oh {l:List AO} {S:List (wj T)} (hr:mI E l S) {i m:Nat} {s u:wj T} (h1:S[i]?=some s) (h2:S[m]?=some u) {id:Nat} (hs:vi (cW s.ec.env id) (cW u.ec.env id)=true) {st b:Nat} {cs:List (X T)} {q:SV}
  (hf:cW s.ec.env id=some (st,.fb cs)) (hq:s.ρ id=some (q,0)) (hb:q.p=some ⟨b,0,none⟩):u.h.get b=s.h.get b:=by
 obtain ⟨st',o1,o2,e1,e2⟩:=tV hs
 rw [hf] at e1;cases e1
 have I1:=(hr.ok h1).1
 have I2:=(hr.ok h2).1
 rcases Nat.lt_trichotomy i m with hlt |heq |hgt
 ·obtain ⟨x,_⟩:=hr.lt hlt h1 h2
  obtain ⟨_,q',b',k1,k2,k3,k4,_⟩:=I1.obj _ _ _ hf
  rw [hq] at k1;cases k1
  rw [hb] at k2;cases k2
  exact x.mv.get b k3 k4
 ·subst heq
  rw [h1] at h2;cases h2;rfl
 ·obtain ⟨x,_⟩:=hr.lt hgt h2 h1
  obtain ⟨g1,_⟩:=x.xV id st _ hf (I2.obj _ _ _ e2).1
  obtain ⟨_,q',b',k1,k2,k3,k4,_⟩:=I2.obj _ _ _ g1
  have:=x.mv.same k1 hq
  rw [← this] at k2
  rw [hb] at k2;cases k2
  exact (x.mv.get b k3 k4).symm
theorem mI.ro {l:List AO} {S:List (wj T)} (hr:mI E l S) {i m:Nat} {s u:wj T} (h1:S[i]?=some s) (h2:S[m]?=some u) {b:Nat} (hlt:b < s.h.next) (ho:¬ak s.B s.ρ s.ec.env b) (hq:i<=m):u.h.get b=s.h.get b:=by
 rcases Nat.lt_or_ge i m with hl |hge
 ·exact (hr.lt hl h1 h2).1.mv.get b hlt ho
 ·have:i=m:=by omega
  subst this
  rw [h1] at h2;cases h2;rfl
theorem mI.dU {l:List AO} {S:List (wj T)} (hr:mI E l S) {i m:Nat} {s u:wj T} (h1:S[i]?=some s) (h2:S[m]?=some u) {g:Nat} {cs:List (X T)} (hg:E.dU g=some cs):u.h.get g=s.h.get g:=by
 rcases Nat.lt_trichotomy i m with hl |heq |hgt
 ·obtain ⟨g1,vs,g2,_⟩:=(hr.ok h1).1.dU g cs hg
  exact (hr.lt hl h1 h2).1.mv.get g g2.lt g1
 ·subst heq
  rw [h1] at h2;cases h2;rfl
 ·obtain ⟨g1,vs,g2,_⟩:=(hr.ok h2).1.dU g cs hg
  exact ((hr.lt hgt h2 h1).1.mv.get g g2.lt g1).symm
theorem gZ {b off n:Nat} {blk:eo} {us:List Value} {h h':H} (h1:h.get b=some blk) (h2:h'.get b=h.get b) (hr:blk.read=some us) (hl:off+n<=us.length) (hg:((us.drop off).take n).all qQ=true):c8 h h' ⟨b,off,none⟩ n=true:=by
 unfold c8
 rw [dG h1 hr hl,dG (h2.trans h1) hr hl]
 exact rQ hg
theorem rV {us:List Value} {off n:Nat} (hg:us.all qQ=true):((us.drop off).take n).all qQ=true:=by
 rw [List.all_eq_true] at hg ⊢
 exact fun w hw=>hg w (List.mem_of_mem_drop (List.mem_of_mem_take hw))
theorem mI.loc {l:List AO} {S:List (wj T)} (hr:mI E l S) {i m:Nat} {s u:wj T} (h1:S[i]?=some s) (h2:S[m]?=some u) {id n:Nat} {q q':SV} (hq:s.ρ id=some (q,n)) (hq':u.ρ id=some (q',n)):q=q':=by
 rcases Nat.lt_trichotomy i m with hlt |heq |hgt
 ·exact ((hr.lt hlt h1 h2).1.mv.same hq hq').symm
 ·subst heq
  rw [h1] at h2;cases h2
  rw [hq] at hq';cases hq';rfl
 ·exact (hr.lt hgt h2 h1).1.mv.same hq' hq
theorem rW {B:Nat->Prop} {ρ:Loc} {ec:EC T} {h:H} (I:aE E B ρ ec h) {a u:Nat} (hc:lg ec a u=true):∃q,ρ a=some (q,u):=by
 unfold lg at hc
 split at hc
 ·rename_i v e l hg
  obtain ⟨s,hf⟩:=aB hg
  obtain ⟨q,hq⟩:=lU.loc (I.obj a s _ hf).2
  exact ⟨q,by rw [hq,← Nat.eq_of_beq_eq_true hc];rfl⟩
 ·rename_i v e l hg
  obtain ⟨s,hf⟩:=aB hg
  obtain ⟨q,hq⟩:=lU.loc (I.obj a s _ hf).2
  exact ⟨q,by rw [hq,← Nat.eq_of_beq_eq_true hc];rfl⟩
 ·cases hc
theorem F3 {h:H} {O:Nat->Prop} {ρ:Loc} {a u:Nat} {q:SV} {w:Value} (hq:ρ a=some (q,u)) (d:D (T:=T) E h O ρ (.os a u) w):w= .slice q.p q.n q.c:=by
 cases d with
 |os _ _ n q1 q0 hq1 hle hw=>
  rw [hq] at hq1;cases hq1
  rw [hw rfl]
theorem Ex {l:List AO} {S:List (wj T)} (hr:mI E l S) {i m:Nat} {s u:wj T} (h1:S[i]?=some s) (h2:S[m]?=some u):∀{xs ys:List (X T)} {ws ws':List Value},BK s.ec u.ec xs ys=true->DL E s.h (ak s.B s.ρ s.ec.env) s.ρ xs ws->DL E u.h (ak u.B u.ρ u.ec.env) u.ρ ys ws'->ws=ws'
 | [],[],ws,ws',_,d,d'=>by
   have e1:ws=[]:=List.length_eq_zero_iff.1 d.1.symm
   have e2:ws'=[]:=List.length_eq_zero_iff.1 d'.1.symm
   rw [e1,e2]
 |x :: xs,y :: ys,ws,ws',hs,d,d'=>by
  unfold BK at hs
  split at hs
  ·cases ‹x :: xs=[]›
  ·rename_i a va r b vb r' e1 e2
   cases e1;cases e2
   simp only [Bool.and_eq_true] at hs
   obtain ⟨⟨⟨⟨k1,k2⟩,k3⟩,k4⟩,k5⟩:=hs
   obtain rfl:=Nat.eq_of_beq_eq_true k1
   obtain rfl:=Nat.eq_of_beq_eq_true k2
   obtain ⟨w,us,rfl,g1,g2⟩:=d.cM
   obtain ⟨w',us',rfl,g1',g2'⟩:=d'.cM
   obtain ⟨q,hq⟩:=rW (hr.ok h1).1 k3
   obtain ⟨q',hq'⟩:=rW (hr.ok h2).1 k4
   have:=hr.loc h1 h2 hq hq'
   subst this
   rw [F3 hq g1,F3 hq' g1',Ex hr h1 h2 k5 g2 g2']
  ·cases hs
 | [],_ :: _,_,_,hs,_,_=>by simp [BK] at hs
 |_ :: _,[],_,_,hs,_,_=>by simp [BK] at hs
theorem wq (hE:bM E) {ops:List AO} {S:List (wj T)} (hr:mI E ops S):∀{cs:List (Nat × Nat)} {K:Prop},LW E ops (S.map fun s=>(s.ts,s.ec)) cs K->cs.all (gG ops (S.map fun s=>(s.vs,s.h)))=true/\K
 | [],K,hs=>⟨rfl,hs⟩
 |c :: r,K,hs=>by
  obtain ⟨h1,h2⟩:=hs
  obtain ⟨k1,k2⟩:=wq hE hr h2
  refine ⟨?_,k2⟩
  rw [List.all_cons,k1,Bool.and_true]
  split at h1
  ·rename_i o ts ec ts' ec' ho hs1 hs2
   rw [List.getElem?_map,Option.map_eq_some_iff] at hs1 hs2
   obtain ⟨s,hs1,e1⟩:=hs1
   obtain ⟨u,hs2,e2⟩:=hs2
   cases e1;cases e2
   obtain ⟨I,d⟩:=hr.ok hs1
   unfold gG
   rw [ho,List.getElem?_map,List.getElem?_map,hs1,hs2]
   simp only [Option.map_some]
   rcases CD d h1 with ⟨hw,h1⟩ |⟨hw,_⟩
   ·rw [if_pos hw]
    split at h1
    ·rename_i agg n x hop
     rw [hop]
     simp only
     have dx:=D.bV d x
     generalize aj s.vs x=va at dx ⊢
     cases hx:bV s.ts x<;>rw [hx] at h1 dx<;>simp only at h1
     case ptr id off=>
      split at h1
      ·rename_i cs hg
       obtain ⟨hc,_⟩:=ai.1 h1
       simp only [Bool.and_eq_true] at hc
       obtain ⟨st,hf⟩:=aB hg
       obtain ⟨_,q,b,us,t,e,rr,g1,g2,g3,g4,g5⟩:=I.obj id st _ hf
       cases dx with
       |ptr _ _ b' q' hq hb=>
        rw [g1] at hq;cases hq
        rw [g2] at hb;cases hb
        have hle:off+n<=us.length:=by rw [← g5.1];exact Nat.le_of_ble_eq_true hc.1.1
        have hgd:=pH ((g5.drop off).take n) hc.1.2
        have hc2:=hc.2
        rw [Bool.or_eq_true] at hc2
        rcases hc2 with hc2 |hc2
        ·exact gZ g4 (hr.same hs1 hs2 hc2 hf rfl g1 g2) rfl hle hgd
        ·split at hc2
         ·rename_i cs' hg'
          simp only [Bool.and_eq_true] at hc2
          obtain ⟨I',d'⟩:=hr.ok hs2
          obtain ⟨st',hf'⟩:=aB hg'
          obtain ⟨_,q',b',us',t',e',rr',k1,k2,k3,k4,k5⟩:=I'.obj id st' _ hf'
          have hqq:=hr.loc hs1 hs2 g1 k1
          subst hqq
          rw [g2] at k2;cases k2
          have e:=Ex hr hs1 hs2 hc2.2 ((g5.drop off).take n) ((k5.drop off).take n)
          have hle':off+n<=us'.length:=by rw [← k5.1];exact Nat.le_of_ble_eq_true hc2.1
          show c8 s.h u.h ⟨b,off,none⟩ n=true
          unfold c8
          rw [dG g4 rfl hle,dG k4 rfl hle',← e]
          exact rQ hgd
         ·cases hc2
      ·rename_i cs hg
       obtain ⟨hc,_⟩:=ai.1 h1
       simp only [Bool.and_eq_true] at hc
       obtain ⟨st,hf⟩:=aB hg
       obtain ⟨_,q,b,g1,g2,g3,_,t,us,e,rr,g4,g5⟩:=I.obj id st _ hf
       cases dx with
       |ptr _ _ b' q' hq hb=>
        rw [g1] at hq;cases hq
        rw [g2] at hb;cases hb
        exact gZ g4 (hr.Oh hs1 hs2 hc.1.1 hf g1 g2) rfl (by rw [← g5.1];exact Nat.le_of_ble_eq_true hc.1.2) (pH ((g5.drop off).take n) hc.2)
      ·exact h1.elim
     case arr id base size len i=>
      split at h1
      ·rename_i cs hg
       obtain ⟨hc,_⟩:=ai.1 h1
       simp only [Bool.and_eq_true] at hc
       obtain ⟨st,hf⟩:=aB hg
       obtain ⟨_,q,b,us,t,e,rr,g1,g2,g3,g4,g5⟩:=I.obj id st _ hf
       have c1:=Nat.eq_of_beq_eq_true hc.1.1.1.2
       have c2:=Nat.eq_of_beq_eq_true hc.1.1.2
       have c3:=Nat.le_of_ble_eq_true hc.1.2
       have hul:=g5.1
       subst c1;subst c2
       cases dx with
       |arr _ _ _ _ b' _ q' hq hb hi0 hi1=>
        rw [g1] at hq;cases hq
        rw [g2] at hb;cases hb
        refine gZ g4 (hr.same hs1 hs2 hc.1.1.1.1 hf rfl g1 g2) rfl (by omega) ?_
        have hgood:=pH ((g5.drop base).take len) hc.2
        rw [List.all_eq_true] at hgood ⊢
        intro w hw
        refine hgood w ?_
        have hlt:i.toNat < len:=by omega
        rw [Nat.mul_one,List.take_one,List.head?_drop] at hw
        have hw2:us[base+i.toNat]?=some w:=by
         cases hu:us[base+i.toNat]? with
         |none=>rw [hu] at hw;simp at hw
         |some z=>rw [hu] at hw;simp at hw;rw [hw]
        refine List.mem_of_getElem? (i:=i.toNat) ?_
        rw [List.getElem?_take_of_lt hlt,List.getElem?_drop];exact hw2
      ·exact h1.elim
     case ea e r off=>
      obtain ⟨hc,_⟩:=ai.1 h1
      simp only [Bool.and_eq_true] at hc
      cases dx with
      |ea _ _ _ b o' cs hlay hlen hown hrow=>
       obtain ⟨k,k3,k4⟩:=hlay.at'
       have hle:=Nat.le_of_ble_eq_true hc.1.1
       rw [hE.len] at hle
       have dl:DL E s.h (ak s.B s.ρ s.ec.env) s.ρ (E.enc e r) ((cs.drop o').take (E.sz e)):=⟨by rw [hE.len,List.length_take,List.length_drop];omega,fun j x w h1 h2=>by
        have hj:j < E.sz e:=by rw [← hE.len e r];exact (List.getElem?_eq_some_iff.1 h1).1
        rw [List.getElem?_take_of_lt hj,List.getElem?_drop] at h2
        exact hrow j x w h1 h2⟩
       have hgood:=pH dl hc.1.2
       refine gZ k3 (hr.ro hs1 hs2 hlay.lt hown (Nat.le_of_ble_eq_true hc.2)) k4 (by omega) ?_
       have e3:(cs.drop (o'+off)).take n=(((cs.drop o').take (E.sz e)).drop off).take n:=by
        rw [List.drop_take,List.drop_drop,List.take_take,Nat.min_eq_left (by omega)]
       rw [e3];exact rV hgood
     case oa id cB e i off=>
      split at h1
      ·rename_i v' e' l hg
       obtain ⟨hc,h3⟩:=ai.1 h1
       simp only [Bool.and_eq_true] at hc
       have c1:=Nat.eq_of_beq_eq_true hc.1.1.2
       have c2:=Nat.eq_of_beq_eq_true hc.1.2
       have c3:=Nat.le_of_ble_eq_true hc.2
       subst c1;subst c2
       obtain ⟨st,hf⟩:=aB hg
       obtain ⟨_,q,rows,g1,g0,g2,g3,g4,g5⟩:=I.obj id st _ hf
       cases dx with
       |oa _ _ n' _ _ _ q' b o' hq hle hwv=>
        rw [g1] at hq;cases hq
        obtain ⟨hlt,hb,rfl⟩:=hwv rfl
        rcases g2.2 with ⟨e1,_⟩ |⟨b',t,e1,hblt,hblk⟩
        ·rw [e1] at hb;cases hb
        ·have hp:b'=b:=by rw [e1] at hb;cases hb;rfl
         subst hp
         have hqn:q.n=rows.length:=by rw [e1]
         have hil:i.toNat < l.length:=by omega
         have hir:i.toNat < rows.length:=by omega
         have dl:=g5 i.toNat _ _ (List.getElem?_eq_getElem hil) (List.getElem?_eq_getElem hir)
         have hgood:=pH dl (ai.1 (h3 _ (List.getElem?_eq_getElem hil))).1
         have hsz:=g2.1 _ (List.getElem_mem hir)
         have hfl:=dR g2.1
         have hrow:=gY g2.1 (List.getElem?_eq_getElem hir)
         have hb1:i.toNat * E.sz e+E.sz e<=rows.length * E.sz e:=by
          have:=Nat.mul_le_mul_right (E.sz e) (show i.toNat+1<=rows.length by omega)
          rw [Nat.add_mul,Nat.one_mul] at this;exact this
         refine gZ hblk (hr.same hs1 hs2 hc.1.1.1 hf rfl g1 hb) rfl (by omega) ?_
         have e3:(rows.flatten.drop (i.toNat * E.sz e+off)).take n=(rows[i.toNat].drop off).take n:=by
          rw [← hrow,List.drop_take,List.drop_drop,List.take_take,Nat.min_eq_left (by omega)]
         rw [e3];exact rV hgood
      ·exact h1.elim
     case gp g off=>
      split at h1
      ·rename_i cs hg
       obtain ⟨hc,_⟩:=ai.1 h1
       simp only [Bool.and_eq_true] at hc
       obtain ⟨_,us,k1',k2'⟩:=I.dU g cs hg
       obtain ⟨k,k3,k4⟩:=k1'.at'
       cases dx with
       |gp _ _=>exact gZ k3 (hr.dU hs1 hs2 hg) k4 (by rw [← k2'.1];exact Nat.le_of_ble_eq_true hc.1) (rV (pH k2' hc.2))
      ·exact h1.elim
     case ga g base size len i=>
      split at h1
      ·rename_i cs hg
       obtain ⟨hc,_⟩:=ai.1 h1
       simp only [Bool.and_eq_true] at hc
       have c1:=Nat.eq_of_beq_eq_true hc.1.1.1
       have c2:=Nat.eq_of_beq_eq_true hc.1.1.2
       have c3:=Nat.le_of_ble_eq_true hc.1.2
       subst c1;subst c2
       obtain ⟨_,us,k1',k2'⟩:=I.dU g cs hg
       have hul:=k2'.1
       obtain ⟨k,k3,k4⟩:=k1'.at'
       cases dx with
       |ga _ _ _ _ _ hi0 hi1=>exact gZ k3 (hr.dU hs1 hs2 hg) k4 (by omega) (rV (pH k2' hc.2))
      ·exact h1.elim
     all_goals exact h1.elim
    ·exact h1.elim
   ·rw [if_neg (by rw [hw];simp)]
  ·exact h1.elim
end Go.Ev
namespace Go.Ev
open Go
variable {T:TypeId->Type} {P:Program} {E:gR T} {W:Rec} {Γ:Hi T} {ρ:Loc} {h:H} {O:Nat->Prop} {ts:List (X T)} {vs:List Value}
theorem tW {r:Rec} {ops:List AO} {a:aD} {h:H} {p:Nat} {G:List (List Value × H)} {o:AO} {ts:List Value} {h1:H} {v:Value} {a1:aD} {h2:H}
  (hG:trace P r (ops.take p) a.tmps h=some G) (ho:ops[p]?=some o) (hp:G[p]?=some (ts,h1)) (he:cG P r o {a with tmps:=ts} h1=some (.panic v a1 h2))
  {cks:List (Nat × Nat)} {bads:List Tmp} (hck:cks.all (gG (ops.take p) G)=true):
  ∀{cs:oD},yg cs p=some (cks,bads)->dV P r ops a h cs=some (.panic v,{a1 with tmps:=ij bads a1.tmps},h2)
 | [],hf=>by cases hf
 |c :: cs,hf=>by
  have hplt:p < ops.length:=(List.getElem?_eq_some_iff.1 ho).1
  have hGlen:G.length=p+1:=by
   obtain ⟨vs,_,h2,_⟩:=cZ _ _ _ _ hG
   rw [h2,List.length_take];omega
  simp only [yg] at hf
  rcases Nat.lt_trichotomy c.1 p with hlt |heq |hgt
  ·have hb:Nat.beq c.1 p=false:=by
    cases hb:Nat.beq c.1 p with
    |false=>rfl
    |true=>have:=Nat.eq_of_beq_eq_true hb;omega
   rw [hb] at hf
   have ih:=tW hG ho hp he hck (cs:=cs) hf
   have h3:=gV c.1 hG
   rw [List.take_take,Nat.min_eq_left (Nat.le_of_lt hlt)] at h3
   obtain ⟨vs,g1,g2,g3,g4⟩:=cZ _ _ _ _ hG
   have hclt:c.1 < ops.length:=by omega
   obtain ⟨oc,hoc⟩:∃oc,ops[c.1]?=some oc:=⟨_,List.getElem?_eq_getElem hclt⟩
   have hoc':(ops.take p)[c.1]?=some oc:=by rw [List.getElem?_take_of_lt hlt];exact hoc
   have hvlt:c.1 < vs.length:=by rw [g1,List.length_take];omega
   obtain ⟨tsi,hi,h',f1,f2,f3⟩:=g4 c.1 oc _ hoc' (List.getElem?_eq_getElem hvlt)
   have f1':(G.take (c.1+1))[c.1]?=some (tsi,hi):=by rw [List.getElem?_take_of_lt (by omega)];exact f1
   have hne:∀v a' h',cG P r oc {a with tmps:=tsi} hi≠some (.panic v a' h'):=fun v a' h' e=>by
    have:=fX e
    simp only at this
    rw [f2] at this
    cases this
   simp only [dV,h3,hoc,f1']
   cases hev:cG P r oc {a with tmps:=tsi} hi with
   |none=>exact ih
   |some st=>cases st with
    |on a' h'=>exact ih
    |panic v a' h'=>exact absurd hev (hne _ _ _)
  ·rw [heq,Nat.beq_refl] at hf
   simp only [cond_true,Option.some.injEq] at hf
   simp only [dV,heq,hG,ho,hp,he,hf,hck,if_true]
  ·have hb:Nat.beq c.1 p=false:=by
    cases hb:Nat.beq c.1 p with
    |false=>rfl
    |true=>have:=Nat.eq_of_beq_eq_true hb;omega
   rw [hb] at hf
   have ih:=tW hG ho hp he hck (cs:=cs) hf
   have hnone:trace P r (ops.take c.1) a.tmps h=none:=by
    cases ht:trace P r (ops.take c.1) a.tmps h with
    |none=>rfl
    |some G2=>
     have h3:=gV p ht
     rw [List.take_take,Nat.min_eq_left (Nat.le_of_lt hgt)] at h3
     rw [hG] at h3
     obtain ⟨vs,g1,g2,g3,g4⟩:=cZ _ _ _ _ ht
     have ho':(ops.take c.1)[p]?=some o:=by rw [List.getElem?_take_of_lt hgt];exact ho
     have hvlt:p < vs.length:=by rw [g1,List.length_take];omega
     obtain ⟨tsi,hi,h',f1,f2,f3⟩:=g4 p o _ ho' (List.getElem?_eq_getElem hvlt)
     have:G[p]?=some (tsi,hi):=by
      rw [Option.some.inj h3,List.getElem?_take_of_lt (by omega)];exact f1
     rw [hp] at this
     cases this
     have:=fX he
     simp only at this
     rw [f2] at this
     cases this
   simp only [dV,hnone,ih]
theorem DL.mark:∀{bads:List Tmp} {ts:List (X T)} {vs:List Value},DL E h O ρ ts vs->DL E h O ρ (Eu bads ts) (ij bads vs)
 | [],_,_,d=>d
 |t :: r,ts,vs,d=>by
  show DL E h O ρ (Eu r (ts.set t .bad)) (ij r (vs.set t K6))
  exact DL.mark (d.set t (.bad _))
theorem G3 {D:List Tmp}:∀{bads:List Tmp} {a b:List Value},sN D a b->(bads.all fun t=>kI D t)=true->sN D a (ij bads b)
 | [],_,_,f,_=>f
 |t :: r,a,b,f,hb=>by
  simp only [List.all_cons,Bool.and_eq_true] at hb
  show sN D a (ij r (b.set t K6))
  refine G3 ⟨by simp [f.1],fun s hs=>?_⟩ hb.2
  have hne:t≠s:=fun e=>by rw [e,hs] at hb;cases hb.1
  rw [← f.2 s hs]
  simp only [List.getD_eq_getElem?_getD,List.getElem?_set_ne hne]
theorem tX {t:Tmp}:∀{l:List AO} {n:Nat},t∈fE (l.take n)->t∈fE l
 | [],n,h=>by simpa using h
 |o :: l,0,h=>by simp [fE] at h
 |o :: l,n+1,h=>by
  simp only [List.take_succ_cons,fE] at h ⊢
  split at h
  ·rcases List.mem_cons.1 h with h1 |h1
   ·exact List.mem_cons.2 (.inl h1)
   ·exact List.mem_cons_of_mem _ (tX h1)
  ·exact tX h
end Go.Ev
namespace Go.Ev
open Go
variable {T:TypeId->Type} {P:Program} {E:gR T} {W:Rec} {Γ:Hi T} {Y:Nat->Bool->(Nat->Prop)->(Nat->Prop)->H->Prop} {B B':Nat->Prop} {ρ ρ1 ρ' ρE:Loc} {ec ec' ec'':EC T} {h h' h'' hE':H} {O O':Nat->Prop} {ts:List (X T)} {vs:List Value}
theorem aE.Nl (I:aE E B ρ ec h) {id s b:Nat} {cs cs':List (X T)} (hf:cW ec.env id=some (s,.box cs)) {q:SV} {us:List Value} {t:Bool} {e r:Nat} (h1:ρ id=some (q,0)) (h2:q.p=some ⟨b,0,none⟩) (h4:h.get b=some (.cells t us e r))
  (hd:DL E h (ak B ρ ec.env) ρ cs' us):q9 E B ρ ec h ρ (ec.put id (.box cs')) h:=by
 obtain ⟨a,b',c⟩:=I.lN (ec':=ec.put id (.box cs')) (ρ':=ρ) (h':=h) id ec.cnt (.box cs') (iy ec id _) (Nat.le_refl _) (Nat.lt_succ_self _) (Nat.lt_succ_of_lt (I.jz hf))
  (fun _ _=>rfl) (fun q' n' hq'=>⟨q',n',hq',Nat.le_refl _,fun _=>rfl,fun e=>e⟩) (fun q' n' hq'=>Nat.lt_succ_of_lt (I.lG _ _ _ hq')) I.top (Nat.le_refl _)
  (fun c hc hne=>rfl) (fun q' n' b1 off1 _ g2 g3=>.inr ⟨s,_,q',n',off1,hf,rfl,g2,g3⟩)
  (fun m=>⟨q,b,us,t,e,r,h1,h2,I.rf hf rfl h1 h2,h4,hd.mv m⟩)
 exact ⟨a,b',c,rfl,rfl⟩
theorem xw (I:aE E B ρ ec h) {s:F2} {x y:X T} {w:Value} (d:D E h (ak B ρ ec.env) ρ x w) (hn:wm s x ec=(y,ec')):
  ∃ρ',q9 E B ρ ec h ρ' ec' h/\D E h (ak B ρ' ec'.env) ρ' y w/\(∀id,id < ec.cnt->cW ec'.env id=cW ec.env id):=by
 unfold wm at hn
 split at hn
 ·rename_i e
  cases hn
  have:=uS d
  subst this
  refine ⟨_,I.KJ e,.os ec.cnt 1 1 ⟨none,0,0⟩ ⟨none,0,0⟩ (b9 _ _ _) (Nat.le_refl _) fun _=>rfl,fun id hid=>?_⟩
  rw [CJ,if_neg (by omega)]
 ·cases hn
  exact ⟨ρ,.refl I,d,fun _ _=>rfl⟩
theorem vl:∀{ss:List F2} {xs ys:List (X T)} {us:List Value} {ρ:Loc} {ec ec':EC T},aE E B ρ ec h->DL E h (ak B ρ ec.env) ρ xs us->nj ss xs ec=(ys,ec')->
  ∃ρ',q9 E B ρ ec h ρ' ec' h/\DL E h (ak B ρ' ec'.env) ρ' ys us/\(∀id,id < ec.cnt->cW ec'.env id=cW ec.env id)
 |s :: r,x :: xs,ys,us,ρ,ec,ec',I,d,hn=>by
  simp only [nj] at hn
  cases h1:wm s x ec with
  |mk y ec1=>
   rw [h1] at hn
   simp only at hn
   cases h2:nj r xs ec1 with
   |mk ys' ec2=>
    rw [h2] at hn
    cases hn
    obtain ⟨w,ws,rfl,d1,d2⟩:=d.cM
    obtain ⟨ρ1,s1,g1,f1⟩:=xw I d1 h1
    obtain ⟨ρ2,s2,g2,f2⟩:=vl s1.inv (d2.mv s1.ext.mv) h2
    have hc:=s1.ext.cnt
    exact ⟨ρ2,s1.trans I s2,.cons (g1.mv s2.ext.mv) g2,fun id hid=>(f2 id (by omega)).trans (f1 id hid)⟩
 | [],xs,ys,us,ρ,ec,ec',I,d,hn=>by
   simp only [nj] at hn
   cases hn
   exact ⟨ρ,.refl I,d,fun _ _=>rfl⟩
 |_ :: _,[],ys,us,ρ,ec,ec',I,d,hn=>by
  simp only [nj] at hn
  cases hn
  exact ⟨ρ,.refl I,d,fun _ _=>rfl⟩
theorem iJ:∀{its:List An} {ts tE:List (X T)} {ρ:Loc} {ec eE:EC T},aE E B ρ ec h->DL E h (ak B ρ ec.env) ρ ts vs->G1 its ts ec=(tE,eE)->∃ρE,q9 E B ρ ec h ρE eE h/\DL E h (ak B ρE eE.env) ρE tE vs
 | [],ts,tE,ρ,ec,eE,I,d,hn=>by
   cases hn
   exact ⟨ρ,.refl I,d⟩
 | .slot t s :: r,ts,tE,ρ,ec,eE,I,d,hn=>by
   simp only [G1] at hn
   cases h1:wm s (ts.getD t .bad) ec with
   |mk x ec1=>
    rw [h1] at hn
    simp only at hn
    obtain ⟨ρ1,s1,g1,_⟩:=xw I (d.getD t undef) h1
    have d1:=(d.mv s1.ext.mv).set t g1
    have hv:vs.set t (vs.getD t undef)=vs:=by
     rw [List.getD_eq_getElem?_getD]
     rcases Nat.lt_or_ge t vs.length with h3 |h3
     ·rw [List.getElem?_eq_getElem h3];simp
     ·rw [List.set_eq_of_length_le h3]
    rw [hv] at d1
    obtain ⟨ρ2,s2,g2⟩:=iJ s1.inv d1 hn
    exact ⟨ρ2,s1.trans I s2,g2⟩
 | .box t ss :: r,ts,tE,ρ,ec,eE,I,d,hn=>by
   simp only [G1] at hn
   split at hn
   ·rename_i id hx
    split at hn
    ·rename_i cs hg
     cases h1:nj ss cs ec with
     |mk cs' ec1=>
      rw [h1] at hn
      simp only at hn
      obtain ⟨s,hf⟩:=aB hg
      obtain ⟨_,q,b,us,tt,e,rr,k1,k2,k3,k4,k5⟩:=I.obj id s _ hf
      obtain ⟨ρ1,s1,g1,f1⟩:=vl I k5 h1
      have hf1:cW ec1.env id=some (s,.box cs):=(f1 id (I.jz hf)).trans hf
      have s2:=s1.inv.Nl hf1 (s1.ext.mv.fix k1) k2 k4 g1
      obtain ⟨ρ3,s3,g3⟩:=iJ s2.inv ((d.mv s1.ext.mv).mv s2.ext.mv) hn
      exact ⟨ρ3,(s1.trans I s2).trans I s3,g3⟩
    ·exact iJ I d hn
   ·exact iJ I d hn
 | .cont _ _ :: r,ts,tE,ρ,ec,eE,I,d,hn=>iJ (its:=r) I d hn
 | .Et _ _ _ :: r,ts,tE,ρ,ec,eE,I,d,hn=>iJ (its:=r) I d hn
 | .k :: r,ts,tE,ρ,ec,eE,I,d,hn=>iJ (its:=r) I d hn
inductive MX (eE e1:EC T) (n:Nat):X T->X T->Prop where
 |v (w:Value):MX eE e1 n (.v w) (.v w)
 |vs (l:List Value):MX eE e1 n (.agg (l.map .v)) (.agg (l.map .v))
 |ro (e:TypeId) (l:List (T e)):MX eE e1 n (.ro e l) (.ro e l)
 |os (id u:Nat) (e:TypeId) (l:List (T e)) (hg:e1.get id=some (.os u e l)) (hid:id < n):MX eE e1 n (.os id u) (.os id n)
 |O6 (id u:Nat) (e:TypeId) (l:List (T e)) (hg:e1.get id=some (.os u e l)\/e1.get id=some (.fz u e l)) (hid:n<=id):MX eE e1 n (.os id u) (.ro e l)
 |nil (e:TypeId):MX eE e1 n (.v (.slice none 0 0)) (.ro e [])
 |same (x:X T) (hx:X.cR n x x=true):MX eE e1 n x x
 |Pj (id u:Nat) (hE:lg eE id u=true) (h1:lg e1 id u=true) (hid:id < eE.cnt):MX eE e1 n (.os id u) (.os id u)
 |bad (x:X T):MX eE e1 n x .bad
mutual
theorem Ey {n:Nat}:∀{x y:X T},X.cR n x y=true->x=y/\X.cR n x x=true
 | .ptr a b,y,h=>by
   cases y with
   |ptr c d=>
    simp only [X.cR,Bool.and_eq_true] at h ⊢
    rw [Nat.eq_of_beq_eq_true h.1.1,Nat.eq_of_beq_eq_true h.1.2]
    exact ⟨rfl,⟨Nat.beq_refl _,Nat.beq_refl _⟩,by rw [← Nat.eq_of_beq_eq_true h.1.1];exact h.2⟩
   |_=>simp [X.cR] at h
 | .mp a,y,h=>by
   cases y with
   |mp c=>
    simp only [X.cR,Bool.and_eq_true] at h ⊢
    rw [Nat.eq_of_beq_eq_true h.1]
    exact ⟨rfl,Nat.beq_refl _,by rw [← Nat.eq_of_beq_eq_true h.1];exact h.2⟩
   |_=>simp [X.cR] at h
 | .fn g a b,y,h=>by
   cases y with
   |fn g' a' b'=>
    simp only [X.cR,Bool.and_eq_true] at h ⊢
    obtain ⟨e1,k1⟩:=rX h.1.2
    obtain ⟨e2,k2⟩:=rX h.2
    rw [Nat.eq_of_beq_eq_true h.1.1,← e1,← e2]
    exact ⟨rfl,⟨Nat.beq_refl _,k1⟩,k2⟩
   |_=>simp [X.cR] at h
 | .agg a,y,h=>by
   cases y with
   |agg b=>
    simp only [X.cR] at h ⊢
    obtain ⟨e1,k1⟩:=rX h
    rw [← e1];exact ⟨rfl,k1⟩
   |_=>simp [X.cR] at h
 | .bad,y,h=>by
   cases y with
   |bad=>exact ⟨rfl,rfl⟩
   |_=>simp [X.cR] at h
 | .v _,y,h=>by simp [X.cR] at h
 | .op _,y,h=>by simp [X.cR] at h
 | .ro _ _,y,h=>by simp [X.cR] at h
 | .os _ _,y,h=>by simp [X.cR] at h
 | .arr _ _ _ _ _,y,h=>by simp [X.cR] at h
 | .ea _ _ _,y,h=>by simp [X.cR] at h
 | .oa _ _ _ _ _,y,h=>by simp [X.cR] at h
 | .gp _ _,y,h=>by simp [X.cR] at h
 | .ga _ _ _ _ _,y,h=>by simp [X.cR] at h
 | .gD _,y,h=>by simp [X.cR] at h
 | .o9 _ _,y,h=>by simp [X.cR] at h
theorem rX {n:Nat}:∀{l m:List (X T)},X.mJ n l m=true->l=m/\X.mJ n l l=true
 | [],m,h=>by
   cases m with
   |nil=>exact ⟨rfl,rfl⟩
   |cons _ _=>simp [X.mJ] at h
 |x :: r,m,h=>by
  cases m with
  |nil=>simp [X.mJ] at h
  |cons y s=>
   simp only [X.mJ,Bool.and_eq_true] at h ⊢
   obtain ⟨e1,k1⟩:=Ey h.1
   obtain ⟨e2,k2⟩:=rX h.2
   rw [← e1,← e2];exact ⟨rfl,k1,k2⟩
end
mutual
theorem KK {n:Nat} (hρ:∀id q,id < n->ρ id=some (q,0)->ρ' id=some (q,0)):∀{x:X T} {w:Value},X.cR n x x=true->D E h O ρ x w->D E h O' ρ' x w
 | .ptr a b,w,hs,d=>by
   simp only [X.cR,Bool.and_eq_true] at hs
   cases d with
   |ptr _ _ b q hq hb=>exact .ptr _ _ b q (hρ _ q (by have:=hs.2;rw [Nat.blt_eq] at this;exact this) hq) hb
 | .mp a,w,hs,d=>by
   simp only [X.cR,Bool.and_eq_true] at hs
   cases d with
   |mp _ b q hq hb=>exact .mp _ b q (hρ _ q (by have:=hs.2;rw [Nat.blt_eq] at this;exact this) hq) hb
 | .fn g a b,w,hs,d=>by
   simp only [X.cR,Bool.and_eq_true] at hs
   cases d with
   |fn _ _ _ va vb ha hb hda hdb=>
    have k1:=yh (l:=a) (us:=va) hρ hs.1.2 ⟨ha,hda⟩
    have k2:=yh (l:=b) (us:=vb) hρ hs.2 ⟨hb,hdb⟩
    exact .fn g a b va vb ha hb k1.2 k2.2
 | .agg a,w,hs,d=>by
   simp only [X.cR] at hs
   cases d with
   |agg _ us hl hd=>
    have k1:=yh (l:=a) (us:=us) hρ hs ⟨hl,hd⟩
    exact .agg a us k1.1 k1.2
 | .bad,w,_,_=>.bad w
 | .v _,w,h,_=>by simp [X.cR] at h
 | .op _,w,h,_=>by simp [X.cR] at h
 | .ro _ _,w,h,_=>by simp [X.cR] at h
 | .os _ _,w,h,_=>by simp [X.cR] at h
 | .arr _ _ _ _ _,w,h,_=>by simp [X.cR] at h
 | .ea _ _ _,w,h,_=>by simp [X.cR] at h
 | .oa _ _ _ _ _,w,h,_=>by simp [X.cR] at h
 | .gp _ _,w,h,_=>by simp [X.cR] at h
 | .ga _ _ _ _ _,w,h,_=>by simp [X.cR] at h
 | .gD _,w,h,_=>by simp [X.cR] at h
 | .o9 _ _,w,h,_=>by simp [X.cR] at h
theorem yh {n:Nat} (hρ:∀id q,id < n->ρ id=some (q,0)->ρ' id=some (q,0)):∀{l:List (X T)} {us:List Value},X.mJ n l l=true->DL E h O ρ l us->DL E h O' ρ' l us
 | [],us,_,d=>by
   have:us=[]:=List.length_eq_zero_iff.1 d.1.symm
   subst this;exact .nil
 |x :: r,us,hs,d=>by
  obtain ⟨w,ws,rfl,d1,d2⟩:=d.cM
  simp only [X.mJ,Bool.and_eq_true] at hs
  exact .cons (KK hρ hs.1 d1) (yh hρ hs.2 d2)
end
end Go.Ev
namespace Go.Ev
open Go
variable {T:TypeId->Type} {P:Program} {E:gR T} {W:Rec} {Γ:Hi T} {B BE:Nat->Prop} {ρ ρ1 ρE:Loc} {eE e1 eh ec ec':EC T} {h hE':H} {O O':Nat->Prop} {ts t1 tE th:List (X T)} {vs vsE:List Value} {n:Nat}
inductive MO (eE e1:EC T) (n:Nat):Ob T->Ob T->Prop where
 |box (cs1 cs:List (X T)) (hl:cs1.length=cs.length) (hm:∀(j:Nat) (x1 x:X T),cs1[j]?=some x1->cs[j]?=some x->MX eE e1 n x1 x):MO eE e1 n (.box cs1) (.box cs)
 |os (v v':Nat) (e:TypeId) (l:List (T e)) (hv:v'=n\/v'=v/\v < n):MO eE e1 n (.os v e l) (.os v' e l)
structure HQ (eE e1:EC T) (n:Nat) (ec:EC T):Prop where
 cnt:n < ec.cnt
 env:∀id s o,cW ec.env id=some (s,o)->(s < n/\cW eE.env id=some (s,o))\/(n < s/\s < ec.cnt/\id < n/\∃s1 o1,cW e1.env id=some (s1,o1)/\MO eE e1 n o1 o)
theorem HQ.put (q:HQ eE e1 n ec) {id:Nat} {o o1:Ob T} (hid:id < n) (hg:e1.get id=some o1) (hm:MO eE e1 n o1 o):HQ eE e1 n (ec.put id o):=by
 have hc:(ec.put id o).cnt=ec.cnt+1:=rfl
 refine ⟨by rw [hc];have:=q.cnt;omega,fun i s o' hf=>?_⟩
 rw [iy] at hf
 split at hf
 ·rename_i he
  cases hf
  obtain ⟨s1,hf1⟩:=aB hg
  exact .inr ⟨q.cnt,by rw [hc];omega,by rw [he];exact hid,s1,o1,by rw [he];exact hf1,hm⟩
 ·rcases q.env i s o' hf with h1 |⟨h1,h2,h3⟩
  ·exact .inl h1
  ·exact .inr ⟨h1,by rw [hc];omega,h3⟩
theorem Ad:∀{xs:List (X T)} {l:List (CX T)},BM xs=some l->∃us:List Value,xs=us.map .v/\l=us.map .x
 | [],l,h=>by
   simp only [BM,Option.some.injEq] at h
   subst h;exact ⟨[],rfl,rfl⟩
 |x :: r,l,h=>by
  cases x with
  |v w=>
   simp only [BM] at h
   split at h
   ·rename_i l' hl
    cases h
    obtain ⟨us,e1,e2⟩:=Ad hl
    exact ⟨w :: us,by simp [e1],by simp [e2]⟩
   ·cases h
  |_=>simp [BM] at h
theorem Ez (hn:eE.cnt=n) (q:HQ eE e1 n ec) {s:F2} {xE x1 x:X T} (hxE:∀id v,xE= .os id v->id < n) {a b cx':List (CX T)} (hr:vj s eE xE x1 e1=some a) (hh:pT s n xE (a++b) ec=some (x,cx',ec')):cx'=b/\MX eE e1 n x1 x/\HQ eE e1 n ec'/\ec'.k=ec.k/\ec'.fin=ec.fin:=by
 cases s with
 | «at» t=>
   simp only [vj] at hr
   split at hr
   ·rename_i w
    cases hr
    simp only [pT,List.cons_append,List.nil_append,Option.some.injEq,Prod.mk.injEq] at hh
    obtain ⟨rfl,rfl,rfl⟩:=hh
    exact ⟨rfl,.v w,q,rfl,rfl⟩
   ·cases hr
 |agg l=>
  simp only [vj] at hr
  split at hr
  ·rename_i xs
   split at hr
   ·rename_i hb
    have hlen:=Nat.eq_of_beq_eq_true hb
    obtain ⟨us,e2,e3⟩:=Ad hr
    subst e2;subst e3
    simp only [List.length_map] at hlen
    simp only [pT] at hh
    split at hh
    ·simp only [Option.some.injEq,Prod.mk.injEq] at hh
     obtain ⟨rfl,rfl,rfl⟩:=hh
     have e4:(us.map CX.x++b).take l.length=us.map (CX.x (T:=T)):=by rw [← hlen,← List.length_map (f:=CX.x (T:=T)),List.take_left'];rfl
     have e5:(us.map CX.x++b).drop l.length=b:=by rw [← hlen,← List.length_map (f:=CX.x (T:=T)),List.drop_left'];rfl
     refine ⟨e5,?_,q,rfl,rfl⟩
     rw [e4,List.map_map]
     exact .vs us
    ·cases hh
   ·cases hr
  ·cases hr
 |os e=>
  simp only [vj] at hr
  split at hr
  ·rename_i id u id' v
   split at hr
   ·rename_i v' e' l hb hg
    split at hr
    ·rename_i hv
     cases hr
     have h1:=Nat.eq_of_beq_eq_true hb
     have h2:=Nat.eq_of_beq_eq_true hv
     subst h1;subst h2
     simp only [pT,List.cons_append,List.nil_append,Option.some.injEq,Prod.mk.injEq] at hh
     obtain ⟨rfl,rfl,rfl⟩:=hh
     have hid:=hxE _ _ rfl
     exact ⟨rfl,.os id v e' l hg hid,q.put hid hg (.os v n e' l (.inl rfl)),rfl,rfl⟩
    ·cases hr
   ·cases hr
  ·cases hr
 |ro e=>
  simp only [vj] at hr
  split at hr
  ·rename_i e' l
   cases hr
   simp only [pT,List.cons_append,List.nil_append,Option.some.injEq,Prod.mk.injEq] at hh
   obtain ⟨rfl,rfl,rfl⟩:=hh
   exact ⟨rfl,.ro e' l,q,rfl,rfl⟩
  ·rename_i id v
   split at hr
   ·rename_i v' e' l hb hg
    split at hr
    ·rename_i hv
     cases hr
     have h2:=Nat.eq_of_beq_eq_true hv
     subst h2
     simp only [pT,List.cons_append,List.nil_append,Option.some.injEq,Prod.mk.injEq] at hh
     obtain ⟨rfl,rfl,rfl⟩:=hh
     exact ⟨rfl,.O6 id v e' l (.inl hg) (by rw [← hn];exact Nat.le_of_ble_eq_true hb),q,rfl,rfl⟩
    ·cases hr
   ·rename_i v' e' l hb hg
    split at hr
    ·rename_i hv
     cases hr
     have h2:=Nat.eq_of_beq_eq_true hv
     subst h2
     simp only [pT,List.cons_append,List.nil_append,Option.some.injEq,Prod.mk.injEq] at hh
     obtain ⟨rfl,rfl,rfl⟩:=hh
     exact ⟨rfl,.O6 id v e' l (.inr hg) (by rw [← hn];exact Nat.le_of_ble_eq_true hb),q,rfl,rfl⟩
    ·cases hr
   ·cases hr
  ·cases hr
   simp only [pT,List.cons_append,List.nil_append,Option.some.injEq,Prod.mk.injEq] at hh
   obtain ⟨rfl,rfl,rfl⟩:=hh
   exact ⟨rfl,.nil e,q,rfl,rfl⟩
  ·cases hr
 |same=>
  simp only [vj] at hr
  split at hr
  ·rename_i hs
   cases hr
   simp only [pT,List.nil_append,Option.some.injEq,Prod.mk.injEq] at hh
   obtain ⟨rfl,rfl,rfl⟩:=hh
   rw [Bool.or_eq_true] at hs
   rcases hs with hs |hs
   ·rw [hn] at hs
    obtain ⟨e2,e3⟩:=Ey hs
    subst e2
    exact ⟨rfl,.same _ e3,q,rfl,rfl⟩
   ·unfold KG at hs
    split at hs
    ·simp only [Bool.and_eq_true] at hs
     obtain ⟨⟨⟨⟨k1,k2⟩,k3⟩,k4⟩,k5⟩:=hs
     obtain rfl:=Nat.eq_of_beq_eq_true k1
     obtain rfl:=Nat.eq_of_beq_eq_true k2
     exact ⟨rfl,.Pj _ _ k4 k5 (gO.1 k3),q,rfl,rfl⟩
    ·cases hs
  ·cases hr
 |any=>
  simp only [vj,Option.some.injEq] at hr
  subst hr
  simp only [pT,List.nil_append,Option.some.injEq,Prod.mk.injEq] at hh
  obtain ⟨rfl,rfl,rfl⟩:=hh
  exact ⟨rfl,.bad _,q,rfl,rfl⟩
theorem BO (hn:eE.cnt=n):∀{ss:List F2} {xsE xs1 xs:List (X T)} {a b cx':List (CX T)} {ec ec':EC T},HQ eE e1 n ec->(∀x∈xsE,∀id v,x= .os id v->id < n)->pE ss eE xsE xs1 e1=some a->Ac ss n xsE (a++b) ec=some (xs,cx',ec')->
  cx'=b/\xs1.length=xs.length/\(∀(j:Nat) (x1 x:X T),xs1[j]?=some x1->xs[j]?=some x->MX eE e1 n x1 x)/\HQ eE e1 n ec'/\ec'.k=ec.k/\ec'.fin=ec.fin
 | [],[],[],xs,a,b,cx',ec,ec',q,_,hr,hh=>by
   simp only [pE,Option.some.injEq] at hr
   subst hr
   simp only [Ac,List.nil_append,Option.some.injEq,Prod.mk.injEq] at hh
   obtain ⟨rfl,rfl,rfl⟩:=hh
   exact ⟨rfl,rfl,fun j x1 x h=>by simp at h,q,rfl,rfl⟩
 |s :: r,xE :: xsE,x1 :: xs1,xs,a,b,cx',ec,ec',q,hE,hr,hh=>by
  simp only [pE] at hr
  split at hr
  ·rename_i a1 a2 hr1 hr2
   cases hr
   simp only [Ac,List.append_assoc] at hh
   split at hh
   ·rename_i y cx1 ec1 hh1
    obtain ⟨rfl,m1,q1,k1,f1⟩:=Ez hn q (hE xE (List.mem_cons_self ..)) hr1 hh1
    split at hh
    ·rename_i ys cx2 ec2 hh2
     simp only [Option.some.injEq,Prod.mk.injEq] at hh
     obtain ⟨rfl,rfl,rfl⟩:=hh
     obtain ⟨rfl,l2,m2,q2,k2,f2⟩:=BO hn q1 (fun x hx=>hE x (List.mem_cons_of_mem _ hx)) hr2 hh2
     refine ⟨rfl,by simp [l2],fun j u v h1 h2=>?_,q2,k2.trans k1,f2.trans f1⟩
     cases j with
     |zero=>simp at h1 h2;subst h1;subst h2;exact m1
     |succ j=>simp at h1 h2;exact m2 j u v h1 h2
    ·cases hh
   ·cases hh
  ·cases hr
 | [],_ :: _,_,_,_,_,_,_,_,_,_,hr,_=>by simp [pE] at hr
 | [],[],_ :: _,_,_,_,_,_,_,_,_,hr,_=>by simp [pE] at hr
 |_ :: _,[],_,_,_,_,_,_,_,_,_,hr,_=>by simp [pE] at hr
 |_ :: _,_ :: _,[],_,_,_,_,_,_,_,_,hr,_=>by simp [pE] at hr
def HT (eE:EC T) (D:List Tmp) (tE t1:List (X T)) (e1:EC T) (n:Nat) (ts:List (X T)):Prop:=
 ts.length=tE.length/\∀(t:Nat) (x:X T),ts[t]?=some x->(kI D t=false/\tE[t]?=some x)\/x= .bad\/MX eE e1 n (t1.getD t .bad) x
theorem HT.set {D:List Tmp} {ts:List (X T)} (q:HT eE D tE t1 e1 n ts) {t:Nat} {x:X T} (hm:MX eE e1 n (t1.getD t .bad) x):HT eE D tE t1 e1 n (ts.set t x):=by
 refine ⟨by simp [q.1],fun i y hy=>?_⟩
 by_cases he:t=i
 ·subst he
  have hlt:t < ts.length:=by
   have:=(List.getElem?_eq_some_iff.1 hy).1
   simpa using this
  rw [List.getElem?_set_self hlt] at hy
  cases hy
  exact .inr (.inr hm)
 ·rw [List.getElem?_set_ne he] at hy
  exact q.2 i y hy
theorem EA (D:List Tmp):∀(l:List (X T)) (i t:Nat) (x:X T),(CF D i l)[t]?=some x->x= .bad\/(kI D (i+t)=false/\l[t]?=some x)
 | [],_,_,_,h=>by simp [CF] at h
 |y :: r,i,0,x,h=>by
  simp only [CF,List.getElem?_cons_zero,Option.some.injEq] at h
  cases hm:kI D i with
  |true=>rw [hm] at h;exact .inl h.symm
  |false=>rw [hm] at h;exact .inr ⟨by first |exact hm |rfl,by simpa using h⟩
 |y :: r,i,t+1,x,h=>by
  simp only [CF,List.getElem?_cons_succ] at h
  rcases EA D r (i+1) t x h with h1 |⟨h1,h2⟩
  ·exact .inl h1
  ·exact .inr ⟨by rw [show i+(t+1)=i+1+t by omega];exact h1,by simpa using h2⟩
theorem xy (D:List Tmp):∀(l:List (X T)) (i:Nat),(CF D i l).length=l.length
 | [],_=>rfl
 |_ :: r,i=>by simp [CF,xy D r]
theorem HT.bad {D:List Tmp}:HT eE D tE t1 e1 n (CF D 0 tE):=⟨xy D tE 0,fun t x hx=>by
 rcases EA D tE 0 t x hx with h1 |⟨h1,h2⟩
 ·exact .inr (.inl h1)
 ·exact .inl ⟨by simpa using h1,h2⟩⟩
theorem rY {D:List Tmp} (hxE:∀x∈tE,∀id v,x= .os id v->id < n/\v < n) (hpE:∀x∈tE,∀id,x= .ptr id 0->id < n) (hbE:∀id s cs,cW eE.env id=some (s,.box cs)->∀x∈cs,∀i v,x= .os i v->i < n/\v < n) (hn:eE.cnt=n):
  ∀{its:List An} {ts th:List (X T)} {cx:List (CX T)} {ec eh:EC T},HQ eE e1 n ec->HT eE D tE t1 e1 n ts->rd tE eE t1 e1 its=some cx->hd tE eE n its ts cx ec=some (th,eh)->
   HQ eE e1 n eh/\HT eE D tE t1 e1 n th/\(eh.k=ec.k\/eh.k=e1.k)/\(LY its=true->eh.k=e1.k)/\eh.fin=ec.fin
 | [],ts,th,cx,ec,eh,q,qt,hr,hh=>by
   simp only [rd,Option.some.injEq] at hr
   subst hr
   simp only [hd,Option.some.injEq,Prod.mk.injEq] at hh
   obtain ⟨rfl,rfl⟩:=hh
   exact ⟨q,qt,.inl rfl,fun h=>by simp [LY] at h,rfl⟩
 |i :: r,ts,th,cx,ec,eh,q,qt,hr,hh=>by
  simp only [rd] at hr
  split at hr
  ·rename_i a b hr1 hr2
   cases hr
   have memE:∀{t:Nat} {x:X T},tE.getD t .bad=x->x≠ .bad->x∈tE:=fun {t x} he hne=>by
    rw [List.getD_eq_getElem?_getD] at he
    cases ht:tE[t]? with
    |none=>rw [ht] at he;exact absurd he.symm hne
    |some y=>rw [ht] at he;rw [← he];exact List.mem_of_getElem? ht
   cases i with
   |slot t s=>
    simp only [Nw] at hr1
    simp only [hd] at hh
    split at hh
    ·rename_i x cx1 ec1 hh1
     obtain ⟨rfl,m1,q1,k1,f1⟩:=Ez hn q (fun id v he=>(hxE _ (memE he (by simp)) id v rfl).1) hr1 hh1
     obtain ⟨g1,g2,g3,g4,g5⟩:=rY hxE hpE hbE hn q1 (qt.set m1) hr2 hh
     exact ⟨g1,g2,by rw [← k1];exact g3,g4,g5.trans f1⟩
    ·cases hh
   |box t ss=>
    simp only [Nw] at hr1
    simp only [hd] at hh
    split at hr1
    ·rename_i id hx
     rw [hx] at hh
     simp only at hh
     split at hr1
     ·rename_i csE cs1 hgE hg1
      rw [hgE] at hh
      simp only at hh
      split at hh
      ·rename_i cs cx1 ec1 hh1
       obtain ⟨sE,hfE⟩:=aB hgE
       obtain ⟨rfl,l1,m1,q1,k1,f1⟩:=BO hn q (fun x hx i v he=>(hbE id sE csE hfE x hx i v he).1) hr1 hh1
       have q2:=q1.put (o:=.box cs) (hpE _ (memE hx (by simp)) id rfl) hg1 (.box cs1 cs l1 m1)
       obtain ⟨g1,g2,g3,g4,g5⟩:=rY hxE hpE hbE hn q2 qt hr2 hh
       exact ⟨g1,g2,by rcases g3 with g3 |g3;exact .inl (g3.trans k1);exact .inr g3,g4,g5.trans f1⟩
      ·cases hh
     ·cases hr1
    ·cases hr1
   |cont t e=>
    simp only [Nw] at hr1
    split at hr1
    ·rename_i id v hx
     split at hr1
     ·rename_i v' e' l hg
      split at hr1
      ·rename_i hb
       cases hr1
       have hv:=Nat.eq_of_beq_eq_true hb
       subst hv
       simp only [hd,List.cons_append,List.nil_append,hx] at hh
       obtain ⟨h1,h2⟩:=hxE _ (memE hx (by simp)) id v rfl
       have q2:=q.put (o:=.os v e' l) h1 hg (.os v v e' l (.inr ⟨rfl,h2⟩))
       obtain ⟨g1,g2,g3,g4,g5⟩:=rY hxE hpE hbE hn q2 qt hr2 hh
       exact ⟨g1,g2,g3,g4,g5⟩
      ·cases hr1
     ·cases hr1
    ·cases hr1
   |Et t off e=>
    simp only [Nw] at hr1
    split at hr1
    ·rename_i ib hx
     split at hr1
     ·rename_i csE hgE
      split at hr1
      ·rename_i id v hcx
       split at hr1
       ·rename_i v' e' l hg
        split at hr1
        ·rename_i hb
         cases hr1
         have hv:=Nat.eq_of_beq_eq_true hb
         subst hv
         simp only [hd,List.cons_append,List.nil_append,hx,hgE,hcx] at hh
         obtain ⟨sE,hfE⟩:=aB hgE
         have hmem:X.os id v∈csE:=by
          rw [List.getD_eq_getElem?_getD] at hcx
          cases ht:csE[off]? with
          |none=>rw [ht] at hcx;cases hcx
          |some y=>rw [ht] at hcx;rw [← (show y=X.os id v from hcx)];exact List.mem_of_getElem? ht
         obtain ⟨h1,h2⟩:=hbE ib sE csE hfE _ hmem id v rfl
         have q2:=q.put (o:=.os v e' l) h1 hg (.os v v e' l (.inr ⟨rfl,h2⟩))
         obtain ⟨g1,g2,g3,g4,g5⟩:=rY hxE hpE hbE hn q2 qt hr2 hh
         exact ⟨g1,g2,g3,g4,g5⟩
        ·cases hr1
       ·cases hr1
      ·cases hr1
     ·cases hr1
    ·cases hr1
   |k=>
    simp only [Nw,Option.some.injEq] at hr1
    subst hr1
    simp only [hd,List.cons_append,List.nil_append] at hh
    obtain ⟨g1,g2,g3,g4,g5⟩:=rY (ec:=⟨ec.env,ec.cnt,e1.k,ec.fin⟩) hxE hpE hbE hn ⟨q.cnt,q.env⟩ qt hr2 hh
    exact ⟨g1,g2,.inr (by rcases g3 with g3 |g3<;>exact g3),fun _=>by rcases g3 with g3 |g3<;>exact g3,g5⟩
  ·cases hr
end Go.Ev
namespace Go.Ev
open Go
variable {T:TypeId->Type} {P:Program} {E:gR T} {W:Rec} {Γ:Hi T} {B BE:Nat->Prop} {ρ ρ1 ρE:Loc} {eE e1 eh ec ec':EC T} {h hS:H} {O O':Nat->Prop} {ts t1 tE th:List (X T)} {vs vsE:List Value} {n:Nat}
theorem Iz {B:Nat->Prop} {ρ:Loc} {ec:EC T} {h:H} (I:aE E B ρ ec h) {a u:Nat} (hc:lg ec a u=true):∃(_ _ _:Unit),0 < u:=by
 unfold lg at hc
 split at hc
 ·rename_i v e l hg
  obtain ⟨s,hf⟩:=aB hg
  obtain ⟨_,_,_,_,h0,_⟩:=I.obj a s _ hf
  rw [Nat.eq_of_beq_eq_true hc] at h0
  exact ⟨(),(),(),h0⟩
 ·rename_i v e l hg
  obtain ⟨s,hf⟩:=aB hg
  obtain ⟨_,_,_,h0,_⟩:=I.obj a s _ hf
  rw [Nat.eq_of_beq_eq_true hc] at h0
  exact ⟨(),(),(),h0⟩
 ·cases hc
def ρH (eh:EC T) (ρE ρ1:Loc) (n id:Nat):Option (SV × Nat):=
 if id < n then (match cW eh.env id with
  |some (_,o)=>(match ρ1 id with |some (q,_)=>some (q,o.vn) |none=>none)
  |none=>(match ρE id with
   |some p=>some p
   |none=>(match ρ1 id with |some (q,0)=>some (q,0) |_=>none)))
 else none
section
variable (hEn:bM E) (IE:aE E BE ρE eE hS) (I1:aE E B ρ1 e1 h) (x:Ext BE ρE eE hS B ρ1 e1 h) (q:HQ eE e1 eE.cnt eh) (hc:Ng eE.cnt eh e1=true)
include IE I1 x q hc
theorem KL {id s:Nat} {o:Ob T} (hf:cW eh.env id=some (s,o)) (hs:s < eE.cnt):cW eE.env id=some (s,o)/\cW e1.env id=some (s,o)/\(∀q n b off,ρE id=some (q,n)->q.p=some ⟨b,off,none⟩->o.own=true->h.get b=hS.get b):=by
 have _:=IE
 have _:=I1
 have hE:cW eE.env id=some (s,o):=by
  rcases q.env id s o hf with ⟨_,h1⟩ |⟨h1,_⟩
  ·exact h1
  ·omega
 have hmem:∀{l:Env T} {x:Nat × Ob T},cW l id=some x->(id,x)∈l:=by
  intro l
  induction l with
  |nil=>intro x h;cases h
  |cons y r ih=>
   intro x h
   obtain ⟨t,y⟩:=y
   rw [gx] at h
   split at h
   ·rename_i he;cases h;rw [he];exact List.mem_cons_self ..
   ·exact List.mem_cons_of_mem _ (ih h)
 unfold Ng at hc
 rw [List.all_eq_true] at hc
 have h1:=hc _ (hmem hf)
 simp only [Bool.or_eq_true] at h1
 rcases h1 with h1 |h1
 ·have:=Nat.le_of_ble_eq_true h1;omega
 ·obtain ⟨s',o1,o2,g1,g2⟩:=tV h1
  rw [hf] at g1;cases g1
  obtain ⟨k1,k2⟩:=x.xV id s o2 g2 hs
  rw [hE] at k1;cases k1
  exact ⟨hE,g2,fun q n b off hq hb ho=>k2 q n b off hq hb ho⟩
theorem car {id s:Nat} {o:Ob T} (hf:cW eh.env id=some (s,o)):id < eE.cnt/\o.vn < eh.cnt/\∃s1 o1 q1,cW e1.env id=some (s1,o1)/\ρ1 id=some (q1,o1.vn)/\ρH eh ρE ρ1 eE.cnt id=some (q1,o.vn)/\(o.own=true->o1.own=true)/\
  ((s < eE.cnt/\o1=o)\/(eE.cnt < s/\s < eh.cnt/\MO eE e1 eE.cnt o1 o)):=by
 have hcnt:=q.cnt
 have fin:∀{s1:Nat} {o1:Ob T},id < eE.cnt->cW e1.env id=some (s1,o1)->∃q1,ρ1 id=some (q1,o1.vn)/\ρH eh ρE ρ1 eE.cnt id=some (q1,o.vn):=by
  intro s1 o1 hid h1
  obtain ⟨q1,h2⟩:=lU.loc (I1.obj id s1 o1 h1).2
  refine ⟨q1,h2,?_⟩
  unfold ρH
  rw [if_pos hid]
  simp only [hf,h2]
 rcases q.env id s o hf with ⟨h1,h2⟩ |⟨h1,h2,h3,s1,o1,h4,h5⟩
 ·obtain ⟨k1,k2,_⟩:=KL IE I1 x q hc hf h1
  have hid:=IE.jz k1
  obtain ⟨q1,g1,g2⟩:=fin hid k2
  obtain ⟨qE,g3⟩:=lU.loc (IE.obj id s o k1).2
  have:=IE.lG _ _ _ g3
  exact ⟨hid,by omega,s,o,q1,k2,g1,g2,fun e=>e,.inl ⟨h1,rfl⟩⟩
 ·obtain ⟨q1,g1,g2⟩:=fin h3 h4
  refine ⟨h3,?_,s1,o1,q1,h4,g1,g2,?_,.inr ⟨h1,h2,h5⟩⟩
  ·cases h5 with
   |box=>simp only [Ob.vn];omega
   |os v v' e l hv=>simp only [Ob.vn];rcases hv with hv |hv<;>omega
  ·cases h5<;>exact fun _=>rfl
theorem IA {id b:Nat} (hb:dY (ρH eh ρE ρ1 eE.cnt) eh.env id b):id < eE.cnt/\dY ρ1 e1.env id b:=by
 obtain ⟨s,o,q',m,off,h1,h2,h3,h4⟩:=hb
 obtain ⟨g1,_,s1,o1,q1,g2,g3,g4,g5,_⟩:=car IE I1 x q hc h1
 rw [h3] at g4
 simp only [Option.some.injEq,Prod.mk.injEq] at g4
 exact ⟨g1,s1,o1,q1,o1.vn,off,g2,g5 h2,g3,by rw [← g4.1];exact h4⟩
theorem Nm:∀b,ak B (ρH eh ρE ρ1 eE.cnt) eh.env b->ak B ρ1 e1.env b:=by
 rintro b (h1 |h1)
 ·exact .inl h1
 ·obtain ⟨id,h1⟩:=au.1 h1
  exact .inr (au.2 ⟨id,(IA IE I1 x q hc h1).2⟩)
theorem PA:Mv hS h (ak BE ρE eE.env) (ak B (ρH eh ρE ρ1 eE.cnt) eh.env) ρE (ρH eh ρE ρ1 eE.cnt):=by
 refine ⟨x.mv.next,x.mv.get,fun b hb ho=>x.mv.own b hb (Nm IE I1 x q hc b ho),fun id q0 m hq=>?_⟩
 have hid:id < eE.cnt:=by
  rcases Nat.lt_or_ge id eE.cnt with h1 |h1
  ·exact h1
  ·rw [IE.dom id h1] at hq;cases hq
 have hm:=IE.lG _ _ _ hq
 obtain ⟨q1,m1,k1,k2,k3,k4⟩:=x.mv.loc id q0 m hq
 cases hf:cW eh.env id with
 |none=>
  refine ⟨q0,m,?_,Nat.le_refl _,fun _=>rfl,fun e=>e⟩
  unfold ρH
  rw [if_pos hid]
  simp only [hf,hq]
 |some so=>
  obtain ⟨s,o⟩:=so
  obtain ⟨_,_,s1,o1,q2,g2,g3,g4,g5,g6⟩:=car IE I1 x q hc hf
  rw [k1] at g3
  simp only [Option.some.injEq,Prod.mk.injEq] at g3
  obtain ⟨e3,e4⟩:=g3
  refine ⟨q2,o.vn,g4,?_⟩
  rcases g6 with ⟨_,g6⟩ |⟨_,_,g6⟩
  ·subst g6
   exact ⟨by omega,fun e=>by rw [← e3];exact k3 (by omega),fun e=>by rw [← e4];exact k4 e⟩
  ·cases g6 with
   |box=>simp only [Ob.vn] at e4 ⊢;exact ⟨by omega,fun e=>by rw [← e3];exact k3 (by omega),fun _=>trivial⟩
   |os v v' e l hv=>
    simp only [Ob.vn] at e4 ⊢
    have h0:0 < v:=by
     obtain ⟨_,_,_,h0,_⟩:=(I1.obj _ _ _ g2).2
     exact h0
    rcases hv with hv |⟨hv,hv2⟩
    ·exact ⟨by omega,fun e=>by omega,fun e=>by have:=k4 e;omega⟩
    ·exact ⟨by omega,fun e=>by rw [← e3];exact k3 (by omega),fun e=>by have:=k4 e;omega⟩
include hEn in
theorem Oi {x1 y:X T} {w:Value} (m:MX eE e1 eE.cnt x1 y) (d:D E h (ak B ρ1 e1.env) ρ1 x1 w) (hcur:X.LX eE.cnt eh y=true):D E h (ak B (ρH eh ρE ρ1 eE.cnt) eh.env) (ρH eh ρE ρ1 eE.cnt) y w:=by
 have hO:=Nm IE I1 x q hc
 cases m with
 |v u=>rw [uS d];exact .v u
 |vs l=>
  cases d with
  |agg _ us hl hd=>
   refine .agg _ us hl fun j z w h1 h2=>?_
   have:=hd j z w h1 h2
   rw [List.getElem?_map,Option.map_eq_some_iff] at h1
   obtain ⟨u,_,rfl⟩:=h1
   rw [uS this];exact .v u
 |ro e l=>exact d.gN hEn rfl hO
 |os id u e l hg hid=>
  obtain ⟨s1,hf1⟩:=aB hg
  obtain ⟨q1,rows,h1,rfl,h2,h3,h4⟩:=oe I1 hf1 d
  simp only [X.LX,Nat.beq_refl,Bool.not_true,Bool.false_or] at hcur
  split at hcur
  ·rename_i v' e' l' hgh
   have hv:=Nat.eq_of_beq_eq_true hcur
   obtain ⟨sh,hfh⟩:=aB hgh
   obtain ⟨_,_,s2,o2,q2,g2,g3,g4,_⟩:=car IE I1 x q hc hfh
   rw [h1] at g3
   simp only [Option.some.injEq,Prod.mk.injEq] at g3
   refine .os id eE.cnt eE.cnt q1 q1 ?_ (Nat.le_refl _) fun _=>rfl
   rw [g4,← g3.1]
   simp only [Ob.vn,hv]
  ·cases hcur
 |O6 id u e l hg hid=>
  rcases hg with hg |hg
  ·obtain ⟨s1,hf1⟩:=aB hg
   obtain ⟨q1,rows,h1,rfl,h2,h3,h4⟩:=oe I1 hf1 d
   refine .ro e l q1 rows h2.MP h3.len h4 (by rcases h2.2 with ⟨e1,_⟩ |⟨b,t,e1,_⟩<;>rw [e1]<;>simp) (fun b o hq hne hown=>?_) fun i a r g1 g2 j z w g3 g4=>((h3.row i a r g1 g2).2 j z w g3 g4).gN hEn (hEn.row _ _ _ (List.mem_of_getElem? g3)) hO
   rcases hown with hb |hb
   ·exact I1.jA b (au.2 ⟨id,s1,_,q1,u,o,hf1,rfl,h1,hq⟩) hb
   ·obtain ⟨id2,hb⟩:=au.1 hb
    obtain ⟨k1,k2⟩:=IA IE I1 x q hc hb
    have:=I1.gj k2 ⟨s1,_,q1,u,o,hf1,rfl,h1,hq⟩
    omega
  ·obtain ⟨s1,hf1⟩:=aB hg
   exact (Eg I1 hf1 d).gN hEn rfl hO
 |nil e=>
  rw [uS d]
  exact .ro e [] ⟨none,0,0⟩ [] ⟨rfl,by simp,fun h=>by simp at h⟩ rfl (by simp [maxLen]) (.inl rfl) (fun b o h1=>by cases h1) fun i a r h1=>by simp at h1
 |Pj id u hcE hc1 hid=>
  obtain ⟨q1,k1⟩:=rW I1 hc1
  obtain ⟨q0,k0⟩:=rW IE hcE
  have hqq:=x.mv.same k0 k1
  subst hqq
  have hw:=F3 k1 d
  subst hw
  cases hf:cW eh.env id with
  |some so=>
   obtain ⟨s,o⟩:=so
   obtain ⟨_,_,s1,o1,q2,g2,g3,g4,g5,g6⟩:=car IE I1 x q hc hf
   rw [k1] at g3
   simp only [Option.some.injEq,Prod.mk.injEq] at g3
   obtain ⟨rfl,g3⟩:=g3
   have hlt:=IE.lG _ _ _ k0
   rcases g6 with ⟨_,g6⟩ |⟨_,_,g6⟩
   ·subst g6
    exact .os id u _ q1 q1 g4 (by omega) fun _=>rfl
   ·cases g6 with
    |box=>
     simp only [Ob.vn] at g3
     obtain ⟨_,_,_,h0⟩:=Iz IE hcE
     omega
    |os v v' e l hv=>
     simp only [Ob.vn] at g3 g4
     rcases hv with hv |⟨hv,_⟩
     ·exact .os id u _ q1 q1 g4 (by omega) fun e=>by omega
     ·exact .os id u _ q1 q1 g4 (by omega) fun _=>rfl
  |none=>
   refine .os id u u q1 q1 ?_ (Nat.le_refl _) fun _=>rfl
   unfold ρH
   rw [if_pos hid]
   simp only [hf,k0]
 |same y hx=>
  refine KK (n:=eE.cnt) (fun id q0 hid hq=>?_) hx d
  unfold ρH
  rw [if_pos hid]
  cases hf:cW eh.env id with
  |some so=>
   obtain ⟨s,o⟩:=so
   obtain ⟨_,_,s1,o1,q2,g2,g3,g4,g5,g6⟩:=car IE I1 x q hc hf
   rw [hq] at g3
   simp only [Option.some.injEq,Prod.mk.injEq] at g3
   simp only [hq]
   have:o.vn=0:=by
    rcases g6 with ⟨_,g6⟩ |⟨_,_,g6⟩
    ·rw [← g6];exact g3.2.symm
    ·cases g6 with
     |box=>rfl
     |os v v' e l hv=>
      obtain ⟨_,_,_,h0,_⟩:=(I1.obj _ _ _ g2).2
      have:=g3.2
      simp only [Ob.vn] at this
      omega
   rw [this]
  |none=>
   simp only
   cases hqE:ρE id with
   |some p=>
    obtain ⟨qE,m⟩:=p
    obtain ⟨q1,m1,k1,k2,k3,k4⟩:=x.mv.loc id qE m hqE
    rw [hq] at k1
    simp only [Option.some.injEq,Prod.mk.injEq] at k1
    have hm:m=0:=by omega
    subst hm
    rw [k1.1,k3 (by omega)]
   |none=>simp only [hq]
 |bad _=>exact .bad _
include hEn in
theorem L4 {D:List Tmp} (dE:DL E hS (ak BE ρE eE.env) ρE tE vsE) (d1:DL E h (ak B ρ1 e1.env) ρ1 t1 vs) (hfr:sN D vsE vs) (qt:HT eE D tE t1 e1 eE.cnt th) (hok:Nh eE.cnt th eh=true):
  aE E B (ρH eh ρE ρ1 eE.cnt) eh h/\DL E h (ak B (ρH eh ρE ρ1 eE.cnt) eh.env) (ρH eh ρE ρ1 eE.cnt) th vs/\Ext BE ρE eE hS B (ρH eh ρE ρ1 eE.cnt) eh h:=by
 have hO:=Nm IE I1 x q hc
 have hmv:=PA IE I1 x q hc
 have hcnt:=q.cnt
 simp only [Nh,Bool.and_eq_true,List.all_eq_true] at hok
 have hstab:∀id s o,cW eh.env id=some (s,o)->s < eE.cnt->cW eE.env id=some (s,o)/\∀q n b off,ρE id=some (q,n)->q.p=some ⟨b,off,none⟩->o.own=true->h.get b=hS.get b:=fun id s o hf hs=>by
  obtain ⟨g1,_,g3⟩:=KL IE I1 x q hc hf hs
  exact ⟨g1,g3⟩
 refine ⟨⟨I1.top,fun id hid=>?_,by omega,fun id q0 m hq=>?_,I1.base,fun b hb hB=>?_,?_,?_,?_⟩,⟨by rw [qt.1,dE.1];exact hfr.1.symm,fun t y w h1 h2=>?_⟩,hmv,by omega,hstab⟩
 ·unfold ρH
  rw [if_neg (by omega)]
 ·unfold ρH at hq
  split at hq
  ·split at hq
   ·rename_i s o hf
    split at hq
    ·cases hq
     exact (car IE I1 x q hc hf).2.1
    ·cases hq
   ·split at hq
    ·rename_i p hp
     cases hq
     have:=IE.lG _ _ _ hp;omega
    ·split at hq
     ·cases hq;omega
     ·cases hq
  ·cases hq
 ·obtain ⟨id,hb⟩:=au.1 hb
  exact I1.jA b (au.2 ⟨id,(IA IE I1 x q hc hb).2⟩) hB
 ·intro i j s s' o o' q0 q1 m m' b f f' h1 h2 h3 h4 h5 h6 h7 h8
  exact I1.gj (IA IE I1 x q hc ⟨s,o,q0,m,f,h1,h3,h5,h7⟩).2 (IA IE I1 x q hc ⟨s',o',q1,m',f',h2,h4,h6,h8⟩).2
 ·intro id s o hf
  obtain ⟨hid,_,s1,o1,q1,g2,g3,g4,g5,g6⟩:=car IE I1 x q hc hf
  rcases g6 with ⟨hs,g6⟩ |⟨hs,hs2,g6⟩
  ·obtain ⟨k1,k2,k3⟩:=KL IE I1 x q hc hf hs
   refine ⟨by omega,(IE.obj id s o k1).2.keep hmv (fun q0 hq=>?_) fun q0 b off ho hq hb=>k3 q0 _ b off hq hb ho⟩
   subst g6
   rw [g4]
   have:=x.mv.same hq g3
   rw [this]
  ·refine ⟨hs2,?_⟩
   have hko:=(I1.obj id s1 o1 g2).2
   cases g6 with
   |box cs1 cs hl hm=>
    obtain ⟨q2,b,us,t,e,r,k1,k2,k3,k4,k5⟩:=hko
    rw [g3] at k1
    simp only [Option.some.injEq,Prod.mk.injEq] at k1
    have hcell:=hok.2 (id,s,.box cs) (by
     have hmem:∀{l:Env T} {x:Nat × Ob T},cW l id=some x->(id,x)∈l:=by
      intro l
      induction l with
      |nil=>intro x h;cases h
      |cons y r ih=>
       intro x h
       obtain ⟨t,y⟩:=y
       rw [gx] at h
       split at h
       ·rename_i he;cases h;rw [he];exact List.mem_cons_self ..
       ·exact List.mem_cons_of_mem _ (ih h)
     exact hmem hf)
    simp only [Bool.or_eq_true] at hcell
    rcases hcell with hcell |hcell
    ·have:=Nat.le_of_ble_eq_true hcell;omega
    ·rw [List.all_eq_true] at hcell
     refine ⟨q2,b,us,t,e,r,by rw [g4,k1.1];rfl,k2,k3,k4,by rw [← hl];exact k5.1,fun j y w h1 h2=>?_⟩
     have hj:j < cs1.length:=by rw [hl];exact (List.getElem?_eq_some_iff.1 h1).1
     exact Oi hEn IE I1 x q hc (hm j _ y (List.getElem?_eq_getElem hj) h1) (k5.2 j _ w (List.getElem?_eq_getElem hj) h2) (hcell y (List.mem_of_getElem? h1))
   |os v v' e l hv=>
    obtain ⟨q2,rows,k1,k0,k2,k3,k4,k5⟩:=hko
    rw [g3] at k1
    simp only [Option.some.injEq,Prod.mk.injEq] at k1
    refine ⟨q2,rows,by rw [g4,k1.1];rfl,?_,k2,k3,k4,fun i a r h1 h2=>⟨(k5 i a r h1 h2).1,fun j y w g1 g2=>((k5 i a r h1 h2).2 j y w g1 g2).gN hEn (hEn.row _ _ _ (List.mem_of_getElem? g1)) hO⟩⟩
    have:=IE.pos
    rcases hv with hv |hv<;>omega
 ·intro g cs hg
  obtain ⟨g1,us,g2,g3⟩:=IE.dU g cs hg
  exact ⟨(hmv.AW g2 g1).2,us,(hmv.AW g2 g1).1,g3.mv hmv⟩
 ·rcases qt.2 t y h1 with ⟨hD,hy⟩ |rfl |hm
  ·have hlt:t < vsE.length:=by rw [← dE.1];exact (List.getElem?_eq_some_iff.1 hy).1
   have e2:vsE[t]?=some w:=by
    have:=hfr.2 t hD
    rw [List.getD_eq_getElem?_getD,List.getD_eq_getElem?_getD,h2,List.getElem?_eq_getElem hlt] at this
    rw [List.getElem?_eq_getElem hlt]
    exact congrArg some this.symm
   exact (dE.2 t y w hy e2).mv hmv
  ·exact .bad _
  ·have hw:w=vs.getD t undef:=by rw [List.getD_eq_getElem?_getD,h2];rfl
   rw [hw]
   exact Oi hEn IE I1 x q hc hm (d1.getD t undef) (hok.1 y (List.mem_of_getElem? h1))
end
end Go.Ev
namespace Go.Ev
open Go
variable {T:TypeId->Type} {P:Program} {E:gR T} {W:Rec} {Γ:Hi T} {B B':Nat->Prop} {ρ ρ':Loc} {ec ec':EC T} {h h':H} {O O':Nat->Prop}
theorem rq:∀{L:List Nat} {ec:EC T} {id:Nat},cW (tU ec L).env id=if id∈L then none else cW ec.env id
 | [],ec,id=>by simp [tU]
 |x :: r,ec,id=>by
  rw [tU,rq]
  by_cases h1:id∈r
  ·rw [if_pos h1,if_pos (List.mem_cons_of_mem _ h1)]
  ·rw [if_neg h1]
   by_cases h2:id=x
   ·subst h2
    rw [if_pos (List.mem_cons_self ..)]
    exact lK _ _
   ·rw [if_neg (by simp [h1,h2])]
    exact j0 _ h2
theorem EB:∀{L:List Nat} {ec:EC T},(tU ec L).cnt=ec.cnt/\(tU ec L).k=ec.k/\(tU ec L).fin=ec.fin
 | [],_=>⟨rfl,rfl,rfl⟩
 |x :: r,ec=>by rw [tU];exact EB (L:=r) (ec:=ec.del x)
theorem ow {L:List Nat} {id b:Nat}:dY ρ (tU ec L).env id b↔id ∉ L/\dY ρ ec.env id b:=by
 constructor
 ·rintro ⟨s,o,q,n,off,h1,h2⟩
  rw [rq] at h1
  split at h1
  ·cases h1
  ·rename_i hn;exact ⟨hn,s,o,q,n,off,h1,h2⟩
 ·rintro ⟨hn,s,o,q,n,off,h1,h2⟩
  exact ⟨s,o,q,n,off,by rw [rq,if_neg hn];exact h1,h2⟩
def BL (B:Nat->Prop) (ρ:Loc) (env:Env T) (L:List Nat) (b:Nat):Prop:=B b\/∃id,id∈L/\dY ρ env id b
theorem KM {L:List Nat} (b:Nat):ak (BL B ρ ec.env L) ρ (tU ec L).env b↔ak B ρ ec.env b:=by
 constructor
 ·rintro ((h1 |⟨id,_,h1⟩) |h1)
  ·exact .inl h1
  ·exact .inr (au.2 ⟨id,h1⟩)
  ·obtain ⟨id,h1⟩:=au.1 h1
   exact .inr (au.2 ⟨id,(ow.1 h1).2⟩)
 ·rintro (h1 |h1)
  ·exact .inl (.inl h1)
  ·obtain ⟨id,h1⟩:=au.1 h1
   by_cases hm:id∈L
   ·exact .inl (.inr ⟨id,hm,h1⟩)
   ·exact .inr (au.2 ⟨id,ow.2 ⟨hm,h1⟩⟩)
theorem aE.O7 (I:aE E B ρ ec h) (L:List Nat):aE E (BL B ρ ec.env L) ρ (tU ec L) h/\Ext B ρ ec h (BL B ρ ec.env L) ρ (tU ec L) h:=by
 have hO:=fun b=>(KM (B:=B) (ρ:=ρ) (ec:=ec) (L:=L) b)
 have hmv:Mv h h (ak B ρ ec.env) (ak (BL B ρ ec.env L) ρ (tU ec L).env) ρ ρ:=⟨Nat.le_refl _,fun _ _ _=>rfl,fun b _ hb=>(hO b).1 hb,fun id q n hq=>⟨q,n,hq,Nat.le_refl _,fun _=>rfl,fun e=>e⟩⟩
 obtain ⟨c1,c2,c3⟩:=EB (L:=L) (ec:=ec)
 refine ⟨⟨I.top,fun id hid=>I.dom id (by rw [c1] at hid;exact hid),by rw [c1];exact I.pos,fun id q n hq=>by rw [c1];exact I.lG id q n hq,fun b hb=>I.jX ((hO b).1 (.inl hb)),fun b hb hc=>?_,?_,fun id s o hf=>?_,fun g cs hg=>?_⟩,hmv,by rw [c1];exact Nat.le_refl _,fun id s o hf _=>?_⟩
 ·obtain ⟨id,hb⟩:=au.1 hb
  obtain ⟨h1,h2⟩:=ow.1 hb
  rcases hc with hc |⟨id',h3,h4⟩
  ·exact I.jA b (au.2 ⟨id,h2⟩) hc
  ·exact h1 ((I.gj h4 h2)▸h3)
 ·intro i j s s' o o' q q' n n' b f f' h1 h2 h3 h4 h5 h6 h7 h8
  exact I.gj (ow.1 ⟨s,o,q,n,f,h1,h3,h5,h7⟩).2 (ow.1 ⟨s',o',q',n',f',h2,h4,h6,h8⟩).2
 ·rw [rq] at hf
  split at hf
  ·cases hf
  ·obtain ⟨g1,g2⟩:=I.obj id s o hf
   exact ⟨by rw [c1];exact g1,g2.keep hmv (fun q hq=>hq) fun _ _ _ _ _ _=>rfl⟩
 ·obtain ⟨g1,us,g2,g3⟩:=I.dU g cs hg
  exact ⟨fun hc=>g1 ((hO g).1 hc),us,g2,g3.mv hmv⟩
 ·rw [rq] at hf
  split at hf
  ·cases hf
  ·exact ⟨hf,fun _ _ _ _ _ _ _=>rfl⟩
end Go.Ev
namespace Go.Ev
open Go
variable {T:TypeId->Type} {P:Program} {E:gR T} {W:Rec} {Γ:Hi T} {Tf:Nat->Option kM} {nk:Nat->Bool}
theorem pI:∀{l:List Iw} {cx:List (CX T)} {I:rm T l Prop} {M:rm T l Nat} {K:Prop->Nat->Prop},IM l cx I M K->∃i m,K i m/\∀F:List (CX T)->Prop->Nat->Prop,Ab l I M F->F cx i m
 | [],[],I,M,K,h=>⟨I,M,h,fun F hF=>hF⟩
 | .at a :: r,.x w :: vs,I,M,K,h=>by
   obtain ⟨x,rfl,h1⟩:=GH h
   obtain ⟨i,m,h2,h3⟩:=pI h1
   exact ⟨i,m,h2,fun F hF=>h3 (fun vs i m=>F (.x (a.enc x) :: vs) i m) (hF x)⟩
 | .l e :: r,.l e' l :: vs,I,M,K,h=>by
   simp only [IM] at h
   split at h
   ·rename_i x hx
    obtain ⟨he,rfl⟩:=mH hx
    subst he
    obtain ⟨i,m,h2,h3⟩:=pI h
    exact ⟨i,m,h2,fun F hF=>h3 (fun vs i m=>F (.l e' l :: vs) i m) (hF l)⟩
   ·exact h.elim
 | .n :: r,.n x :: vs,I,M,K,h=>by
   obtain ⟨i,m,h2,h3⟩:=pI (show IM r vs (I x) (M x) K from h)
   exact ⟨i,m,h2,fun F hF=>h3 (fun vs i m=>F (.n x :: vs) i m) (hF x)⟩
 | [],_ :: _,_,_,_,h=>h.elim
 | .at _ :: _,[],_,_,_,h=>h.elim
 | .at _ :: _,.l _ _ :: _,_,_,_,h=>h.elim
 | .at _ :: _,.n _ :: _,_,_,_,h=>h.elim
 | .l _ :: _,[],_,_,_,h=>h.elim
 | .l _ :: _,.x _ :: _,_,_,_,h=>h.elim
 | .l _ :: _,.n _ :: _,_,_,_,h=>h.elim
 | .n :: _,[],_,_,_,h=>h.elim
 | .n :: _,.x _ :: _,_,_,_,h=>h.elim
 | .n :: _,.l _ _ :: _,_,_,_,h=>h.elim
theorem Ae (hE:bM E) {Y:Nat->Bool->(Nat->Prop)->(Nat->Prop)->H->Prop} (hy:KX E W Γ Y) {BE B:Nat->Prop} {ρE ρ1:Loc} {eE e1 eh:EC T} {hS h:H} {tE t1 th:List (X T)} {vsE vs:List Value} {D:List Tmp} {its:List An} {cx:List (CX T)}
  (IE:aE E BE ρE eE hS) (dE:DL E hS (ak BE ρE eE.env) ρE tE vsE) (I1:aE E B ρ1 e1 h) (d1:DL E h (ak B ρ1 e1.env) ρ1 t1 vs) (y:Y e1.k e1.fin B (eZ ρ1 e1.env) h) (x:Ext BE ρE eE hS B ρ1 e1 h) (hfr:sN D vsE vs)
  (hr:mK D its tE eE t1 e1=some cx) (hh:Ni D its tE eE cx=some (th,eh)):
  ∃ρ',aE E B ρ' eh h/\DL E h (ak B ρ' eh.env) ρ' th vs/\Ext BE ρE eE hS B ρ' eh h/\Y eh.k eh.fin B (eZ ρ' eh.env) h/\∀b,eZ ρ' eh.env b->eZ ρ1 e1.env b:=by
 unfold mK at hr
 split at hr
 ·rename_i cx' hcx
  split at hr
  ·rename_i th' eh' hhd
   split at hr
   ·rename_i hb
    cases hr
    rw [hh] at hhd
    cases hhd
    simp only [Bool.and_eq_true,Bool.or_eq_true] at hb
    obtain ⟨⟨⟨hc,hok⟩,hk⟩,hfin⟩:=hb
    have hxE:∀z∈tE,∀id v,z= .os id v->id < eE.cnt/\v < eE.cnt:=by
     rintro z hz id v rfl
     obtain ⟨j,hj,e⟩:=List.getElem_of_mem hz
     have hj':j < vsE.length:=by rw [← dE.1];exact hj
     have:=dE.2 j _ _ (by rw [List.getElem?_eq_getElem hj,e]) (List.getElem?_eq_getElem hj')
     generalize vsE[j]=w at this
     cases this with
     |os _ _ n q q0 hq hle _=>
      have h1:=IE.lG _ _ _ hq
      refine ⟨?_,by omega⟩
      rcases Nat.lt_or_ge id eE.cnt with h2 |h2
      ·exact h2
      ·rw [IE.dom id h2] at hq;cases hq
    have hpE:∀z∈tE,∀id,z= .ptr id 0->id < eE.cnt:=by
     rintro z hz id rfl
     obtain ⟨j,hj,e⟩:=List.getElem_of_mem hz
     have hj':j < vsE.length:=by rw [← dE.1];exact hj
     have:=dE.2 j _ _ (by rw [List.getElem?_eq_getElem hj,e]) (List.getElem?_eq_getElem hj')
     generalize vsE[j]=w at this
     cases this with
     |ptr _ _ b q hq _=>
      rcases Nat.lt_or_ge id eE.cnt with h2 |h2
      ·exact h2
      ·rw [IE.dom id h2] at hq;cases hq
    have hbE:∀id s cs,cW eE.env id=some (s,.box cs)->∀z∈cs,∀i v,z= .os i v->i < eE.cnt/\v < eE.cnt:=by
     rintro id s cs hf z hz i v rfl
     obtain ⟨_,q,b,us,t,e,r,_,_,_,_,k5⟩:=IE.obj id s _ hf
     obtain ⟨j,hj,e⟩:=List.getElem_of_mem hz
     have hj':j < us.length:=by rw [← k5.1];exact hj
     have:=k5.2 j _ _ (by rw [List.getElem?_eq_getElem hj,e]) (List.getElem?_eq_getElem hj')
     generalize us[j]=w at this
     cases this with
     |os _ _ n q q0 hq hle _=>
      have h1:=IE.lG _ _ _ hq
      refine ⟨?_,by omega⟩
      rcases Nat.lt_or_ge i eE.cnt with h2 |h2
      ·exact h2
      ·rw [IE.dom i h2] at hq;cases hq
    have q0:HQ eE e1 eE.cnt (⟨eE.env,eE.cnt+1,eE.k,eE.fin⟩:EC T):=⟨Nat.lt_succ_self _,fun id s o hf=>.inl ⟨(IE.obj id s o hf).1,hf⟩⟩
    obtain ⟨g1,g2,g3,g4,g5⟩:=rY (n:=eE.cnt) hxE hpE hbE rfl q0 HT.bad hcx hh
    obtain ⟨r1,r2,r3⟩:=L4 hE IE I1 x g1 hc dE d1 hfr g2 hok
    have hown:∀b,eZ (ρH eh ρE ρ1 eE.cnt) eh.env b->eZ ρ1 e1.env b:=fun b hb=>by
     obtain ⟨id,hb⟩:=au.1 hb
     exact au.2 ⟨id,(IA IE I1 x g1 hc hb).2⟩
    refine ⟨_,r1,r2,r3,?_,hown⟩
    have ek:eh.k=e1.k:=by
     rcases hk with hk |hk
     ·exact g4 hk
     ·rcases g3 with g3 |g3
      ·rw [g3];exact Nat.eq_of_beq_eq_true hk
      ·exact g3
    have ef:eh.fin=e1.fin:=by rw [g5];simpa using hfin
    rw [ek,ef]
    exact hy.xV _ _ _ _ _ _ _ y I1.top (Nat.le_refl _) (fun _ _ _=>rfl) fun b hb=>⟨I1.jX (.inr (hown b hb)),fun _=>hown b hb⟩
   ·cases hr
  ·cases hr
 ·cases hr
end Go.Ev
namespace Go.Ev
open Go
variable {T:TypeId->Type} {P:Program} {E:gR T} {W:Rec} {Γ:Hi T} {Tf:Nat->Option kM} {nk:Nat->Bool}
theorem DL.xq {h:H} {O:Nat->Prop} {ρ:Loc}:∀{ps:List Tmp} {ts xs:List (X T)} {vs us:List Value},DL E h O ρ ts vs->DL E h O ρ xs us->DL E h O ρ (Ev.xq ts ps xs) (fc vs ps us)
 | [],ts,xs,vs,us,d,_=>by cases xs<;>cases us<;>exact d
 |p :: ps,ts,[],vs,us,d,k=>by
  have:us=[]:=List.length_eq_zero_iff.1 k.1.symm
  subst this
  exact d
 |p :: ps,ts,x :: xs,vs,us,d,k=>by
  obtain ⟨w,ws,rfl,d1,d2⟩:=k.cM
  show DL E h O ρ (Ev.xq (ts.set p x) ps xs) (fc (vs.set p w) ps ws)
  exact DL.xq (d.set p d1) d2
theorem vm (hn:Γ.y.isNone=true):KX E W Γ fun _ _ _ _ _=>True:=by
 have e:Γ.y=none:=Option.isNone_iff_eq_none.1 hn
 exact ⟨fun _ _ _ _ _ _ _ _ _ _ _ _=>trivial,by rw [e];trivial,by rw [e];trivial⟩
structure nE (E:gR T) (Γ:Hi T) (vs:List Value) (ps:List Tmp) (as bd:AC) (tE:List (X T)) (eE:EC T) (BE:Nat->Prop) (ρE:Loc) (h0:H) (B:Nat->Prop) (l:Nat) (its:List An) {tys:List Iw} (II:Nat->rm T tys Prop) (M:rm T tys Nat) (Q:aM->List (X T)->EC T->Prop)
  (k:Nat) (fin:Bool) (B1 C:Nat->Prop) (h1:H):Prop where
 ex:∃ρ1 e1,aE E (fun b=>B b\/C b) ρ1 e1 h1/\Ext BE ρE eE h0 (fun b=>B b\/C b) ρ1 e1 h1/\(∀b,B b\/eZ ρ1 e1.env b->B1 b)/\
  (match fin with
   |false=>h1.get l=some (.loop .ready none vs ps as bd)/\∃cx i m,mK (aZ as++aZ bd) its tE eE tE e1=some cx/\i/\∀F:List (CX T)->Prop->Nat->Prop,Ab tys (II k) M F->F cx i m
   |true=>∃pend x,h1.get l=some (.loop .done (some pend) vs ps as bd)/\DG (some pend)=x/\(match x with | .normal=>False | .panic _=>False |_=>True)/\Q x tE e1)
 O8:∀b,C b->¬B1 b
 lt:∀b,B1 b->b < h1.next
 keep:∀b,B b->b≠l->h1.get b=h0.get b
theorem nE.xV {vs:List Value} {ps:List Tmp} {as bd:AC} {tE:List (X T)} {eE:EC T} {BE:Nat->Prop} {ρE:Loc} {h0:H} {B:Nat->Prop} {l:Nat} {its:List An} {tys:List Iw} {II:Nat->rm T tys Prop} {M:rm T tys Nat} {Q:aM->List (X T)->EC T->Prop}
  {k:Nat} {fin:Bool} {B1 C C2:Nat->Prop} {h1 h2:H} (IE:aE E BE ρE eE h0) (hlB:B l) (r:nE E Γ vs ps as bd tE eE BE ρE h0 B l its II M Q k fin B1 C h1) (ht:nB h2) (hn:h1.next<=h2.next) (hg:∀b,b < h1.next->¬C b->h2.get b=h1.get b)
  (hC:∀b,C2 b->b < h2.next/\(b < h1.next->C b)):nE E Γ vs ps as bd tE eE BE ρE h0 B l its II M Q k fin B1 C2 h2:=by
 obtain ⟨ρ1,e1,I1,x1,hB1,hfin⟩:=r.ex
 have hlt:=r.lt
 obtain ⟨I2,x2⟩:=I1.yield (B2:=fun b=>B b\/C2 b) (h2:=h2) (k:=e1.k) (fin:=e1.fin) ht hn (fun i hi hb=>hg i hi fun hc=>hb (.inr hc)) fun i hi=>by
  rcases hi with hi |hi
  ·have:=I1.base i (.inl hi);exact ⟨by omega,fun _=>.inl hi⟩
  ·exact ⟨(hC i hi).1,fun h=>.inr ((hC i hi).2 h)⟩
 have hnC:∀b,B b->¬C b:=fun b hb hc=>r.O8 b hc (hB1 b (.inl hb))
 refine ⟨⟨ρ1,e1,I2,x1.trans IE I1 x2,hB1,?_⟩,fun b hb hb1=>?_,fun b hb=>Nat.lt_of_lt_of_le (hlt b hb) hn,fun b hb hne=>?_⟩
 ·have hl:h2.get l=h1.get l:=hg l (I1.base l (.inl hlB)) (hnC l hlB)
  cases fin with
  |false=>exact ⟨hl.trans hfin.1,hfin.2⟩
  |true=>
   obtain ⟨pend,x,g1,g2⟩:=hfin
   exact ⟨pend,x,hl.trans g1,g2⟩
 ·have h1':=hlt b hb1
  exact r.O8 b ((hC b hb).2 h1') hb1
 ·rw [hg b (I1.base b (.inl hb)) (hnC b hb)];exact r.keep b hb hne
def Oz (P:Program) (E:gR T) (W:Rec) (Γ:Hi T) (c:AC):Prop:=
 ∀{ts:List (X T)} {ec:EC T} {Q:aM->List (X T)->EC T->Prop} {B:Nat->Prop} {ρ:Loc} {h:H} {vs:List Value},aE E B ρ ec h->DL E h (ak B ρ ec.env) ρ ts vs->XS P E W Γ c true ts ec Q->
  ∃x vs' h' B' ρ' ts' ec',(∀rc,cT P W c (gX vs [] rc true) h=some (x,gX vs' [] rc true,h'))/\GS E Γ (fun _ _ _ _ _=>True) B ρ ec h B' ρ' ec' h'/\DL E h' (ak B' ρ' ec'.env) ρ' ts' vs'/\Q x ts' ec'
theorem nE.step (hE:bM E) (hW:JY P Tf nk W) (hyn:Γ.y.isNone=true) {vs:List Value} {ps:List Tmp} {as bd:AC} (hA:Oz P E W Γ as) (hBd:Oz P E W Γ bd) {tE:List (X T)} {eE:EC T} {BE:Nat->Prop} {ρE:Loc} {h0:H} {B:Nat->Prop} {l:Nat} {its:List An}
  {II:Nat->rm T (ov its) Prop} {M:rm T (ov its) Nat} {Q:aM->List (X T)->EC T->Prop} {R:Type} {enc:R->List (X T)} {xs:List R}
  (hall:∀k x,xs[k]?=some x->Ab _ (II k) M fun cx i _=>i->(match Ni (aZ as++aZ bd) its tE eE cx with
   |some (th,eh)=>need (Nat.beq ps.length (enc x).length && (enc x).all (·.row)) (XS P E W Γ as true (Ev.xq th ps (enc x)) eh fun y t1 e1=>match y with
    | .normal=>XS P E W Γ bd true t1 e1 fun z _ e2=>match z with
      | .normal=>(match mK (aZ as++aZ bd) its tE eE tE e2 with
        |some cx'=>IM _ cx' (II (k+1)) M fun i' _=>i'
        |none=>False)
      | .exit id=>Q (.exit id) tE e2
      | .ret=>Q .ret tE e2
      | .panic _=>False
    |_=>False)
   |none=>False))
  (IE:aE E BE ρE eE h0) (dE:DL E h0 (ak BE ρE eE.env) ρE tE vs) (hlB:B l) {k:Nat} {x:R} {us:List Value} {B1 C:Nat->Prop} {h1:H} (hx:xs[k]?=some x)
  (r:nE E Γ vs ps as bd tE eE BE ρE h0 B l its II M Q k false B1 C h1) (dus:DL E h1 (fun b=>B1 b\/C b) (fun _=>none) (enc x) us):
  ∃b rc h2 B2,W.call (.func (.yield l) #[] #[]) us .dF h1=some (.ret (.bool b),rc,h2)/\nE E Γ vs ps as bd tE eE BE ρE h0 B l its II M Q (bif b then k+1 else k) (!b) B2 C h2/\nB h2/\h1.next<=h2.next/\(∀i,i < h1.next->¬B1 i->h2.get i=h1.get i)/\
   (∀i,B2 i->i < h2.next/\(i < h1.next->B1 i)):=by
 obtain ⟨ρ1,e1,I1,x1,hB1,hl,cx,ii,m,hr,hi,hF⟩:=r.ex
 have hbody:=hF _ (hall k x hx) hi
 split at hbody
 ·rename_i th eh hh
  obtain ⟨hok,hXS⟩:=ai.1 hbody
  simp only [Bool.and_eq_true,List.all_eq_true] at hok
  have hlen:=Nat.eq_of_beq_eq_true hok.1
  have hy:=vm (E:=E) (W:=W) hyn
  obtain ⟨ρh,Ih,dh,xh,_,hown⟩:=Ae hE hy IE dE I1 (dE.mv x1.mv) trivial x1 (sN.refl _ _) hr hh
  have dx:DL E h1 (ak (fun b=>B b\/C b) ρh eh.env) ρh (enc x) us:=⟨dus.1,fun j z w h1' h2'=>(dus.2 j z w h1' h2').gN hE (hok.2 z (List.mem_of_getElem? h1')) fun b hb=>by
   rcases hb with (hb |hb) |hb
   ·exact .inl (hB1 b (.inl hb))
   ·exact .inr hb
   ·exact .inl (hB1 b (.inr (hown b hb)))⟩
  obtain ⟨y,vs1,h1',B1',ρ1',t1,ea,ev1,gs1,d1',hQ1⟩:=hA Ih (dh.xq dx) hXS
  cases y with
  |normal=>
   simp only at hQ1
   obtain ⟨kp1,kp2,kp3⟩:=gs1.kp hyn
   have hl':h1'.get l=some (.loop .ready none vs ps as bd):=(kp3 l (.inl hlB)).trans hl
   have hlt1:l < h1'.next:=gs1.inv.top.lt hl'
   obtain ⟨Ib,xb⟩:=gs1.inv.yield (B2:=B1') (h2:=h1'.set l (.loop .busy none vs ps as bd)) (k:=ea.k) (fin:=ea.fin) (gs1.inv.top.set hlt1 _) (by rw [H.ey];exact Nat.le_refl _)
    (fun i _ hn=>H.ah _ _ fun e=>hn (e▸kp1 l (.inl hlB))) fun i hi=>⟨by rw [H.ey];exact gs1.inv.base i hi,fun _=>hi⟩
   obtain ⟨z,vs2,h2,B2',ρ2,t2,e2,ev2,gs2,_,hQ2⟩:=hBd Ib (d1'.mv xb.mv) hQ1
   obtain ⟨kq1,kq2,kq3⟩:=gs2.kp hyn
   have hl2:h2.get l=some (.loop .busy none vs ps as bd):=(kq3 l (kp1 l (.inl hlB))).trans (H.an _ _ _)
   have hlt2:l < h2.next:=gs2.inv.top.lt hl2
   have hargs:us.length=ps.length:=by rw [← dus.1];exact hlen.symm
   have key:∀(blk:eo) (bb:Bool),(match bb with
     |true=>blk= .loop .ready none vs ps as bd/\∃cx i m,mK (aZ as++aZ bd) its tE eE tE e2=some cx/\i/\∀F:List (CX T)->Prop->Nat->Prop,Ab _ (II (k+1)) M F->F cx i m
     |false=>∃pend x,blk= .loop .done (some pend) vs ps as bd/\DG (some pend)=x/\(match x with | .normal=>False | .panic _=>False |_=>True)/\Q x tE e2)->
     gH P W l us h1=some (.ret (.bool bb),.dF,h2.set l blk)->
     ∃b rc h2 B2,W.call (.func (.yield l) #[] #[]) us .dF h1=some (.ret (.bool b),rc,h2)/\nE E Γ vs ps as bd tE eE BE ρE h0 B l its II M Q (bif b then k+1 else k) (!b) B2 C h2/\nB h2/\h1.next<=h2.next/\(∀i,i < h1.next->¬B1 i->h2.get i=h1.get i)/\
      (∀i,B2 i->i < h2.next/\(i < h1.next->B1 i)):=by
    intro blk bb hblk hround
    obtain ⟨I3,x3⟩:=gs2.inv.yield (B2:=fun b=>B b\/C b) (h2:=h2.set l blk) (k:=e2.k) (fin:=e2.fin) (gs2.inv.top.set hlt2 _) (by rw [H.ey];exact Nat.le_refl _)
     (fun i _ hn=>H.ah _ _ fun e=>hn (e▸kq1 l (kp1 l (.inl hlB)))) fun i hi=>⟨by rw [H.ey];exact gs2.inv.base i (kq1 i (kp1 i hi)),fun _=>kq1 i (kp1 i hi)⟩
    have xt:=((gs1.ext.trans Ih gs1.inv xb).trans Ih Ib gs2.ext).trans Ih gs2.inv x3
    have hkeep:∀b,B b\/C b->b≠l->(h2.set l blk).get b=h1.get b:=fun b hb hne=>by
     rw [H.ah _ _ (Ne.symm hne),kq3 b (kp1 b hb),H.ah _ _ (Ne.symm hne)]
     exact kp3 b hb
    have hB1l:B1 l:=hB1 l (.inl hlB)
    refine ⟨bb,.dF,h2.set l blk,fun b=>B b\/eZ ρ2 e2.env b,?_,⟨⟨ρ2,e2,I3,xh.trans IE Ih xt,fun b hb=>hb,?_⟩,fun b hc hb=>?_,fun b hb=>?_,fun b hb hne=>?_⟩,gs2.inv.top.set hlt2 _,xt.mv.next,fun i hi hn=>?_,fun i hi=>?_⟩
    ·refine hW.yield l #[] #[] us h1 _ ?_
     show (if (#[]:Array Value).toList.isEmpty && (#[]:Array Value).toList.isEmpty then gH P W l us h1 else none)=_
     exact hround
    ·cases bb with
     |true=>exact ⟨by rw [H.an,hblk.1],hblk.2⟩
     |false=>
      obtain ⟨pend,x,g1,g2⟩:=hblk
      exact ⟨pend,x,by rw [H.an,g1],g2⟩
    ·rcases hb with hb |hb
     ·exact r.O8 b hc (hB1 b (.inl hb))
     ·exact I3.jA b hb (.inr hc)
    ·rcases hb with hb |hb
     ·exact I3.base b (.inl hb)
     ·exact I3.jX (.inr hb)
    ·rw [hkeep b (.inl hb) hne];exact r.keep b hb hne
    ·by_cases hc:C i
     ·exact hkeep i (.inr hc) fun e=>hn (e▸hB1l)
     ·refine xt.mv.get i hi fun ho=>?_
      rcases ho with (ho |ho) |ho
      ·exact hn (hB1 i (.inl ho))
      ·exact hc ho
      ·exact hn (hB1 i (.inr (hown i ho)))
    ·rcases hi with hi |hi
     ·exact ⟨I3.base i (.inl hi),fun _=>hB1 i (.inl hi)⟩
     ·refine ⟨I3.jX (.inr hi),fun hlt=>?_⟩
      rcases xt.mv.own i hlt (.inr hi) with (ho |ho) |ho
      ·exact hB1 i (.inl ho)
      ·exact absurd (.inr ho) (I3.jA i hi)
      ·exact hB1 i (.inr (hown i ho))
   have hr1:cT P W as {tmps:=fc vs ps us,defers:=[],rc:=.dF,round:=true} h1=some (.normal,{tmps:=vs1,defers:=[],rc:=.dF,round:=true},h1'):=ev1 .dF
   have hr2:cT P W bd {tmps:=vs1,defers:=[],rc:=.dF,round:=true} (h1'.set l (.loop .busy none vs ps as bd))=some (z,{tmps:=vs2,defers:=[],rc:=.dF,round:=true},h2):=ev2 .dF
   have hro:gH P W l us h1=(match (generalizing:=false) z with
     | .normal=>some (.ret (.bool true),.dF,h2.set l (.loop .ready none vs ps as bd))
     | .ret=>some (.ret (.bool false),.dF,h2.set l (.loop .done (some none) vs ps as bd))
     | .exit id=>some (.ret (.bool false),.dF,h2.set l (.loop .done (some (some id)) vs ps as bd))
     | .panic v=>some (.panic v,.dF,h2)):=by
    unfold gH
    simp only [hl,if_pos hargs,hr1,hl',hr2,hl2]
    cases z<;>rfl
   cases z with
   |normal=>
    simp only at hQ2
    split at hQ2
    ·rename_i cx' hr2'
     obtain ⟨i',m',hi',hF'⟩:=pI hQ2
     exact key _ true ⟨rfl,cx',i',m',hr2',hi',hF'⟩ hro
    ·exact hQ2.elim
   |exit id=>exact key _ false ⟨some id,.exit id,rfl,rfl,trivial,hQ2⟩ hro
   |ret=>exact key _ false ⟨none,.ret,rfl,rfl,trivial,hQ2⟩ hro
   |panic v=>exact hQ2.elim
  |exit id=>exact hQ1.elim
  |ret=>exact hQ1.elim
  |panic v=>exact hQ1.elim
 ·exact hbody.elim
end Go.Ev
namespace Go.Ev
open Go
variable {T:TypeId->Type} {P:Program} {E:gR T} {W:Rec} {Γ:Hi T} {Tf:Nat->Option kM} {nk:Nat->Bool}
def F4 (Γ:Hi T) (tl:List fF) (lo:Nat) (df:List fF) (h:H) (B:Nat->Prop):Prop:=∃ds:List Nat,df=ds.map .coll++tl/\ds.Nodup/\(Γ.y.isNone=false->ds=[])/\∀d∈ds,lo<=d/\d < h.next/\h.get d=some .CN/\B d
theorem F4.gs {Y:Nat->Bool->(Nat->Prop)->(Nat->Prop)->H->Prop} {lo:Nat} {tl df:List fF} {h h':H} {B B':Nat->Prop} {ρ ρ':Loc} {ec ec':EC T} (d:F4 Γ tl lo df h B) (g:GS E Γ Y B ρ ec h B' ρ' ec' h'):F4 Γ tl lo df h' B':=by
 obtain ⟨ds,h1,h2,h0,h3⟩:=d
 refine ⟨ds,h1,h2,h0,fun x hx=>?_⟩
 obtain ⟨k1,k2,k3,k4⟩:=h3 x hx
 cases hy:Γ.y.isNone with
 |false=>rw [h0 hy] at hx;simp at hx
 |true=>
  obtain ⟨g1,_,g2⟩:=g.kp hy
  exact ⟨k1,Nat.lt_of_lt_of_le k2 g.ext.mv.next,by rw [g2 x k4];exact k3,g1 x k4⟩
def Comes (P:Program) (E:gR T) (W:Rec) (Γ:Hi T) (Y:Nat->Bool->(Nat->Prop)->(Nat->Prop)->H->Prop) (tl:List fF) (lo:Nat) (D:List Tmp) (c:AC) (rd:Bool) (B:Nat->Prop) (ρ:Loc) (ec:EC T) (h:H) (vs:List Value) (df:List fF) (Q:aM->List (X T)->EC T->Prop):Prop:=
 ∃x vs' df' h' B' ρ' ts' ec',(∀rc,cT P W c (gX vs df rc rd) h=some (x,gX vs' df' rc rd,h'))/\GS E Γ Y B ρ ec h B' ρ' ec' h'/\DL E h' (ak B' ρ' ec'.env) ρ' ts' vs'/\sN D vs vs'/\F4 Γ tl lo df' h' B'/\(rd=true->df'=df)/\Q x ts' ec'
theorem KN (hE:bM E) (hW:JY P Tf nk W):∀(c:AC) {Y:Nat->Bool->(Nat->Prop)->(Nat->Prop)->H->Prop} (_:KX E W Γ Y) {rd:Bool} {ts:List (X T)} {ec:EC T} {Q:aM->List (X T)->EC T->Prop} {B:Nat->Prop} {ρ:Loc} {h:H} {vs:List Value} {tl:List fF} {lo:Nat} {df:List fF},
  (Γ.y.isNone=true->∀k fin B C h,Y k fin B C h)->aE E B ρ ec h->Y ec.k ec.fin B (eZ ρ ec.env) h->DL E h (ak B ρ ec.env) ρ ts vs->lo<=h.next->F4 Γ tl lo df h B->XS P E W Γ c rd ts ec Q->Comes P E W Γ Y tl lo (aZ c) c rd B ρ ec h vs df Q:=by
 intro c
 induction c with
 |skip=>
  intro Y hy rd ts ec Q B ρ h vs tl lo df hY I y d hlo hdf hs
  exact ⟨.normal,vs,df,h,B,ρ,ts,ec,fun _=>rfl,.refl I y,d,.refl _ _,hdf,fun _=>rfl,hs⟩
 |IJ ops=>
  intro Y hy rd ts ec Q B ρ h vs tl lo df hY I y d hlo hdf hs
  obtain ⟨x,vs',h',B',ρ',ts',ec',h1,h2,h3,h4⟩:=rU hE hy I y d hs
  have hfr:sN (aZ (.IJ ops)) vs vs':=by
   have:=zB (h1 df .dF rd)
   exact this
  cases x with
  |normal=>
   simp only at h4
   cases hn:G1 (iB Γ.Kk (c6 (fE ops))) ts' ec' with
   |mk t2 e2=>
    rw [hn] at h4
    obtain ⟨ρ2,st,d2⟩:=iJ h2.inv h3 hn
    have h5:=h2.trans I (st.gs hy h2.y)
    exact ⟨.normal,vs',df,h',B',ρ2,t2,e2,fun rc=>h1 df rc rd,h5,d2,hfr,hdf.gs h5,fun _=>rfl,h4⟩
  |panic v=>exact ⟨.panic v,vs',df,h',B',ρ',ts',ec',fun rc=>h1 df rc rd,h2,h3,hfr,hdf.gs h2,fun _=>rfl,h4⟩
  |_=>exact h4.elim
 |yq ops aC cuts=>
  intro Y hy rd ts ec Q B ρ h vs tl lo df hY I y d hlo hdf hs
  rcases Es hE hy I y d hs with ⟨S,u,h1,h2,h3,h4,h0,h5,h6⟩ |⟨i,S,u,o,v,h',B',ρ',ec',m1,h1,h2,h3,h4,h0,m2,h5,m3,h6⟩
  ·simp only [List.append_nil,List.reverse_reverse] at h6
   obtain ⟨h7,h8⟩:=wq hE h2 h6
   have hget:(S.map fun s=>(s.vs,s.h))[ops.length]?=some (u.vs,u.h):=by rw [List.getElem?_map,h4];rfl
   refine ⟨.normal,u.vs,df,u.h,u.B,u.ρ,u.ts,u.ec,fun rc=>?_,h5,(h2.ok h4).2,?_,hdf.gs h5,fun _=>rfl,h8⟩
   ·simp only [cT,fM]
    simp only [gX,h1,h7,if_true,hget]
   ·exact uN h1 _ _ _ hget
  ·simp only [List.append_nil,List.reverse_reverse] at h6
   have hrev:∃z G0,(S.map fun s=>(s.ts,s.ec)).reverse=z :: G0/\G0.length=i:=by
    cases hr:(S.map fun s=>(s.ts,s.ec)).reverse with
    |nil=>
     have:=congrArg List.length hr
     rw [List.length_reverse,List.length_map,h3] at this
     simp at this
    |cons z G0=>
     have:=congrArg List.length hr
     rw [List.length_reverse,List.length_map,h3] at this
     exact ⟨z,G0,rfl,by simpa using this.symm⟩
   obtain ⟨z,G0,hr1,hr2⟩:=hrev
   rw [hr1] at h6
   simp only [hr2] at h6
   split at h6
   ·rename_i cks bads hfc
    obtain ⟨hbd,h6⟩:=ai.1 h6
    obtain ⟨h7,h8⟩:=wq hE h2 h6
    have hget:(S.map fun s=>(s.vs,s.h))[i]?=some (u.vs,u.h):=by rw [List.getElem?_map,h4];rfl
    refine ⟨.panic v,ij bads u.vs,df,h',B',ρ',Eu bads u.ts,ec',fun rc=>?_,h5,m3.mark,?_,hdf.gs h5,fun _=>rfl,h8⟩
    ·have hnone:trace P W ops vs h=none:=gJ (a:=gX vs df rc rd) h1 m1 hget (m2 df rc rd)
     simp only [cT,fM]
     simp only [gX,hnone]
     exact tW (a:=gX vs df rc rd) h1 m1 hget (m2 df rc rd) h7 hfc
    ·exact G3 ((uN h1 _ _ _ hget).mono fun t ht=>tX ht) hbd
   ·exact h6.elim
 |yu b ops aC=>
  intro Y hy rd ts ec Q B ρ h vs tl lo df hY I y d hlo hdf hs
  exact hs.elim
 |seq a b iha ihb=>
  intro Y hy rd ts ec Q B ρ h vs tl lo df hY I y d hlo hdf hs
  obtain ⟨x,vs',df',h',B',ρ',ts',ec',h1,h2,h3,h4,h5,h6,h7⟩:=iha hy hY I y d hlo hdf hs
  have fr1:sN (aZ (.seq a b)) vs vs':=h4.mono fun t ht=>List.mem_append_left _ ht
  cases x with
  |normal=>
   obtain ⟨x,vs2,df2,h2',B2,ρ2,ts2,ec2,k1,k2,k3,k4,k5,k6,k7⟩:=ihb hy hY h2.inv h2.y h3 (Nat.le_trans hlo h2.ext.mv.next) h5 h7
   refine ⟨x,vs2,df2,h2',B2,ρ2,ts2,ec2,fun rc=>?_,h2.trans I k2,k3,fr1.trans (k4.mono fun t ht=>List.mem_append_right _ ht),k5,fun hr=>(k6 hr).trans (h6 hr),k7⟩
   simp only [cT,h1 rc];exact k1 rc
  |exit id=>exact ⟨.exit id,vs',df',h',B',ρ',ts',ec',fun rc=>by simp only [cT,h1 rc],h2,h3,fr1,h5,h6,h7⟩
  |ret=>exact ⟨.ret,vs',df',h',B',ρ',ts',ec',fun rc=>by simp only [cT,h1 rc],h2,h3,fr1,h5,h6,h7⟩
  |panic v=>exact ⟨.panic v,vs',df',h',B',ρ',ts',ec',fun rc=>by simp only [cT,h1 rc],h2,h3,fr1,h5,h6,h7⟩
 |cond c a b iha ihb=>
  intro Y hy rd ts ec Q B ρ h vs tl lo df hY I y d hlo hdf hs
  simp only [XS] at hs
  have dc:=D.bV d c
  split at hs
  ·rename_i t hc
   rw [hc] at dc
   have hv:=uS dc
   rcases gu hs with ⟨rfl,hs⟩ |⟨rfl,hs⟩
   ·obtain ⟨x,vs',df',h',B',ρ',ts',ec',h1,h2,h3,h4,h5,h6,h7⟩:=iha hy hY I y (d.Iu hc) hlo hdf hs
    exact ⟨x,vs',df',h',B',ρ',ts',ec',fun rc=>by simp only [cT,gX,hv];exact h1 rc,h2,h3,h4.mono fun t ht=>List.mem_append_left _ ht,h5,h6,h7⟩
   ·obtain ⟨x,vs',df',h',B',ρ',ts',ec',h1,h2,h3,h4,h5,h6,h7⟩:=ihb hy hY I y (d.Iu hc) hlo hdf hs
    exact ⟨x,vs',df',h',B',ρ',ts',ec',fun rc=>by simp only [cT,gX,hv];exact h1 rc,h2,h3,h4.mono fun t ht=>List.mem_append_right _ ht,h5,h6,h7⟩
  ·exact hs.elim
 |block id c ih=>
  intro Y hy rd ts ec Q B ρ h vs tl lo df hY I y d hlo hdf hs
  obtain ⟨x,vs',df',h',B',ρ',ts',ec',h1,h2,h3,h4,h5,h6,h7⟩:=ih hy hY I y d hlo hdf hs
  cases x with
  |normal=>exact ⟨.normal,vs',df',h',B',ρ',ts',ec',fun rc=>by simp only [cT,h1 rc],h2,h3,h4,h5,h6,h7⟩
  |ret=>exact ⟨.ret,vs',df',h',B',ρ',ts',ec',fun rc=>by simp only [cT,h1 rc],h2,h3,h4,h5,h6,h7⟩
  |panic v=>exact ⟨.panic v,vs',df',h',B',ρ',ts',ec',fun rc=>by simp only [cT,h1 rc],h2,h3,h4,h5,h6,h7⟩
  |exit id'=>
   simp only at h7
   cases hb:Nat.beq id' id with
   |true=>
    rw [hb] at h7
    have e:=Nat.eq_of_beq_eq_true hb
    exact ⟨.normal,vs',df',h',B',ρ',ts',ec',fun rc=>by simp only [cT,h1 rc,if_pos e],h2,h3,h4,h5,h6,h7⟩
   |false=>
    rw [hb] at h7
    have e:¬id'=id:=fun e=>by rw [e,Nat.beq_refl] at hb;cases hb
    exact ⟨.exit id',vs',df',h',B',ρ',ts',ec',fun rc=>by simp only [cT,h1 rc,if_neg e],h2,h3,h4,h5,h6,h7⟩
 |loop c ih=>
  intro Y hy rd ts ec Q B ρ h vs tl lo df hY I y d hlo hdf hs
  simp only [XS] at hs
  cases hnrm:G1 (iB Γ.loops (c6 (aZ c))) ts ec with
  |mk tE eE=>
   rw [hnrm] at hs
   simp only at hs
   obtain ⟨ρE,st,dE⟩:=iJ I d hnrm
   obtain ⟨II,M,hin,hall⟩:=hs
   have gE:=st.gs hy y
   have dfE:=hdf.gs gE
   have key:∀(m:Nat) {B1:Nat->Prop} {ρ1:Loc} {e1:EC T} {h1:H} {vs1:List Value} {t1:List (X T)} {cx:List (CX T)} {i:Prop} {df1:List fF},aE E B1 ρ1 e1 h1->DL E h1 (ak B1 ρ1 e1.env) ρ1 t1 vs1->GS E Γ Y B ρE eE h B1 ρ1 e1 h1->sN (aZ c) vs vs1->F4 Γ tl lo df1 h1 B1->(rd=true->df1=df)->
     mK (aZ c) (iB Γ.loops (c6 (aZ c))) tE eE t1 e1=some cx->i->(∀F:List (CX T)->Prop->Nat->Prop,Ab _ II M F->F cx i m)->
     ∃x vs' df' h' B' ρ' ts' ec',(∀rc,cT P W (.loop c) (gX vs1 df1 rc rd) h1=some (x,gX vs' df' rc rd,h'))/\GS E Γ Y B ρE eE h B' ρ' ec' h'/\DL E h' (ak B' ρ' ec'.env) ρ' ts' vs'/\sN (aZ c) vs vs'/\F4 Γ tl lo df' h' B'/\(rd=true->df'=df)/\Q x ts' ec':=by
    intro m
    induction m using Nat.strongRecOn with
    |_ m ihm=>
     intro B1 ρ1 e1 h1 vs1 t1 cx i df1 I1 d1 g1 fr1 df1ok dfe hr hi hF
     have hbody:=hF (fun cx i m=>i->(match Ni (aZ c) (iB Γ.loops (c6 (aZ c))) tE eE cx with
      |some (th,eh)=>XS P E W Γ c rd th eh fun x ts' ec'=>match x with
       | .normal=>(match mK (aZ c) (iB Γ.loops (c6 (aZ c))) tE eE ts' ec' with
         |some cx'=>IM _ cx' II M fun i' m'=>i'/\m' < m
         |none=>False)
       | .exit id=>Q (.exit id) ts' ec'
       | .ret=>Q .ret ts' ec'
       | .panic v=>Q (.panic v) ts' ec'
      |none=>False)) hall hi
     split at hbody
     ·rename_i th eh hh
      obtain ⟨ρh,r1,r2,r3,r4,r5⟩:=Ae hE hy st.inv dE I1 d1 g1.y g1.ext fr1 hr hh
      have gh:GS E Γ Y B ρE eE h B1 ρh eh h1:=⟨r1,r3,r4,g1.kp⟩
      obtain ⟨x,vs2,df2,h2,B2,ρ2,t2,e2,k1,k2,k3,k4,k5,k6,k7⟩:=ih hy hY r1 r4 r2 (Nat.le_trans hlo g1.ext.mv.next) df1ok hbody
      have g2:=gh.trans st.inv k2
      have fr2:=fr1.trans k4
      cases x with
      |normal=>
       simp only at k7
       split at k7
       ·rename_i cx' hr2
        obtain ⟨i',m',⟨hi',hm'⟩,hF'⟩:=pI k7
        obtain ⟨x,vs3,df3,h3,B3,ρ3,t3,e3,l1,l2⟩:=ihm m' hm' k2.inv k3 g2 fr2 k5 (fun hr=>(k6 hr).trans (dfe hr)) hr2 hi' hF'
        refine ⟨x,vs3,df3,h3,B3,ρ3,t3,e3,fun rc=>?_,l2⟩
        simp only [cT,k1 rc]
        exact hW.loop _ _ _ _ (l1 rc)
       ·exact k7.elim
      |exit id=>exact ⟨.exit id,vs2,df2,h2,B2,ρ2,t2,e2,fun rc=>by simp only [cT,k1 rc],g2,k3,fr2,k5,fun hr=>(k6 hr).trans (dfe hr),k7⟩
      |ret=>exact ⟨.ret,vs2,df2,h2,B2,ρ2,t2,e2,fun rc=>by simp only [cT,k1 rc],g2,k3,fr2,k5,fun hr=>(k6 hr).trans (dfe hr),k7⟩
      |panic v=>exact ⟨.panic v,vs2,df2,h2,B2,ρ2,t2,e2,fun rc=>by simp only [cT,k1 rc],g2,k3,fr2,k5,fun hr=>(k6 hr).trans (dfe hr),k7⟩
     ·exact hbody.elim
   split at hin
   ·rename_i cx hr
    obtain ⟨i,m,hi,hF⟩:=pI hin
    obtain ⟨x,vs',df',h',B',ρ',ts',ec',k1,k2,k3⟩:=key m st.inv dE (.refl st.inv gE.y) (.refl _ _) dfE (fun _=>rfl) hr hi hF
    exact ⟨x,vs',df',h',B',ρ',ts',ec',k1,gE.trans I k2,k3⟩
   ·exact hin.elim
 |rangeFunc f ps as bd iha ihb=>
  intro Y hy rd ts ec Q B ρ h vs tl lo df hY I y d hlo hdf hs
  cases rd with
  |true=>simp only [XS] at hs
  |false=>
   simp only [XS] at hs
   split at hs
   ·rename_i g a b _ hf hyn
    have hyn':Γ.y.isNone=true:=by rw [hyn];rfl
    have dfv:=D.bV d f
    rw [hf] at dfv
    have hLn:(nD ec.env (ec.env.length+(tO [] (X.mQ a++X.mQ b)).length+1) (tO [] (X.mQ a++X.mQ b)) 0).Nodup:=lM (mG (by simp))
    generalize nD ec.env (ec.env.length+(tO [] (X.mQ a++X.mQ b)).length+1) (tO [] (X.mQ a++X.mQ b)) 0=L at hs hLn
    split at hs
    ·rename_i Ein hin
     obtain ⟨xs,hit,hs⟩:=hs
     cases hnrm:G1 (iB Γ.loops (c6 ps)) ts (tU ec L) with
     |mk tE eE=>
      rw [hnrm] at hs
      simp only at hs
      obtain ⟨II,hstart,hall,hend⟩:=hs
      obtain ⟨IL,xL⟩:=I.O7 L
      obtain ⟨ρE,st,dE0⟩:=iJ IL (d.mv xL.mv) hnrm
      have hAs:Oz P E W Γ as:=fun {ts ec Q B ρ h vs} I d hs=>by
       obtain ⟨x,vs',df',h',B',ρ',ts',ec',k1,k2,k3,_,_,k6,k7⟩:=iha (vm hyn') (rd:=true) (fun _ _ _ _ _ _=>trivial) I trivial d (Nat.zero_le _) (df:=[]) ⟨[],rfl,List.nodup_nil,fun _=>rfl,fun d hd=>by simp at hd⟩ hs
       have:=k6 rfl
       subst this
       exact ⟨x,vs',h',B',ρ',ts',ec',k1,k2,k3,k7⟩
      have hBs:Oz P E W Γ bd:=fun {ts ec Q B ρ h vs} I d hs=>by
       obtain ⟨x,vs',df',h',B',ρ',ts',ec',k1,k2,k3,_,_,k6,k7⟩:=ihb (vm hyn') (rd:=true) (fun _ _ _ _ _ _=>trivial) I trivial d (Nat.zero_le _) (df:=[]) ⟨[],rfl,List.nodup_nil,fun _=>rfl,fun d hd=>by simp at hd⟩ hs
       have:=k6 rfl
       subst this
       exact ⟨x,vs',h',B',ρ',ts',ec',k1,k2,k3,k7⟩
      generalize eh0:(h.alloc .CN).alloc (.loop .ready none vs ps as bd)=h0
      have hn0:h0.next=h.next+2:=by rw [← eh0];rfl
      have ht0:nB h0:=by rw [← eh0];exact (I.top.alloc _).alloc _
      have hg0:∀i,i < h.next->h0.get i=h.get i:=fun i hi=>by
       rw [← eh0,H.aI _ _ (by rw [H.bx];omega),H.aI _ _ (by omega)]
      have hgd:h0.get h.next=some .CN:=by
       rw [← eh0,H.aI _ _ (by rw [H.bx];omega)];exact H.aH _ _
      have hgl:h0.get (h.next+1)=some (.loop .ready none vs ps as bd):=by
       rw [← eh0];exact H.aH (h.alloc .CN) _
      have hI0:=FU hE I hLn (V:=[]) (fun i hi=>by simp at hi) hin
      have hC0:∀b,eZ (ρC ρ L) (cO Ein).env b↔∃id,id∈L/\dY ρ ec.env id b:=fun b=>by
       constructor
       ·intro hb
        obtain ⟨k,hb⟩:=au.1 hb
        obtain ⟨id,h1,h2⟩:=(jy I hLn hin).1 hb
        exact ⟨id,List.mem_of_getElem? h1,h2⟩
       ·rintro ⟨id,h1,h2⟩
        obtain ⟨k,hk,e⟩:=List.getElem_of_mem h1
        exact au.2 ⟨k,(jy I hLn hin).2 ⟨id,by rw [List.getElem?_eq_getElem hk,e],h2⟩⟩
      have hClt:∀b,eZ (ρC ρ L) (cO Ein).env b->b < h.next:=fun b hb=>hI0.jX (.inr hb)
      obtain ⟨IE,xE⟩:=st.inv.yield (B2:=fun b=>(B b\/b=h.next\/b=h.next+1)\/eZ (ρC ρ L) (cO Ein).env b) (h2:=h0) (k:=eE.k) (fin:=eE.fin) ht0 (by omega) (fun i hi _=>hg0 i hi) fun i hi=>by
       rcases hi with (hi |hi |hi) |hi
       ·have:=I.base i hi;exact ⟨by omega,fun _=>.inl hi⟩
       ·exact ⟨by omega,fun h=>by omega⟩
       ·exact ⟨by omega,fun h=>by omega⟩
       ·have:=hClt i hi;exact ⟨by omega,fun _=>.inr ((hC0 i).1 hi)⟩
      obtain ⟨II0,xI0⟩:=hI0.yield (B2:=fun b=>BC B ρ ec.env L [] b\/b=h.next\/b=h.next+1) (h2:=h0) (k:=(cO Ein).k) (fin:=(cO Ein).fin) ht0 (by omega) (fun i hi _=>hg0 i hi) fun i hi=>by
       rcases hi with hi |hi |hi
       ·have:=hI0.base i hi;exact ⟨by omega,fun _=>hi⟩
       ·exact ⟨by omega,fun h=>by omega⟩
       ·exact ⟨by omega,fun h=>by omega⟩
      have dE:DL E h0 (ak (fun b=>(B b\/b=h.next\/b=h.next+1)\/eZ (ρC ρ L) (cO Ein).env b) ρE eE.env) ρE tE vs:=dE0.mv xE.mv
      have hIr:∀id k q,dL L id 0=some k->ρ id=some (q,0)->ρC ρ L k=some (q,0):=fun id k q h1 h2=>O3 I hLn hin h1 h2
      have hMr:∀id cB w,D E h (ak (BC B ρ ec.env L []) (ρC ρ L) (cO Ein).env) ρ (.os id cB) w->D E h (ak (BC B ρ ec.env L []) (ρC ρ L) (cO Ein).env) (ρC ρ L) (BG ec L id cB) w:=fun id cB w d=>Ku I hLn hin d
      have CN:=((dfv.sub (FT (V:=[]) I hLn hin)).kN (mi:=fun i=>dL L i 0) (mo:=BG ec L) hE hIr hMr (.inl fun _ hb=>hb)).mv xI0.mv
      have hown0:∀b,eZ ρE eE.env b->BC B ρ ec.env L [] b:=fun b hb=>by
       have hlt:=st.inv.jX (.inr hb)
       rcases st.ext.mv.own b hlt (.inr hb) with ho |ho
       ·exact absurd ho (st.inv.jA b hb)
       ·obtain ⟨id,ho⟩:=au.1 ho
        obtain ⟨h1,h2⟩:=ow.1 ho
        exact .inr ⟨id,h1,by simp,h2⟩
      have r0:nE E Γ vs ps as bd tE eE (fun b=>(B b\/b=h.next\/b=h.next+1)\/eZ (ρC ρ L) (cO Ein).env b) ρE h0 (fun b=>B b\/b=h.next\/b=h.next+1) (h.next+1) (iB Γ.loops (c6 ps)) II (Nj _) Q 0 false
        (fun b=>BC B ρ ec.env L [] b\/b=h.next\/b=h.next+1) (eZ (ρC ρ L) (cO Ein).env) h0:=by
       refine ⟨⟨ρE,eE,IE,.refl,fun b hb=>?_,hgl,?_⟩,fun b hb hc=>?_,fun b hb=>II0.base b hb,fun _ _ _=>rfl⟩
       ·rcases hb with (hb |hb) |hb
        ·exact .inl (.inl hb)
        ·exact .inr hb
        ·exact .inl (hown0 b hb)
       ·split at hstart
        ·rename_i cx hr
         obtain ⟨i,m,hi,hF⟩:=pI hstart
         exact ⟨cx,i,m,hr,hi,hF⟩
        ·exact hstart.elim
       ·exact II0.jA b hb hc
      obtain ⟨v,rc,h',B',C',k,fin,hcall,r,hk,ht'⟩:=hit h0 _ _ _ (h.next+1) (fun k fin B1 C h1=>nE E Γ vs ps as bd tE eE (fun b=>(B b\/b=h.next\/b=h.next+1)\/eZ (ρC ρ L) (cO Ein).env b) ρE h0 (fun b=>B b\/b=h.next\/b=h.next+1) (h.next+1) (iB Γ.loops (c6 ps)) II (Nj _) Q k fin B1 C h1)
       II0 CN (fun k fin B1 C1 C2 h1 h2 r ht hn hg hC=>r.xV IE (.inr (.inr rfl)) ht hn hg hC) (fun k x us B1 C h1 hx r _ _ _ dus=>by
        rw [List.getElem?_map,Option.map_eq_some_iff] at hx
        obtain ⟨x',hx',rfl⟩:=hx
        exact nE.step hE hW hyn' hAs hBs hall IE dE (.inr (.inr rfl)) hx' r dus) r0
      obtain ⟨ρ1,e1,I1,x1,_,hfin⟩:=r.ex
      have key:∀{ρ2:Loc} {e2:EC T} {st2:LoopState} {pend:Option (Option Nat)},aE E (fun b=>(B b\/b=h.next\/b=h.next+1)\/C' b) ρ2 e2 h'->
        Ext (fun b=>(B b\/b=h.next\/b=h.next+1)\/eZ (ρC ρ L) (cO Ein).env b) ρE eE h0 (fun b=>(B b\/b=h.next\/b=h.next+1)\/C' b) ρ2 e2 h'->h'.get (h.next+1)=some (.loop st2 pend vs ps as bd)->Jx st2=false->Q (DG pend) tE e2->
        Comes P E W Γ Y tl lo (aZ (.rangeFunc f ps as bd)) (.rangeFunc f ps as bd) false B ρ ec h vs df Q:=by
       intro ρ2 e2 st2 pend I2 x2 hl hbusy hQ
       have hlt:=I2.top.lt hl
       obtain ⟨I3,x3⟩:=I2.yield (B2:=fun b=>B b\/b=h.next) (h2:=h'.set (h.next+1) (.loop .exhausted pend vs ps as bd)) (k:=e2.k) (fin:=e2.fin) (I2.top.set hlt _) (by rw [H.ey];exact Nat.le_refl _)
        (fun i _ hn=>H.ah _ _ fun e=>hn (.inl (.inr (.inr e.symm)))) fun i hi=>by
         rw [H.ey]
         rcases hi with hi |hi
         ·exact ⟨I2.base i (.inl (.inl hi)),fun _=>.inl (.inl hi)⟩
         ·exact ⟨I2.base i (.inl (.inr (.inl hi))),fun _=>.inl (.inr (.inl hi))⟩
       have xt:=(((xL.trans I IL st.ext).trans I st.inv xE).trans I IE x2).trans I I2 x3
       have hd:(h'.set (h.next+1) (.loop .exhausted pend vs ps as bd)).get h.next=some .CN:=by
        rw [H.ah _ _ (by omega),r.keep h.next (.inr (.inl rfl)) (by omega)];exact hgd
       have hkB:∀b,B b->(h'.set (h.next+1) (.loop .exhausted pend vs ps as bd)).get b=h.get b:=fun b hb=>by
        have:=I.base b hb
        rw [H.ah _ _ (by omega),r.keep b (.inl hb) (by omega)];exact hg0 b this
       refine ⟨DG pend,vs,.coll h.next :: df,_,fun b=>B b\/b=h.next,ρ2,tE,e2,fun rc=>?_,⟨I3,xt,hY hyn' _ _ _ _ _,fun _=>⟨fun b hb=>.inl hb,fun b hb hlt=>?_,hkB⟩⟩,(dE.mv x2.mv).mv x3.mv,.refl _ _,?_,fun h=>(by cases h),hQ⟩
       ·simp only [cT,gX]
        rw [eh0,hcall]
        simp only [hl,hbusy]
        rfl
       ·rcases hb with hb |hb
        ·exact hb
        ·omega
       ·obtain ⟨ds,f1,f2,f3,f4⟩:=hdf
        refine ⟨h.next :: ds,by rw [f1];rfl,List.nodup_cons.2 ⟨fun hm=>absurd (f4 _ hm).2.1 (Nat.lt_irrefl _),f2⟩,fun hy=>(by rw [hyn'] at hy;cases hy),fun x hx=>?_⟩
        rcases List.mem_cons.1 hx with rfl |hx
        ·exact ⟨hlo,I3.base _ (.inr rfl),hd,.inr rfl⟩
        ·obtain ⟨k1,k2,k3,k4⟩:=f4 x hx
         exact ⟨k1,Nat.lt_of_lt_of_le k2 xt.mv.next,(hkB x k4).trans k3,.inl k4⟩
      cases fin with
      |true=>
       obtain ⟨pend,x,g1,g2,_,g3⟩:=hfin
       subst g2
       exact key I1 x1 g1 rfl g3
      |false=>
       obtain ⟨g1,cx,i,m,hr,hi,hF⟩:=hfin
       have hkx:=hk rfl
       rw [List.length_map] at hkx
       subst hkx
       have hq:=hF _ hend hi
       split at hq
       ·rename_i th eh hh
        obtain ⟨ρ2,I2,_,x2,_,_⟩:=Ae hE (vm (E:=E) (W:=W) hyn') IE dE I1 (dE.mv x1.mv) trivial x1 (.refl (aZ as++aZ bd) vs) hr hh
        exact key I2 x2 g1 rfl hq
       ·exact hq.elim
    ·exact hs.elim
   ·exact hs.elim
 |exit id=>
  intro Y hy rd ts ec Q B ρ h vs tl lo df hY I y d hlo hdf hs
  exact ⟨.exit id,vs,df,h,B,ρ,ts,ec,fun _=>rfl,.refl I y,d,.refl _ _,hdf,fun _=>rfl,hs⟩
 |ret=>
  intro Y hy rd ts ec Q B ρ h vs tl lo df hY I y d hlo hdf hs
  exact ⟨.ret,vs,df,h,B,ρ,ts,ec,fun _=>rfl,.refl I y,d,.refl _ _,hdf,fun _=>rfl,hs⟩
 |stuck=>
  intro Y hy rd ts ec Q B ρ h vs tl lo df hY I y d hlo hdf hs
  exact hs.elim
end Go.Ev
namespace Go.Ev
open Go
variable {T:TypeId->Type} {P:Program} {E:gR T} {W:Rec} {Γ:Hi T} {Tf:Nat->Option kM} {nk:Nat->Bool} {B B':Nat->Prop} {ρ ρ1 ρ':Loc} {ec e1 ec':EC T} {h h1 h':H} {O O':Nat->Prop}
theorem CK {e e':TypeId} {l:List (T e)} {l':List (T e')} (h:match ou e e' l with |some x=>x=l' |none=>False):∃he:e=e',he▸l=l':=by
 split at h
 ·rename_i z hz
  obtain ⟨ee,rfl⟩:=mH hz
  exact ⟨ee,h⟩
 ·exact h.elim
mutual
theorem KO (hE:bM E) (I:aE E B ρ1 e1 h1) {f:Nat->Option Nat} {w:Nat->Nat}
  (hO:∀b,O' b->ak B ρ1 e1.env b) (hF:∀id k q,f id=some k->ρ1 id=some (q,0)->ρ' k=some (q,0)) (hW:∀id k u q,f id=some k->lg e1 id u=true->ρ1 id=some (q,u)->ρ' k=some (q,w k)) (hN:∀id b,f id=none->dY ρ1 e1.env id b->¬O' b):
  ∀{x y:X T} {v:Value},X.pF f w e1 x y->D E h1 (ak B ρ1 e1.env) ρ1 x v->D E h1 O' ρ' y v
 | .v a,y,v,he,d=>by
   have hv:=uS d
   subst hv
   cases y with
   |bad=>exact .bad _
   |v b=>
    have:v=b:=by
     cases v<;>cases b<;>simp only [X.pF,ai,decide_eq_true_eq] at he<;>first |exact he |(rw [he]) |(obtain ⟨e1,e2⟩:=he;rw [e1,e2]) |skip
     all_goals first |rfl |exact he
    subst this
    exact .v _
   |ro e l=>
    have:v= .slice none 0 0/\l=[]:=by
     cases v with
     |slice p n c=>
      cases p with
      |none=>
       cases n with
       |zero=>
        cases c with
        |zero=>simp only [X.pF] at he;exact ⟨rfl,he⟩
        |succ c=>simp only [X.pF] at he
       |succ n=>simp only [X.pF] at he
      |some a=>simp only [X.pF] at he
     |_=>simp only [X.pF] at he
    obtain ⟨rfl,rfl⟩:=this
    exact .ro e [] ⟨none,0,0⟩ [] ⟨rfl,by simp,fun h=>by simp at h⟩ rfl (by simp [maxLen]) (.inl rfl) (fun b o h1=>by cases h1) fun i a r h1=>by simp at h1
   |_=>cases v<;>simp only [X.pF] at he
 | .op a,y,v,he,d=>by
   cases y with
   |bad=>exact .bad _
   |op b=>simp only [X.pF] at he;subst he;exact d.gN hE rfl hO
   |_=>simp only [X.pF] at he
 | .ro e l,y,v,he,d=>by
   cases y with
   |bad=>exact .bad _
   |ro e' l'=>
    simp only [X.pF] at he
    obtain ⟨rfl,rfl⟩:=CK he
    exact d.gN hE rfl hO
   |_=>simp only [X.pF] at he
 | .os id u,y,v,he,d=>by
   cases y with
   |bad=>exact .bad _
   |ro e' l'=>
    simp only [X.pF] at he
    obtain ⟨hf,he⟩:=ai.1 he
    have hf0:f id=none:=by
     split at hf
     ·assumption
     ·cases hf
    split at he
    ·rename_i u' e l hg
     obtain ⟨hu,he2⟩:=ai.1 he
     have hu:=Nat.eq_of_beq_eq_true hu
     subst hu
     ·obtain ⟨rfl,rfl⟩:=CK he2
      obtain ⟨s,hfd⟩:=aB hg
      obtain ⟨q,rows,k1,rfl,k2,k3,k4⟩:=oe I hfd d
      exact .ro e l q rows k2.MP k3.len k4 (by rcases k2.2 with ⟨e1,_⟩ |⟨b,t,e1,_⟩<;>rw [e1]<;>simp) (fun b o hq _=>hN id b hf0 ⟨s,_,q,u,o,hfd,rfl,k1,hq⟩) fun i a r g1 g2 j z w g3 g4=>((k3.row i a r g1 g2).2 j z w g3 g4).gN hE (hE.row _ _ _ (List.mem_of_getElem? g3)) hO
    ·rename_i u' e l hg
     obtain ⟨hu,he2⟩:=ai.1 he
     have hu:=Nat.eq_of_beq_eq_true hu
     subst hu
     ·obtain ⟨rfl,rfl⟩:=CK he2
      obtain ⟨s,hfd⟩:=aB hg
      exact (Eg I hfd d).gN hE rfl hO
    ·exact he.elim
   |os k u'=>
    simp only [X.pF] at he
    obtain ⟨hc,_⟩:=ai.1 he
    simp only [Bool.and_eq_true] at hc
    have hf:f id=some k:=by
     have:=hc.1.1
     unfold Ny at this
     split at this
     ·rename_i a b ha hb
      cases hb
      rw [ha,Nat.eq_of_beq_eq_true this]
     ·cases this
    have hu:=Nat.eq_of_beq_eq_true hc.2
    have hcur:=hc.1.2
    have hcur':=hcur
    unfold lg at hcur'
    cases d with
    |os _ _ n q q0 hq hle hw=>
     have hn:u=n:=by
      split at hcur'
      ·rename_i u2 e l hg
       obtain ⟨s,hfd⟩:=aB hg
       obtain ⟨q2,k1⟩:=lU.loc (I.obj id s _ hfd).2
       rw [hq] at k1;cases k1
       exact (Nat.eq_of_beq_eq_true hcur').symm
      ·rename_i u2 e l hg
       obtain ⟨s,hfd⟩:=aB hg
       obtain ⟨q2,k1⟩:=lU.loc (I.obj id s _ hfd).2
       rw [hq] at k1;cases k1
       exact (Nat.eq_of_beq_eq_true hcur').symm
      ·cases hcur'
     subst hn
     rw [hw rfl,hu]
     exact .os k (w k) (w k) q q (hW id k u q hf hcur hq) (Nat.le_refl _) fun _=>rfl
   |_=>simp only [X.pF] at he
 | .ptr id o,y,v,he,d=>by
   cases y with
   |bad=>exact .bad _
   |ptr k o'=>
    simp only [X.pF] at he
    obtain ⟨hc,_⟩:=ai.1 he
    simp only [Bool.and_eq_true] at hc
    have hf:f id=some k:=by
     have:=hc.1
     unfold Ny at this
     split at this
     ·rename_i a b ha hb
      cases hb
      rw [ha,Nat.eq_of_beq_eq_true this]
     ·cases this
    cases d with
    |ptr _ _ b q hq hb=>
     rw [Nat.eq_of_beq_eq_true hc.2]
     exact .ptr k o' b q (hF id k q hf hq) hb
   |_=>simp only [X.pF] at he
 | .ab _ _ _,y,v,he,d=>by
   cases y with
   |bad=>exact .bad _
   |_=>simp only [X.pF] at he
 | .mp id,y,v,he,d=>by
   cases y with
   |bad=>exact .bad _
   |mp k=>
    simp only [X.pF] at he
    obtain ⟨hc,_⟩:=ai.1 he
    have hf:f id=some k:=by
     unfold Ny at hc
     split at hc
     ·rename_i a b ha hb
      cases hb
      rw [ha,Nat.eq_of_beq_eq_true hc]
     ·cases hc
    cases d with
    |mp _ b q hq hb=>exact .mp k b q (hF id k q hf hq) hb
   |_=>simp only [X.pF] at he
 | .agg a,y,v,he,d=>by
   cases y with
   |bad=>exact .bad _
   |agg b=>
    simp only [X.pF] at he
    cases d with
    |agg _ us hl hd=>
     have:=wu hE I hO hF hW hN (l:=a) (m:=b) (us:=us) he ⟨hl,hd⟩
     exact .agg b us this.1 this.2
   |_=>simp only [X.pF] at he
 | .gD a,y,v,he,d=>by
   cases y with
   |bad=>exact .bad _
   |gD b=>
    simp only [X.pF] at he
    cases d with
    |gD _ us hl hd=>
     have:=wu hE I hO hF hW hN (l:=a) (m:=b) (us:=us) he ⟨hl,hd⟩
     exact .gD b us this.1 this.2
   |_=>simp only [X.pF] at he
 | .fn g a b,y,v,he,d=>by
   cases y with
   |bad=>exact .bad _
   |fn g' a' b'=>
    simp only [X.pF] at he
    obtain ⟨hg,e1,e2⟩:=ai.1 he
    have hg:=Nat.eq_of_beq_eq_true hg
    subst hg
    cases d with
    |fn _ _ _ va vb ha hb hda hdb=>
     have k1:=wu hE I hO hF hW hN (l:=a) (m:=a') (us:=va) e1 ⟨ha,hda⟩
     have k2:=wu hE I hO hF hW hN (l:=b) (m:=b') (us:=vb) e2 ⟨hb,hdb⟩
     exact .fn g a' b' va vb k1.1 k2.1 k1.2 k2.2
   |_=>simp only [X.pF] at he
 | .o9 t a,y,v,he,d=>by
   cases y with
   |bad=>exact .bad _
   |o9 t' b=>
    simp only [X.pF] at he
    obtain ⟨ht,e1⟩:=ai.1 he
    have ht:=Nat.eq_of_beq_eq_true ht
    subst ht
    cases d with
    |o9 _ _ u hd=>exact .o9 t b u (KO hE I hO hF hW hN e1 hd)
   |_=>simp only [X.pF] at he
 | .arr _ _ _ _ _,y,v,he,d=>by cases y<;>first |exact .bad _ |(simp only [X.pF] at he)
 | .ea _ _ _,y,v,he,d=>by cases y<;>first |exact .bad _ |(simp only [X.pF] at he)
 | .oa _ _ _ _ _,y,v,he,d=>by cases y<;>first |exact .bad _ |(simp only [X.pF] at he)
 | .gp _ _,y,v,he,d=>by cases y<;>first |exact .bad _ |(simp only [X.pF] at he)
 | .ga _ _ _ _ _,y,v,he,d=>by cases y<;>first |exact .bad _ |(simp only [X.pF] at he)
 | .bad,y,v,he,d=>by cases y<;>first |exact .bad _ |(simp only [X.pF] at he)
theorem wu (hE:bM E) (I:aE E B ρ1 e1 h1) {f:Nat->Option Nat} {w:Nat->Nat}
  (hO:∀b,O' b->ak B ρ1 e1.env b) (hF:∀id k q,f id=some k->ρ1 id=some (q,0)->ρ' k=some (q,0)) (hW:∀id k u q,f id=some k->lg e1 id u=true->ρ1 id=some (q,u)->ρ' k=some (q,w k)) (hN:∀id b,f id=none->dY ρ1 e1.env id b->¬O' b):
  ∀{l m:List (X T)} {us:List Value},X.vk f w e1 l m->DL E h1 (ak B ρ1 e1.env) ρ1 l us->DL E h1 O' ρ' m us
 | [],m,us,he,d=>by
   cases m with
   |nil=>
    have:us=[]:=List.length_eq_zero_iff.1 d.1.symm
    subst this;exact .nil
   |cons _ _=>simp only [X.vk] at he
 |a :: r,m,us,he,d=>by
  obtain ⟨u,us',rfl,d1,d2⟩:=d.cM
  cases m with
  |nil=>simp only [X.vk] at he
  |cons b s=>
   have hh:X.pF f w e1 a b/\X.vk f w e1 r s:=by
    cases r with
    |nil=>
     cases s with
     |nil=>simp only [X.vk] at he;exact ⟨he,trivial⟩
     |cons _ _=>simp only [X.vk] at he;exact he
    |cons _ _=>
     cases s with
     |nil=>simp only [X.vk] at he;exact he.2.elim
     |cons _ _=>simp only [X.vk] at he ⊢;exact he
   exact .cons (KO hE I hO hF hW hN hh.1 d1) (wu hE I hO hF hW hN hh.2 d2)
end
end Go.Ev
namespace Go.Ev
open Go
variable {T:TypeId->Type} {P:Program} {E:gR T} {W:Rec} {Γ:Hi T} {Tf:Nat->Option kM} {nk:Nat->Bool} {B B':Nat->Prop} {ρ ρ1 ρ':Loc} {ec e1 ec':EC T} {h h1 h':H} {O O':Nat->Prop}
theorem ED {n m:Nat}:∀{b:List (Nat × Nat)},okB n m b=true->(∀p∈b,n<=p.2/\p.2 < m)/\∀p∈b,∀q∈b,(p.1=q.1↔p.2=q.2)
 | [],_=>⟨fun p hp=>by simp at hp,fun p hp=>by simp at hp⟩
 |(x,y) :: r,h=>by
  simp only [okB,Bool.and_eq_true,List.all_eq_true] at h
  obtain ⟨⟨⟨h1,h2⟩,h3⟩,h4⟩:=h
  obtain ⟨k1,k2⟩:=ED h4
  have hp:∀p∈r,(x=p.1↔y=p.2):=fun p hp=>by
   have:=h3 p hp
   simp only [Bool.or_eq_true,Bool.and_eq_true,Bool.not_eq_true'] at this
   rcases this with ⟨e1,e2⟩ |⟨e1,e2⟩
   ·exact ⟨fun _=>(Nat.eq_of_beq_eq_true e2).symm,fun _=>(Nat.eq_of_beq_eq_true e1).symm⟩
   ·exact ⟨fun e=>(by rw [← e,Nat.beq_refl] at e1;cases e1),fun e=>(by rw [← e,Nat.beq_refl] at e2;cases e2)⟩
  refine ⟨fun p hp'=>?_,fun p hp' q hq=>?_⟩
  ·rcases List.mem_cons.1 hp' with rfl |h5
   ·exact ⟨Nat.le_of_ble_eq_true h1,by have:=h2;rw [Nat.blt_eq] at this;exact this⟩
   ·exact k1 p h5
  ·rcases List.mem_cons.1 hp' with rfl |h5<;>rcases List.mem_cons.1 hq with rfl |h6
   ·exact ⟨fun _=>rfl,fun _=>rfl⟩
   ·exact hp q h6
   ·exact ⟨fun e=>((hp p h5).1 e.symm).symm,fun e=>((hp p h5).2 e.symm).symm⟩
   ·exact k2 p h5 q h6
theorem BP:∀{b:List (Nat × Nat)} {d k:Nat},xu b d=some k->(d,k)∈b
 | [],_,_,h=>by cases h
 |(x,y) :: r,d,k,h=>by
  simp only [xu] at h
  cases hb:Nat.beq x d with
  |true=>
   rw [hb] at h
   simp only [cond_true,Option.some.injEq] at h
   rw [← h,← Nat.eq_of_beq_eq_true hb];exact List.mem_cons_self ..
  |false=>rw [hb] at h;exact List.mem_cons_of_mem _ (BP h)
theorem EE:∀{b:List (Nat × Nat)} {d k:Nat},(∀p∈b,∀q∈b,(p.1=q.1↔p.2=q.2))->(d,k)∈b->xu b d=some k
 | [],_,_,_,h=>by simp at h
 |(x,y) :: r,d,k,hp,h=>by
  simp only [xu]
  cases hb:Nat.beq x d with
  |true=>
   have:=(hp _ (List.mem_cons_self ..) _ h).1 (Nat.eq_of_beq_eq_true hb)
   simp only at this
   rw [this];rfl
  |false=>
   rcases List.mem_cons.1 h with h1 |h1
   ·cases h1;rw [Nat.beq_refl] at hb;cases hb
   ·exact EE (fun p hp' q hq=>hp p (List.mem_cons_of_mem _ hp') q (List.mem_cons_of_mem _ hq)) h1
theorem BQ:∀{b:List (Nat × Nat)} {d k:Nat},nq b d=some k->(k,d)∈b
 | [],_,_,h=>by cases h
 |(x,y) :: r,d,k,h=>by
  simp only [nq] at h
  cases hb:Nat.beq y d with
  |true=>
   rw [hb] at h
   simp only [cond_true,Option.some.injEq] at h
   rw [← h,← Nat.eq_of_beq_eq_true hb];exact List.mem_cons_self ..
  |false=>rw [hb] at h;exact List.mem_cons_of_mem _ (BQ h)
theorem EF:∀{b:List (Nat × Nat)} {d k:Nat},(∀p∈b,∀q∈b,(p.1=q.1↔p.2=q.2))->(k,d)∈b->nq b d=some k
 | [],_,_,_,h=>by simp at h
 |(x,y) :: r,d,k,hp,h=>by
  simp only [nq]
  cases hb:Nat.beq y d with
  |true=>
   have:=(hp _ (List.mem_cons_self ..) _ h).2 (Nat.eq_of_beq_eq_true hb)
   simp only at this
   rw [this];rfl
  |false=>
   rcases List.mem_cons.1 h with h1 |h1
   ·cases h1;rw [Nat.beq_refl] at hb;cases hb
   ·exact EF (fun p hp' q hq=>hp p (List.mem_cons_of_mem _ hp') q (List.mem_cons_of_mem _ hq)) h1
theorem xz {n:Nat} {out:List (Ch T)} {b:List (Nat × Nat)}:∀{c:Nat} {K:Prop},CH n out b e1 c K->K/\∀k,k < c->match bU out k with
  | .same=>∃o,cW e1.env k=some (0,o)
  | .gP o=>∃o',e1.get k=some o'/\CG o o'=true/\KH (pG n out b) (wo n out e1) e1 o' o
  | .gone=>True
 | 0,K,h=>⟨h,fun k hk=>by omega⟩
 |c+1,K,h=>by
  simp only [CH] at h
  obtain ⟨h1,h2⟩:=xz h
  have key:K/\match bU out c with
    | .same=>∃o,cW e1.env c=some (0,o)
    | .gP o=>∃o',e1.get c=some o'/\CG o o'=true/\KH (pG n out b) (wo n out e1) e1 o' o
    | .gone=>True:=by
   cases hc:bU out c with
   |same=>
    rw [hc] at h1
    simp only at h1
    obtain ⟨g1,g2⟩:=ai.1 h1
    refine ⟨g2,?_⟩
    split at g1
    ·rename_i o ho;exact ⟨o,ho⟩
    ·cases g1
   |gP o=>
    rw [hc] at h1
    simp only at h1
    split at h1
    ·rename_i o' ho
     obtain ⟨hv,h1⟩:=ai.1 h1
     exact ⟨h1.2,o',ho,hv,h1.1⟩
    ·exact h1.elim
   |gone=>rw [hc] at h1;exact ⟨h1,trivial⟩
  refine ⟨key.1,fun k hk=>?_⟩
  by_cases he:k=c
  ·rw [he];exact key.2
  ·exact h2 k (by omega)
theorem xA {n:Nat} {out:List (Ch T)} {b:List (Nat × Nat)}:∀{l:List (Ob T)} {j:Nat} {K:Prop},CI n out b e1 j l K->K/\∀(i:Nat) (o:Ob T),l[i]?=some o->∃id o',nq b (n+(j+i))=some id/\e1.get id=some o'/\KH (pG n out b) (wo n out e1) e1 o' o
 | [],j,K,h=>⟨h,fun i o hi=>by simp at hi⟩
 |o :: r,j,K,h=>by
  simp only [CI] at h
  split at h
  ·rename_i id hid
   split at h
   ·rename_i o' ho
    obtain ⟨h1,h2⟩:=h
    obtain ⟨g1,g2⟩:=xA h2
    refine ⟨g1,fun i u hi=>?_⟩
    cases i with
    |zero=>simp at hi;subst hi;exact ⟨id,o',hid,ho,h1⟩
    |succ i=>
     simp at hi
     obtain ⟨id',o'',k1,k2⟩:=g2 i u hi
     exact ⟨id',o'',by rw [show j+(i+1)=j+1+i by omega];exact k1,k2⟩
   ·exact h.elim
  ·exact h.elim
theorem ox {f:Nat->Option Nat} {w:Nat->Nat} {o' o:Ob T} (h:KH f w e1 o' o):o'.own=true/\o.own=true/\(mP o'=none↔mP o=none):=by
 unfold KH at h
 split at h
 ·exact ⟨rfl,rfl,by simp [mP]⟩
 ·exact ⟨rfl,rfl,by simp [mP]⟩
 ·exact ⟨rfl,rfl,by simp [mP]⟩
 ·exact h.elim
theorem EG {o:Ob T} (h:mP o=none):o.vn=0:=by cases o<;>simp_all [mP,Ob.vn]
theorem lU.Pk {id:Nat} {o:Ob T} (ho:lU E h O ρ id o):mP o=none↔o.vn=0:=by
 cases o with
 |box=>simp [mP,Ob.vn]
 |mp=>simp [mP,Ob.vn]
 |fb=>simp [mP,Ob.vn]
 |os v e l=>obtain ⟨_,_,_,h0,_⟩:=ho;simp [mP,Ob.vn];omega
 |fz v e l=>obtain ⟨_,_,h0,_⟩:=ho;simp [mP,Ob.vn];omega
theorem BR {w:Nat} {l:List (Ob T)} (h:BN w l=true) {o:Ob T} (ho:o∈l):o.vn=0/\mP o=none\/o.vn=w/\mP o≠none:=by
 unfold BN at h
 rw [List.all_eq_true] at h
 have:=h o ho
 split at this
 ·rename_i v hv
  exact .inr ⟨by rw [pz hv];exact Nat.eq_of_beq_eq_true this,by rw [hv];simp⟩
 ·rename_i hv;exact .inl ⟨EG hv,hv⟩
def ρZ (ρ ρ1:Loc) (n:Nat) (out:List (Ch T)) (new:List (Ob T)) (b:List (Nat × Nat)) (k:Nat):Option (SV × Nat):=
 if k < n then (match bU out k with
  | .gP o=>(match ρ1 k with |some (q,_)=>some (q,o.vn) |none=>ρ k)
  |_=>ρ k)
 else (match nq b k,new[k - n]? with
  |some id,some o=>(match ρ1 id with |some (q,_)=>some (q,o.vn) |none=>none)
  |_,_=>none)
theorem KQ (hE:bM E) {Ein:List (Ob T)} (I:aE E B ρ (cO Ein) h) (hnone:∀k,Ein.length<=k->ρ k=none) (hver:BN 1 Ein=true) (I1:aE E B ρ1 e1 h1) (x:Ext B ρ (cO Ein) h B ρ1 e1 h1) (hkeep:∀b,B b->h1.get b=h.get b)
  {res xx:X T} {out:List (Ch T)} {new:List (Ob T)} {v:Value} (dx:D E h1 (ak B ρ1 e1.env) ρ1 xx v) (hs:Iy Ein.length res out new xx e1):
  ∃ρ',aE E B ρ' (fQ Ein out new) h1/\D E h1 (ak B ρ' (fQ Ein out new).env) ρ' res v/\
   (∀b,b < h.next->¬zW ρ Ein out b->h1.get b=h.get b)/\
   (∀b,b < h.next->eZ ρ' (fQ Ein out new).env b->eZ ρ (cO Ein).env b)/\
   (∀k q m,k < Ein.length->ρ k=some (q,m)->match bU out k with
    | .same=>ρ' k=some (q,m)
    | .gP o=>(m=0->ρ' k=some (q,0))/\(m≠0->∃q' m',ρ' k=some (q',m')/\m'≠0)/\(mP o=some 1->ρ' k=some (q,m))
    | .gone=>True):=by
 unfold Iy at hs
 simp only at hs
 generalize hb:((X.Oy xx res).filter fun p=>Nat.ble Ein.length p.2)++L3 Ein.length e1 0 out=b at hs
 obtain ⟨hok,hs⟩:=ai.1 hs
 simp only [Bool.and_eq_true,List.all_eq_true] at hok
 obtain ⟨⟨⟨hv1,hokb⟩,hball⟩,holen⟩:=hok
 obtain ⟨hbr,hbi⟩:=ED hokb
 obtain ⟨hs2,hold⟩:=xz hs
 obtain ⟨hres,hnew⟩:=xA hs2
 generalize hn:Ein.length=n at *
 have hcnt:(cO Ein).cnt=n+2:=by show Ein.length+2=n+2;rw [hn]
 have hent:∀k,k < n->∃o q,Ein[k]?=some o/\cW (cO Ein).env k=some (0,o)/\ρ k=some (q,o.vn)/\(o.vn=0/\mP o=none\/o.vn=1/\mP o≠none):=fun k hk=>by
  have hE':=List.getElem?_eq_getElem (show k < Ein.length by omega)
  have hf:cW (cO Ein).env k=some (0,Ein[k]):=by rw [u7,hE'];rfl
  obtain ⟨q,hq⟩:=lU.loc (I.obj k 0 _ hf).2
  exact ⟨_,q,hE',hf,hq,BR hver (List.getElem_mem _)⟩
 have hsame:∀k,k < n->bU out k= .same->∃o q,Ein[k]?=some o/\cW e1.env k=some (0,o)/\ρ k=some (q,o.vn)/\ρ1 k=some (q,o.vn)/\(∀q n b off,ρ k=some (q,n)->q.p=some ⟨b,off,none⟩->o.own=true->h1.get b=h.get b):=fun k hk hc=>by
  have h1':=hold k hk
  rw [hc] at h1'
  obtain ⟨o1,ho1⟩:=h1'
  obtain ⟨o,q,k1,k2,k3,_⟩:=hent k hk
  obtain ⟨g1,g2⟩:=x.xV k 0 o1 ho1 (by rw [hcnt];omega)
  rw [k2] at g1;cases g1
  obtain ⟨q1,e3⟩:=lU.loc (I1.obj k 0 _ ho1).2
  have:=x.mv.same k3 e3
  subst this
  exact ⟨_,q1,k1,ho1,k3,e3,g2⟩
 have hchg:∀k o,k < n->bU out k= .gP o->∃o' s q,cW e1.env k=some (s,o')/\e1.get k=some o'/\ρ1 k=some (q,o'.vn)/\KH (pG n out b) (wo n out e1) e1 o' o/\(o'.vn=0↔o.vn=0)/\(o.vn=0/\mP o=none\/(o.vn=2\/o.vn=1/\o'.vn=1)/\mP o≠none):=fun k o hk hc=>by
  have h1':=hold k hk
  rw [hc] at h1'
  obtain ⟨o',g1,gv,g2⟩:=h1'
  obtain ⟨s,hf⟩:=aB g1
  obtain ⟨q,e3⟩:=lU.loc (I1.obj k s _ hf).2
  have hvo:o.vn=0/\mP o=none\/(o.vn=2\/o.vn=1/\o'.vn=1)/\mP o≠none:=by
   unfold CG at gv
   split at gv
   ·rename_i u hu
    have hu2:=pz hu
    refine .inr ⟨?_,by rw [hu];simp⟩
    rw [hu2]
    simp only [Bool.or_eq_true,Bool.and_eq_true] at gv
    rcases gv with ⟨gv,gw⟩ |gv
    ·refine .inr ⟨Nat.eq_of_beq_eq_true gv,?_⟩
     split at gw
     ·rename_i v hv;rw [pz hv];exact Nat.eq_of_beq_eq_true gw
     ·cases gw
    ·exact .inl (Nat.eq_of_beq_eq_true gv)
   ·rename_i hu;exact .inl ⟨EG hu,hu⟩
  obtain ⟨_,_,k3⟩:=ox g2
  have:=lU.Pk (I1.obj k s _ hf).2
  refine ⟨o',s,q,hf,g1,e3,g2,?_,hvo⟩
  rw [← this,k3]
  rcases hvo with ⟨a,c⟩ |⟨a,c⟩
  ·exact ⟨fun _=>a,fun _=>c⟩
  ·exact ⟨fun e=>absurd e c,fun e=>by omega⟩
 have hnw:∀(i:Nat) (o:Ob T),new[i]?=some o->∃id o' s q,nq b (n+i)=some id/\cW e1.env id=some (s,o')/\e1.get id=some o'/\ρ1 id=some (q,o'.vn)/\KH (pG n out b) (wo n out e1) e1 o' o/\(o'.vn=0↔o.vn=0)/\(o.vn=0/\mP o=none\/o.vn=1/\mP o≠none):=fun i o hi=>by
  obtain ⟨id,o',g0,g1,g2⟩:=hnew i o hi
  rw [Nat.zero_add] at g0
  obtain ⟨s,hf⟩:=aB g1
  obtain ⟨q,e3⟩:=lU.loc (I1.obj id s _ hf).2
  have hvo:=BR hv1 (List.mem_of_getElem? hi)
  obtain ⟨_,_,k3⟩:=ox g2
  have:=lU.Pk (I1.obj id s _ hf).2
  refine ⟨id,o',s,q,g0,hf,g1,e3,g2,?_,hvo⟩
  rw [← this,k3]
  rcases hvo with ⟨a,c⟩ |⟨a,c⟩
  ·exact ⟨fun _=>a,fun _=>c⟩
  ·exact ⟨fun e=>absurd e c,fun e=>by omega⟩
 have hf_old:∀k,k < n->(match bU out k with | .gone=>False |_=>True)->pG n out b k=some k:=fun k hk hc=>by
  unfold pG
  rw [gO.2 hk]
  cases hcc:bU out k with
  |gone=>rw [hcc] at hc;exact hc.elim
  |same=>rfl
  |gP o=>rfl
 have hf_new:∀i id,nq b (n+i)=some id->pG n out b id=some (n+i):=fun i id hf=>by
  have hm:=BQ hf
  have hl:=EE hbi hm
  have hb2:=hball _ hm
  simp only [Bool.or_eq_true] at hb2
  unfold pG
  cases hlt:Nat.blt id n with
  |false=>cases bU out id<;>exact hl
  |true=>
   rcases hb2 with hb2 |hb2
   ·have:=Nat.le_of_ble_eq_true hb2
    have:=gO.1 hlt
    omega
   ·cases hcc:bU out id with
    |gone=>exact hl
    |_=>rw [hcc] at hb2;cases hb2
 have hf_inv:∀id k,pG n out b id=some k->(k < n/\k=id/\(match bU out k with | .gone=>False |_=>True))\/(n<=k/\k < n+new.length/\nq b k=some id):=fun id k hf=>by
  unfold pG at hf
  have look:xu b id=some k->n<=k/\k < n+new.length/\nq b k=some id:=fun hl=>by
   have hm:=BP hl
   have:=hbr _ hm
   exact ⟨this.1,this.2,EF hbi hm⟩
  cases hlt:Nat.blt id n with
  |false=>rw [hlt] at hf;cases hcc:bU out id<;>rw [hcc] at hf<;>exact .inr (look hf)
  |true=>
   rw [hlt] at hf
   cases hcc:bU out id with
   |gone=>rw [hcc] at hf;exact .inr (look hf)
   |same=>rw [hcc] at hf;cases hf;exact .inl ⟨gO.1 hlt,rfl,by rw [hcc];trivial⟩
   |gP o=>rw [hcc] at hf;cases hf;exact .inl ⟨gO.1 hlt,rfl,by rw [hcc];trivial⟩
 have hz_same:∀k,k < n->bU out k= .same->ρZ ρ ρ1 n out new b k=ρ k:=fun k hk hc=>by unfold ρZ;rw [if_pos hk,hc]
 have hz_gone:∀k,k < n->bU out k= .gone->ρZ ρ ρ1 n out new b k=ρ k:=fun k hk hc=>by unfold ρZ;rw [if_pos hk,hc]
 have hz_chg:∀k o q m,k < n->bU out k= .gP o->ρ1 k=some (q,m)->ρZ ρ ρ1 n out new b k=some (q,o.vn):=fun k o q m hk hc hq=>by unfold ρZ;rw [if_pos hk,hc];simp only [hq]
 have hz_new:∀i o id q m,new[i]?=some o->nq b (n+i)=some id->ρ1 id=some (q,m)->ρZ ρ ρ1 n out new b (n+i)=some (q,o.vn):=fun i o id q m hi hf hq=>by
  unfold ρZ
  rw [if_neg (by omega),hf,show n+i - n=i by omega,hi]
  simp only [hq]
 have hblk:∀k c,dY (ρZ ρ ρ1 n out new b) (fQ Ein out new).env k c->∃id,pG n out b id=some k/\dY ρ1 e1.env id c:=by
  rintro k c ⟨s,o,q,m,off,g1,g2,g3,g4⟩
  rw [j6,hn] at g1
  split at g1
  ·rename_i hk
   obtain ⟨o0,q0,k1,_⟩:=hent k hk
   rw [k1] at g1
   cases hc:bU out k with
   |same=>
    rw [hc] at g1
    cases g1
    obtain ⟨o1,q1,l1,l2,l3,l4,_⟩:=hsame k hk hc
    rw [k1] at l1;cases l1
    rw [hz_same k hk hc,l3] at g3;cases g3
    exact ⟨k,hf_old k hk (by rw [hc];trivial),0,_,_,_,off,l2,g2,l4,g4⟩
   |gP o2=>
    rw [hc] at g1
    cases g1
    obtain ⟨o',s',q',l1,_,l2,l3,_⟩:=hchg k _ hk hc
    rw [hz_chg k _ q' _ hk hc l2] at g3;cases g3
    exact ⟨k,hf_old k hk (by rw [hc];trivial),s',o',_,_,off,l1,(ox l3).1,l2,g4⟩
   |gone=>rw [hc] at g1;cases g1
  ·rename_i hk
   rw [Option.map_eq_some_iff] at g1
   obtain ⟨o2,hi,e⟩:=g1
   cases e
   obtain ⟨id,o',s',q',l0,l1,_,l2,l3,_⟩:=hnw (k - n) _ hi
   have hkn:n+(k - n)=k:=by omega
   have hz:=hz_new (k - n) _ id q' _ hi l0 l2
   rw [hkn] at l0 hz
   rw [hz] at g3;cases g3
   exact ⟨id,by rw [← hkn];exact hf_new (k - n) id (by rw [hkn];exact l0),s',o',_,_,off,l1,(ox l3).1,l2,g4⟩
 have hO:∀c,ak B (ρZ ρ ρ1 n out new b) (fQ Ein out new).env c->ak B ρ1 e1.env c:=by
  rintro c (g |g)
  ·exact .inl g
  ·obtain ⟨k,g⟩:=au.1 g
   obtain ⟨id,_,g2⟩:=hblk k c g
   exact .inr (au.2 ⟨id,g2⟩)
 have hF:∀id k q,pG n out b id=some k->ρ1 id=some (q,0)->ρZ ρ ρ1 n out new b k=some (q,0):=fun id k q hf hq=>by
  rcases hf_inv id k hf with ⟨hk,rfl,hc⟩ |⟨hk,hk2,hfl⟩
  ·cases hcc:bU out k with
   |same=>
    obtain ⟨o,q',l1,l2,l3,l4,_⟩:=hsame k hk hcc
    rw [hz_same k hk hcc,l3]
    rw [hq] at l4
    simp only [Option.some.injEq,Prod.mk.injEq] at l4
    rw [← l4.1,← l4.2]
   |gP o=>
    obtain ⟨o',s,q',l1,_,l2,_,l3,_⟩:=hchg k o hk hcc
    rw [hz_chg k o q' _ hk hcc l2]
    rw [hq] at l2
    simp only [Option.some.injEq,Prod.mk.injEq] at l2
    rw [l3.1 l2.2.symm,l2.1]
   |gone=>rw [hcc] at hc;exact hc.elim
  ·have hi:=List.getElem?_eq_getElem (show k - n < new.length by omega)
   have hkn:n+(k - n)=k:=by omega
   obtain ⟨id2,o',s',q',l0,l1,_,l2,_,l3,_⟩:=hnw (k - n) _ hi
   rw [hkn,hfl] at l0;cases l0
   have hz:=hz_new (k - n) _ id q' _ hi (by rw [hkn];exact hfl) l2
   rw [hkn] at hz
   rw [hz]
   rw [hq] at l2
   simp only [Option.some.injEq,Prod.mk.injEq] at l2
   rw [l3.1 l2.2.symm,l2.1]
 have hWv:∀id k u q,pG n out b id=some k->lg e1 id u=true->ρ1 id=some (q,u)->ρZ ρ ρ1 n out new b k=some (q,wo n out e1 k):=fun id k u q hf hcur hq=>by
  have hos:∃o',e1.get id=some o'/\mP o'=some u:=by
   unfold lg at hcur
   split at hcur
   ·rename_i u2 e l hg;exact ⟨_,hg,by rw [← Nat.eq_of_beq_eq_true hcur];rfl⟩
   ·rename_i u2 e l hg;exact ⟨_,hg,by rw [← Nat.eq_of_beq_eq_true hcur];rfl⟩
   ·cases hcur
  obtain ⟨o',hg,hv⟩:=hos
  rcases hf_inv id k hf with ⟨hk,rfl,hc⟩ |⟨hk,hk2,hfl⟩
  ·have hlt:=gO.2 hk
   cases hcc:bU out k with
   |same=>
    obtain ⟨o,q',l1,l2,l3,l4,_⟩:=hsame k hk hcc
    rw [hz_same k hk hcc,l3]
    rw [hq] at l4
    simp only [Option.some.injEq,Prod.mk.injEq] at l4
    unfold wo
    rw [hlt,hcc]
    simp only [hg,hv]
    rw [← l4.1,← l4.2]
   |gP o=>
    obtain ⟨o2,s,q',l1,l5,l2,l6,l3,l4⟩:=hchg k o hk hcc
    rw [hg] at l5;cases l5
    rw [hz_chg k o q' _ hk hcc l2]
    rw [hq] at l2
    simp only [Option.some.injEq,Prod.mk.injEq] at l2
    unfold wo
    rw [hlt,hcc]
    simp only
    have hne:mP o≠none:=fun e=>by have:=(ox l6).2.2.2 e;rw [hv] at this;cases this
    cases hu:mP o with
    |none=>exact absurd hu hne
    |some u=>simp only;rw [pz hu,l2.1]
   |gone=>rw [hcc] at hc;exact hc.elim
  ·have hi:=List.getElem?_eq_getElem (show k - n < new.length by omega)
   have hkn:n+(k - n)=k:=by omega
   obtain ⟨id2,o2,s',q',l0,l1,l5,l2,l6,l3,l4⟩:=hnw (k - n) _ hi
   rw [hkn,hfl] at l0;cases l0
   rw [hg] at l5;cases l5
   have hz:=hz_new (k - n) _ id q' _ hi (by rw [hkn];exact hfl) l2
   rw [hkn] at hz
   rw [hz]
   rw [hq] at l2
   simp only [Option.some.injEq,Prod.mk.injEq] at l2
   unfold wo
   have hlt:Nat.blt k n=false:=by
    cases hb':Nat.blt k n with
    |false=>rfl
    |true=>have:=gO.1 hb';omega
   rw [hlt]
   simp only
   have hne:mP new[k - n]≠none:=fun e=>by have:=(ox l6).2.2.2 e;rw [hv] at this;cases this
   rcases l4 with ⟨_,l4⟩ |⟨l4,_⟩
   ·exact absurd l4 hne
   ·rw [l4,l2.1]
 have hN:∀id c,pG n out b id=none->dY ρ1 e1.env id c->¬ak B (ρZ ρ ρ1 n out new b) (fQ Ein out new).env c:=fun id c hf hc ho=>by
  rcases ho with ho |ho
  ·exact I1.jA c (au.2 ⟨id,hc⟩) ho
  ·obtain ⟨k,g⟩:=au.1 ho
   obtain ⟨id2,g1,g2⟩:=hblk k c g
   have:=I1.gj g2 hc
   rw [this,hf] at g1;cases g1
 have hmv:Mv h h1 (ak B ρ (cO Ein).env) (ak B (ρZ ρ ρ1 n out new b) (fQ Ein out new).env) ρ (ρZ ρ ρ1 n out new b):=by
  refine ⟨x.mv.next,x.mv.get,fun c hc ho=>x.mv.own c hc (hO c ho),fun k q m hq=>?_⟩
  have hk:k < n:=by
   rcases Nat.lt_or_ge k n with g |g
   ·exact g
   ·rw [hnone k g] at hq;cases hq
  cases hcc:bU out k with
  |same=>exact ⟨q,m,by rw [hz_same k hk hcc];exact hq,Nat.le_refl _,fun _=>rfl,fun e=>e⟩
  |gone=>exact ⟨q,m,by rw [hz_gone k hk hcc];exact hq,Nat.le_refl _,fun _=>rfl,fun e=>e⟩
  |gP o=>
   obtain ⟨o',s,q',l1,l5,l2,l6,l3,l4⟩:=hchg k o hk hcc
   obtain ⟨o0,q0,k1,k2,k3,k4⟩:=hent k hk
   rw [hq] at k3
   simp only [Option.some.injEq,Prod.mk.injEq] at k3
   obtain ⟨q1,m1,j1,j2,j3,j4⟩:=x.mv.loc k q m hq
   rw [l2] at j1
   simp only [Option.some.injEq,Prod.mk.injEq] at j1
   refine ⟨q',o.vn,hz_chg k o q' _ hk hcc l2,?_⟩
   rcases k4 with ⟨k4,_⟩ |⟨k4,_⟩
   ·have hm:m=0:=by omega
    have ho'0:o'.vn=0:=by rw [j1.2];exact j4 hm
    have ho0:=l3.1 ho'0
    exact ⟨by omega,fun _=>by rw [j1.1];exact j3 (by omega),fun _=>ho0⟩
   ·have hm:m=1:=by omega
    have ho'0:o'.vn≠0:=by omega
    have ho0:o.vn≠0:=fun e=>ho'0 (l3.2 e)
    rcases l4 with l4 |⟨l4 |⟨l4,l7⟩,_⟩
    ·omega
    ·exact ⟨by omega,fun e=>by omega,fun e=>by omega⟩
    ·exact ⟨by omega,fun e=>by rw [j1.1];exact j3 (by omega),fun e=>by omega⟩
 refine ⟨ρZ ρ ρ1 n out new b,⟨I1.top,fun k hk=>?_,?_,fun k q m hq=>?_,I1.base,fun c hc hB=>?_,?_,?_,?_⟩,KO hE I1 hO hF hWv hN hres dx,fun c hc ht=>?_,fun c hc ho=>?_,fun k q m hk hq=>?_⟩
 ·have hk':Ein.length+new.length+3<=k:=hk
  unfold ρZ
  rw [if_neg (by omega),List.getElem?_eq_none (by omega)]
  cases nq b k<;>rfl
 ·show 0 < Ein.length+new.length+3;omega
 ·show m < Ein.length+new.length+3
  unfold ρZ at hq
  split at hq
  ·rename_i hk
   have hρ:ρ k=some (q,m)->m < Ein.length+new.length+3:=fun e=>by have:=I.lG _ _ _ e;rw [hcnt] at this;omega
   cases hcc:bU out k with
   |same=>rw [hcc] at hq;exact hρ hq
   |gone=>rw [hcc] at hq;exact hρ hq
   |gP o=>
    rw [hcc] at hq
    simp only at hq
    obtain ⟨_,_,q',_,_,l2,_,_,l4⟩:=hchg k o hk hcc
    rw [l2] at hq
    simp only [Option.some.injEq,Prod.mk.injEq] at hq
    rcases l4 with l4 |l4<;>omega
  ·split at hq
   ·rename_i id o hfl hi
    obtain ⟨_,_,_,_,_,_,_,_,_,_,l4⟩:=hnw (k - n) o hi
    split at hq
    ·simp only [Option.some.injEq,Prod.mk.injEq] at hq
     rcases l4 with l4 |l4<;>omega
    ·cases hq
   ·cases hq
 ·obtain ⟨k,hc⟩:=au.1 hc
  obtain ⟨id,_,g2⟩:=hblk k c hc
  exact I1.jA c (au.2 ⟨id,g2⟩) hB
 ·intro i j s s' o o' q q' m m' c f f' g1 g2 g3 g4 g5 g6 g7 g8
  obtain ⟨id,a1,a2⟩:=hblk i c ⟨s,o,q,m,f,g1,g3,g5,g7⟩
  obtain ⟨id2,a3,a4⟩:=hblk j c ⟨s',o',q',m',f',g2,g4,g6,g8⟩
  have:=I1.gj a2 a4
  subst this
  rw [a1] at a3
  exact Option.some.inj a3
 ·have tell:∀{id k:Nat} {o' o:Ob T} {q:SV},lU E h1 (ak B ρ1 e1.env) ρ1 id o'->KH (pG n out b) (wo n out e1) e1 o' o->ρ1 id=some (q,o'.vn)->ρZ ρ ρ1 n out new b k=some (q,o.vn)->(o'.vn=0↔o.vn=0)->lU E h1 (ak B (ρZ ρ ρ1 n out new b) (fQ Ein out new).env) (ρZ ρ ρ1 n out new b) k o:=by
   intro id k o' o q ho he hq hz hvz
   unfold KH at he
   split at he
   ·rename_i cs cs'
    obtain ⟨q2,bb,us,t,e,r,k1,k2,k3,k4,k5⟩:=ho
    rw [hq] at k1;cases k1
    exact ⟨_,bb,us,t,e,r,hz,k2,k3,k4,wu hE I1 hO hF hWv hN he k5⟩
   ·rename_i v1 e l v2 e' l'
    obtain ⟨rfl,rfl⟩:=CK he
    obtain ⟨q2,rows,k1,k0,k2,k3,k4,k5⟩:=ho
    rw [hq] at k1
    simp only [Option.some.injEq,Prod.mk.injEq] at k1
    simp only [Ob.vn] at hvz hz
    exact ⟨q2,rows,by rw [hz,k1.1],by omega,k2,k3,k4,fun i a r g1 g2=>⟨(k5 i a r g1 g2).1,fun j y w g3 g4=>((k5 i a r g1 g2).2 j y w g3 g4).gN hE (hE.row _ _ _ (List.mem_of_getElem? g3)) hO⟩⟩
   ·rename_i es es'
    subst he
    obtain ⟨q2,bb,k1,k2,k3,k4⟩:=ho
    rw [hq] at k1;cases k1
    exact ⟨_,bb,hz,k2,k3,k4⟩
   ·exact he.elim
  intro k s o hf
  rw [j6,hn] at hf
  split at hf
  ·rename_i hk
   obtain ⟨o0,q0,k1,k2,k3,k4⟩:=hent k hk
   rw [k1] at hf
   cases hcc:bU out k with
   |same=>
    rw [hcc] at hf
    cases hf
    obtain ⟨o1,q1,l1,l2,l3,l4,l5⟩:=hsame k hk hcc
    rw [k1] at l1;cases l1
    refine ⟨by show 0 < Ein.length+new.length+3;omega,(I.obj k 0 _ k2).2.keep hmv (fun q hq=>by rw [hz_same k hk hcc];exact hq) fun q c off ho hq hb'=>l5 q _ c off hq hb' ho⟩
   |gP o2=>
    rw [hcc] at hf
    cases hf
    obtain ⟨o',s',q',l1,l5,l2,l6,l3,l4⟩:=hchg k _ hk hcc
    exact ⟨by show 0 < Ein.length+new.length+3;omega,tell (I1.obj k s' o' l1).2 l6 l2 (hz_chg k _ q' _ hk hcc l2) l3⟩
   |gone=>rw [hcc] at hf;cases hf
  ·rename_i hk
   rw [Option.map_eq_some_iff] at hf
   obtain ⟨o2,hi,e⟩:=hf
   cases e
   obtain ⟨id,o',s',q',l0,l1,l5,l2,l6,l3,l4⟩:=hnw (k - n) _ hi
   have hkn:n+(k - n)=k:=by omega
   have hz:=hz_new (k - n) _ id q' _ hi l0 l2
   rw [hkn] at hz
   exact ⟨by show 0 < Ein.length+new.length+3;omega,tell (I1.obj id s' o' l1).2 l6 l2 hz l3⟩
 ·intro g cs hg
  obtain ⟨g1,us,g2,g3⟩:=I.dU g cs hg
  exact ⟨(hmv.AW g2 g1).2,us,(hmv.AW g2 g1).1,g3.mv hmv⟩
 ·by_cases ho:ak B ρ (cO Ein).env c
  ·rcases ho with ho |ho
   ·exact hkeep c ho
   ·obtain ⟨k,s,o,q,m,off,g1,g2,g3,g4⟩:=ho
    have hk:k < n:=by
     rcases Nat.lt_or_ge k n with g |g
     ·exact g
     ·rw [hnone k g] at g3;cases g3
    cases hcc:bU out k with
    |same=>
     obtain ⟨o1,q1,l1,l2,l3,l4,l5⟩:=hsame k hk hcc
     obtain ⟨o0,q0,k1,k2,_⟩:=hent k hk
     rw [k1] at l1;cases l1
     rw [k2] at g1;cases g1
     exact l5 q m c off g3 g4 g2
    |_=>exact absurd ⟨k,s,o,q,m,off,by rw [hcc];trivial,g1,g2,g3,g4⟩ ht
  ·exact x.mv.get c hc ho
 ·obtain ⟨k,ho⟩:=au.1 ho
  obtain ⟨id,_,g2⟩:=hblk k c ho
  have hown:eZ ρ1 e1.env c:=au.2 ⟨id,g2⟩
  rcases x.mv.own c hc (.inr hown) with g |g
  ·exact absurd g (I1.jA c hown)
  ·exact g
 ·cases hcc:bU out k with
  |same=>simp only;rw [hz_same k hk hcc];exact hq
  |gone=>trivial
  |gP o=>
   simp only
   obtain ⟨q',m',j1,j2,j3,j4⟩:=hmv.loc k q m hq
   refine ⟨fun e=>?_,fun e=>⟨q',m',j1,by omega⟩,fun e=>?_⟩
   ·subst e
    have:=j4 rfl
    subst this
    rw [j1,j3 rfl]
   ·obtain ⟨o',s,q2,l1,l5,l2,l6,l3,l4⟩:=hchg k o hk hcc
    obtain ⟨o0,q0,k1,k2,k3,k4⟩:=hent k hk
    rw [hq] at k3
    simp only [Option.some.injEq,Prod.mk.injEq] at k3
    have e2:=pz e
    have j5:=hz_chg k o q2 _ hk hcc l2
    rw [j1] at j5
    simp only [Option.some.injEq,Prod.mk.injEq] at j5
    have hm:m=1:=by
     rcases k4 with ⟨k4,_⟩ |⟨k4,_⟩
     ·have:=j4 (by omega);omega
     ·omega
    rw [j1,j3 (by omega),hm,j5.2,e2]
end Go.Ev
namespace Go.Ev
open Go
variable {T:TypeId->Type} {P:Program} {E:gR T} {W:Rec} {Γ:Hi T} {Tf:Nat->Option kM} {nk:Nat->Bool} {B B':Nat->Prop} {ρ ρ1 ρ':Loc} {ec e1 ec':EC T} {h h1 h':H} {O O':Nat->Prop}
theorem D.Nn {x:X T} {w:Value} (d:D E h O ρ x w):match x with | .bad=>True | .gD _=>True | .v w=>nO w=false->nO w=false |_=>nO w=false:=by
 cases d with
 |op w hw=>cases w<;>first |rfl |(simp [Ef] at hw)
 |ab _ _ _ _ _ hw=>cases w<;>first |rfl |(simp [FM] at hw)
 |v w=>exact fun h=>h
 |bad w=>trivial
 |gD=>trivial
 |_=>rfl
theorem tY (I:aE E B ρ ec h) {ts:List (X T)} {vs:List Value} (d:DL E h (ak B ρ ec.env) ρ ts vs):∀{rs:List Db} {l:List (X T)},Ew ts ec rs=some l->∃us,ia h vs rs=some us/\DL E h (ak B ρ ec.env) ρ l us
 | [],l,hs=>by cases hs;exact ⟨[],rfl,DL.nil⟩
 | .tmp t :: r,l,hs=>by
   have dt:=d.getD t undef
   simp only [Ew] at hs
   cases hr:Ew ts ec r with
   |none=>rw [hr] at hs;generalize ts.getD t .bad=x at hs;cases x<;>cases hs
   |some l'=>
    obtain ⟨us,h1,h2⟩:=tY I d hr
    rw [hr] at hs
    generalize hx:ts.getD t .bad=x at hs dt
    have nb:=dt.Nn
    have key:nO (vs.getD t undef)=false->some (x :: l')=some l->∃us,ia h vs (.tmp t :: r)=some us/\DL E h (ak B ρ ec.env) ρ l us:=fun hb e=>by
     cases e
     refine ⟨vs.getD t undef :: us,?_,DL.cons dt h2⟩
     simp only [ia,hb,h1];rfl
    cases x with
    |bad=>cases hs
    |gD=>cases hs
    |v w=>
     simp only at hs
     have:vs.getD t undef=w:=by cases dt;rfl
     cases hb:nO w with
     |true=>rw [hb] at hs;cases hs
     |false=>rw [hb] at hs;exact key (by rw [this];exact hb) hs
    |_=>exact key nb hs
 | .cell t agg n :: r,l,hs=>by
   have dt:=d.getD t undef
   simp only [Ew] at hs
   generalize hx:ts.getD t .bad=x at hs dt
   cases hr:Ew ts ec r with
   |none=>rw [hr] at hs;cases x<;>cases hs
   |some l'=>
    obtain ⟨us,h1,h2⟩:=tY I d hr
    rw [hr] at hs
    cases x with
    |ptr id o=>
     simp only at hs
     split at hs
     ·rename_i cs hg
      obtain ⟨s,hf⟩:=aB hg
      obtain ⟨_,q,b,ws,tt,e,rr,hq,hb,hlt,hget,dcs⟩:=I.obj id s _ hf
      generalize hv:vs.getD t undef=v at dt
      cases dt with
      |ptr _ _ b' q' hq' hb'=>
       rw [hq] at hq';cases hq'
       rw [hb] at hb';cases hb'
       cases hle:Nat.ble (o+n) cs.length with
       |false=>rw [hle] at hs;cases hs
       |true=>
        have hle':=Nat.le_of_ble_eq_true hle
        have hcells:h.cells ⟨b,o,none⟩ n=some ((ws.drop o).take n):=by
         unfold H.cells
         simp only [hget]
         show (if o+n<=ws.length then some ((ws.drop o).take n) else none)=_
         rw [if_pos (by rw [← dcs.1];exact hle')]
        have dsub:=(dcs.drop o).take n
        rw [hle] at hs
        cases agg with
        |true=>
         simp only at hs
         cases hs
         refine ⟨.agg ((ws.drop o).take n).toArray :: us,?_,DL.cons (.agg _ _ dsub.1 dsub.2) h2⟩
         simp only [ia,hv,hcells,h1,if_true]
        |false=>
         generalize hy:(cs.drop o).take n=ys at hs dsub
         generalize hz:(ws.drop o).take n=zs at dsub hcells
         match ys,hs,dsub with
         | [x],hs,dsub=>
           cases hs
           obtain ⟨w,zs',rfl,d1,d2⟩:=dsub.cM
           have:zs'=[]:=by have:=d2.1;cases zs' with |nil=>rfl |cons=>simp at this
           subst this
           refine ⟨w :: us,?_,DL.cons d1 h2⟩
           simp only [ia,hv,hcells,h1,one,if_false,Bool.false_eq_true]
         | [],hs,_=>cases hs
         |_ :: _ :: _,hs,_=>cases hs
     ·cases hs
    |_=>cases hs
theorem Oj {l:List (X T)} {us:List Value} (d:DL E h O ρ l us):D E h O ρ (LZ l) (iq us):=by
 match l,us,d with
 | [x],[w],d=>exact d.2 0 _ _ rfl rfl
 | [],[],d=>exact .gD _ _ d.1 d.2
 |_ :: _ :: _,_ :: _ :: _,d=>exact .gD _ _ d.1 d.2
 | [],_ :: _,d=>exact absurd d.1 (by simp)
 |_ :: _,[],d=>exact absurd d.1 (by simp)
 | [_],_ :: _ :: _,d=>exact absurd d.1 (by simp)
 |_ :: _ :: _,[_],d=>exact absurd d.1 (by simp)
theorem xB {r:List fF} {m:Option Value}:∀{ds:List Nat} {h:H},ds.Nodup->(∀d∈ds,d < h.next/\h.get d=some .CN)->nB h->∃h2,bt W (ds.map .coll++r) m h=bt W r m h2/\h2.next=h.next/\(∀b,¬b∈ds->h2.get b=h.get b)/\nB h2
 | [],h,_,_,ht=>⟨h,rfl,rfl,fun _ _=>rfl,ht⟩
 |d :: l,h,hn,hd,ht=>by
  obtain ⟨h1,h2⟩:=hd d (List.mem_cons_self ..)
  have hn':=List.nodup_cons.1 hn
  have hne:∀x∈l,d≠x:=fun x hx e=>hn'.1 (e▸hx)
  obtain ⟨h3,k1,k2,k3,k4⟩:=xB (r:=r) (m:=m) (ds:=l) (h:=h.set d .dead) hn'.2 (fun x hx=>⟨(hd x (List.mem_cons_of_mem _ hx)).1,by rw [H.ah _ _ (hne x hx)];exact (hd x (List.mem_cons_of_mem _ hx)).2⟩) (ht.set h1 _)
  refine ⟨h3,?_,k2,fun b hb=>?_,k4⟩
  ·simp only [List.map_cons,List.cons_append,bt,h2,k1]
  ·rw [k3 b fun hm=>hb (List.mem_cons_of_mem _ hm),H.ah (i:=d) (j:=b) _ _ fun e=>hb (by rw [← e];exact List.mem_cons_self ..)]
theorem KR (hn:Γ.y.isNone=true):KX E W Γ fun _ _ _ _ _=>True:=by
 have e:Γ.y=none:=Option.isNone_iff_eq_none.1 hn
 exact ⟨fun _ _ _ _ _ _ _ _ _ _ _ _=>trivial,by rw [e];trivial,by rw [e];trivial⟩
theorem No (hE:bM E) {Ein:List (Ob T)} (I:aE E B ρ (cO Ein) h) (hnone:∀k,Ein.length<=k->ρ k=none) (hver:BN 1 Ein=true) (I1:aE E B ρ1 e1 h1) (x:Ext B ρ (cO Ein) h B ρ1 e1 h1) (hkeep:∀b,B b->h1.get b=h.get b)
  {ts:List (X T)} {vs:List Value} (d:DL E h1 (ak B ρ1 e1.env) ρ1 ts vs) {res:X T} {out:List (Ch T)} {new:List (Ob T)} {pn:Option (Value × Bool)} {rs:List Db} {m:Option Value} (hs:KI Ein.length res out new pn rs m ts e1):
  ∃ρ',Post E B ρ h Ein out new ρ' h1/\match m with
   |none=>(∃us,ia h1 vs rs=some us/\D E h1 (ak B ρ' (fQ Ein out new).env) ρ' res (iq us))/\∀w b,pn=some (w,b)->b=false
   |some v=>pn=some (v,true):=by
 unfold KI at hs
 cases m with
 |none=>
  simp only at hs ⊢
  split at hs
  ·rename_i l hl
   obtain ⟨us,r1,r2⟩:=tY I1 d hl
   obtain ⟨he,hb⟩:Iy Ein.length res out new (LZ l) e1/\∀w b,pn=some (w,b)->b=false:=by
    cases pn with
    |none=>exact ⟨hs,fun w b h=>by cases h⟩
    |some p=>exact ⟨hs.2,fun w b h=>by cases h;exact hs.1⟩
   obtain ⟨ρz,z1,z2,z3,z4,z5⟩:=KQ hE I hnone hver I1 x hkeep (Oj r2) he
   exact ⟨ρz,⟨z1,x.mv.next,z3,z4,z5⟩,⟨us,r1,z2⟩,hb⟩
  ·exact hs.elim
 |some v=>
  simp only at hs ⊢
  cases pn with
  |none=>exact hs.elim
  |some p=>
   obtain ⟨w,b⟩:=p
   obtain ⟨rfl,rfl,he⟩:=hs
   obtain ⟨ρz,z1,z2,z3,z4,z5⟩:=KQ hE I hnone hver I1 x hkeep (xx:=.bad) (v:=undef) (.bad _) he
   exact ⟨ρz,⟨z1,x.mv.next,z3,z4,z5⟩,rfl⟩
def Np (E:gR T) (W:Rec) (f:X T) (Ein:List (Ob T)) (args:List (X T)) (res:X T) (out:List (Ch T)) (new:List (Ob T)) (pn:Option (Value × Bool)):Prop:=
 ∀(rc:RC) (h:H) (B:Nat->Prop) (ρ:Loc) (vf:Value) (vs:List Value),aE E B ρ (cO Ein) h->(∀k,Ein.length<=k->ρ k=none)->D E h (ak B ρ (cO Ein).env) ρ f vf->DL E h (ak B ρ (cO Ein).env) ρ args vs->
  ∃a h' ρ',W.call vf vs rc h=some (a,rc,h')/\Post E B ρ h Ein out new ρ' h'/\((∃v,a= .ret v/\D E h' (ak B ρ' (fQ Ein out new).env) ρ' res v/\∀w b,pn=some (w,b)->b=false)\/∃w,a= .panic w/\pn=some (w,true))
theorem L5 {fn:kM} {a args b:List (X T)} {va vs vb:List Value} (din:DL E h O ρ (a++(args++b)) (va++(vs++vb))):
  DL E h O ρ (a++(args++b)++List.replicate (fn.ntmps - (a++(args++b)).length) (.v undef)) (va++(vs++vb)++List.replicate (fn.ntmps - (va++(vs++vb)).length) undef):=by
 refine DL.append din ?_
 rw [← din.1]
 refine ⟨by simp,fun j x w h1 h2=>?_⟩
 have e1:=List.eq_of_mem_replicate (List.mem_of_getElem? h1)
 have e2:=List.eq_of_mem_replicate (List.mem_of_getElem? h2)
 rw [e1,e2];exact .v _
theorem L6 (hE:bM E) (hW:JY P Tf nk W) {g:Nat} (hg:nk g=true) {Ein:List (Ob T)} {a args b:List (X T)} {res:X T} {out:List (Ch T)} {new:List (Ob T)} {pn:Option (Value × Bool)}
  (hs:sC P E W Γ Tf g Ein (a++(args++b)) res out new pn):Np E W (.fn g a b) Ein args res out new pn:=by
 unfold sC at hs
 split at hs
 ·rename_i fn hfn
  obtain ⟨hok,hs⟩:=ai.1 hs
  simp only [Bool.and_eq_true] at hok
  intro rc h B ρ vf vs I hnone df da
  cases df with
  |fn _ _ _ va vb ha hb hda hdb=>
   have din:DL E h (ak B ρ (cO Ein).env) ρ (a++(args++b)) (va++(vs++vb)):=DL.append ⟨ha,hda⟩ (DL.append da ⟨hb,hdb⟩)
   obtain ⟨x,vs',df',h',B',ρ',ts',ec',k1,k2,k3,_,k5,_,k7⟩:=KN hE hW fn.body (KR hok.2) (fun _ _ _ _ _ _=>trivial) I trivial (L5 (fn:=fn) din) (Nat.le_refl _) (tl:=[]) (df:=[]) ⟨[],rfl,List.nodup_nil,fun _=>rfl,fun d hd=>by simp at hd⟩ hs
   obtain ⟨m,hx1,hx2⟩:∃m,s7 x=some m/\KI Ein.length res out new pn fn.results m ts' ec':=by
    cases x with
    |normal=>exact ⟨none,rfl,k7⟩
    |ret=>exact ⟨none,rfl,k7⟩
    |exit id=>exact k7.elim
    |panic v=>exact ⟨some v,rfl,k7⟩
   obtain ⟨ds,rfl,hnd,_,hds⟩:=k5
   obtain ⟨h2,u1,u2,u3,u4⟩:=xB (W:=W) (r:=[]) (m:=m) hnd (fun d hd=>⟨(hds d hd).2.1,(hds d hd).2.2.1⟩) k2.inv.top
   obtain ⟨g1,g2,g3⟩:=k2.kp hok.2
   obtain ⟨I2,x2⟩:=k2.inv.yield (B2:=B) (h2:=h2) (k:=ec'.k) (fin:=ec'.fin) u4 (by rw [u2];exact Nat.le_refl _)
    (fun i _ hi=>u3 i fun hm=>hi (hds i hm).2.2.2) (fun i hi=>⟨by rw [u2];exact k2.inv.base i (g1 i hi),fun _=>g1 i hi⟩)
   have xall:=k2.ext.trans I k2.inv x2
   have hkeep:∀b,B b->h2.get b=h.get b:=fun b hb=>by
    rw [u3 b fun hm=>absurd (hds b hm).1 (by have:=I.base b hb;omega)]
    exact g3 b hb
   obtain ⟨ρz,z1,z2⟩:=No hE I hnone hok.1 I2 xall hkeep (k3.mv x2.mv) hx2
   have hcall:∀r,eC W fn x (gX vs' (ds.map .coll++[]) rc false) h'=some r->W.call (.func (.func g) ⟨va⟩ ⟨vb⟩) vs rc h=some r:=fun r hr=>by
    refine hW.call _ _ _ _ _ _ _ hg ?_
    unfold c5
    simp only [hfn]
    have e:s6 fn (va++vs++vb) rc=gX (va++(vs++vb)++List.replicate (fn.ntmps - (va++(vs++vb)).length) undef) [] rc false:=by rw [List.append_assoc];rfl
    rw [e,k1]
    exact hr
   cases m with
   |none=>
    obtain ⟨⟨us,r1,r2⟩,hb⟩:=z2
    refine ⟨_,h2,ρz,hcall (.ret (iq us),rc,h2) ?_,z1,.inl ⟨_,rfl,r2,hb⟩⟩
    simp only [eC,hx1,gX,u1,bt,r1]
    rfl
   |some v=>
    refine ⟨_,h2,ρz,hcall (.panic v,rc,h2) ?_,z1,.inr ⟨v,rfl,z2⟩⟩
    simp only [eC,hx1,gX,u1,bt]
 ·exact hs.elim
theorem Np.PB {f:X T} {Ein:List (Ob T)} {args:List (X T)} {res:X T} {out:List (Ch T)} {new:List (Ob T)} (r:Np E W f Ein args res out new none):cC E W f Ein args res out new:=by
 intro h B ρ vf vs I hnone df da
 obtain ⟨a,h',ρ',h1,h2,⟨v,rfl,h3,_⟩ |⟨w,_,h3⟩⟩:=r .dF h B ρ vf vs I hnone df da
 ·exact ⟨v,.dF,h',ρ',h1,h3,h2⟩
 ·cases h3
theorem cU (hE:bM E) (hW:JY P Tf nk W) {g:Nat} (hg:nk g=true) {Ein:List (Ob T)} {a args b:List (X T)} {res:X T} {out:List (Ch T)} {new:List (Ob T)}
  (hs:sC P E W Γ Tf g Ein (a++(args++b)) res out new none):cC E W (.fn g a b) Ein args res out new:=(L6 hE hW hg hs).PB
end Go.Ev
namespace Go.Ev
open Go
variable {T:TypeId->Type} {P:Program} {E:gR T} {W:Rec} {Γ:Hi T} {Tf:Nat->Option kM} {nk:Nat->Bool} {B B':Nat->Prop} {ρ ρ1 ρ':Loc} {ec e1 ec':EC T} {h h1 h':H} {O O':Nat->Prop}
end Go.Ev
namespace Go.Ev
open Go
variable {T:TypeId->Type} {P:Program} {E:gR T} {W:Rec} {Γ:Hi T} {Tf:Nat->Option kM} {nk:Nat->Bool}
end Go.Ev
namespace Go.Ev
open Go
theorem wrap64 {x:Int} (h0:-9223372036854775808<=x) (h1:x<=9223372036854775807):IntKind.i64.wrap x=x:=by
 have hb:IntKind.i64.bits=64:=rfl
 have hs:IntKind.i64.signed=true:=rfl
 unfold IntKind.wrap
 simp only [hb,hs,Bool.true_and,decide_eq_true_eq]
 split<;>omega
theorem ry {x n:Int} (h0:0<=x) (h1:x < n) (h2:n<=9223372036854775807):IntKind.i64.wrap (x+1)=x+1:=wrap64 (by omega) (by omega)
theorem eg {b:Bool} {X Y:Prop} (h1:b=true->X) (h2:b=false->Y):nv b X Y:=by
 cases b
 ·exact h2 rfl
 ·exact h1 rfl
end Go.Ev
