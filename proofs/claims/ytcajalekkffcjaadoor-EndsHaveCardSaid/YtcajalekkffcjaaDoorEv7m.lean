/- The evaluator over a small code, and that what it finds of a call holds of the machine, part 7m. -/
import Derived.Test.YtcajalekkffcjaaDoorEv7
import Derived.MapKept
import Derived.RangeFuncRecord
namespace Go.Ev
open Go Go.RowKit
variable {P:Program} {ρ:bz} {N:Nat} {w0 w:World} {h h':H} {ts:List Value} {ce:Operand->Value}
def FR (ρ:bz):Option (Nat × Value)->Option (Nat × Value)->Prop
 |none,none=>True
 |some (j,v),some (j',u)=>j=j'/\Rv ρ v u
 |_,_=>False
theorem w7 {kd:TypeDesc} {k:Value}:∀{es:List (Value × Value)} {arr:List MapEntry} {i:Nat} {r:Option (Nat × Value)},RE ρ es arr->Instr.findNow kd k (es.map ND) i=some r->
  ∃r',Instr.findNow kd k arr i=some r'/\FR ρ r r'
 |_,_,_,_,.nil,hf=>by
  simp only [List.map_nil,Instr.findNow,Option.some.injEq] at hf
  subst hf
  exact ⟨none,rfl,trivial⟩
 |_,_,i,r,.cons (v:=v) hk hc hv t,hf=>by
  simp only [List.map_cons,Instr.findNow,ND] at hf ⊢
  rw [hk]
  split at hf
  ·rename_i hs
   simp only [Option.some.injEq] at hf
   subst hf
   exact ⟨_,rfl,rfl,hv⟩
  ·exact w7 t hf
  ·cases hf
theorem uR {kd:TypeDesc} {k:Value}:∀{es:List (Value × Value)} {arr:List MapEntry} {i:Nat},RE ρ es arr->Instr.findNow kd k (es.map ND) i=none->Instr.findNow kd k arr i=none
 |_,_,_,.nil,hf=>by simp [Instr.findNow] at hf
 |_,_,i,.cons (v:=v) hk hc hv t,hf=>by
  simp only [List.map_cons,Instr.findNow,ND] at hf ⊢
  rw [hk]
  split at hf
  ·cases hf
  ·exact uR t hf
  ·rfl
theorem w8 {kt:TypeId} {k:Value}:∀{es:List (Value × Value)} {arr:List MapEntry} {i:Nat} {r:Option (Nat × Value)},RE ρ es arr->ue P kt k es i=some r->
  ∃r',(∀w,(Instr.findAsking kt k arr i).run P w= .ok r' w)/\FR ρ r r'
 |_,_,_,_,.nil,hf=>by
  simp only [ue,Option.some.injEq] at hf
  subst hf
  exact ⟨none,fun w=>by simp [Instr.findAsking],trivial⟩
 |_,_,i,r,.cons (v:=v) hk hc hv t,hf=>by
  simp only [ue] at hf
  split at hf
  ·rename_i hs
   simp only [Option.some.injEq] at hf
   subst hf
   refine ⟨some (i,_),fun w=>?_,rfl,hv⟩
   simp [Instr.findAsking,hk,iX _ _ hs w]
  ·rename_i hs
   obtain ⟨r',h1,h2⟩:=w8 t hf
   exact ⟨r',fun w=>by simp [Instr.findAsking,hk,iX _ _ hs w,h1],h2⟩
  ·cases hf
theorem vP {kt:TypeId} {k:Value} {es:List (Value × Value)} {arr:List MapEntry} {r:Option (Nat × Value)} (he:RE ρ es arr) (hf:C4 P kt k es=some r):
  ∃r',(∀w,(Instr.findKey kt k arr).run P w= .ok r' w)/\FR ρ r r':=by
 unfold C4 at hf
 split at hf
 ·rename_i kd hkd
  split at hf
  ·rename_i r1 h1
   simp only [Option.some.injEq] at hf
   subst hf
   obtain ⟨r',h2,h3⟩:=w7 he h1
   exact ⟨r',fun w=>MapKept.run_findKey hkd h2,h3⟩
  ·rename_i h1
   obtain ⟨r',h2,h3⟩:=w8 he hf
   exact ⟨r',fun w=>by simp [Instr.findKey,run_underlying hkd,uR he h1,h2],h3⟩
 ·cases hf
theorem RE.length {es:List (Value × Value)} {arr:List MapEntry} (he:RE ρ es arr):es.length=arr.length:=by
 induction es generalizing arr with
 |nil=>cases he;rfl
 |cons x es ih=>cases he with |cons _ _ _ t=>simp [ih t]
theorem RE.get {es:List (Value × Value)} {arr:List MapEntry} (he:RE ρ es arr) {i:Nat} {k v:Value} (hi:es[i]?=some (k,v)):∃e,arr[i]?=some e/\e.key=k:=by
 induction es generalizing arr i with
 |nil=>simp at hi
 |cons x es ih=>cases he with
  |cons hk _ _ t=>cases i with
   |zero=>simp at hi;obtain ⟨rfl,rfl⟩:=hi;exact ⟨_,rfl,hk⟩
   |succ i=>simp at hi;simpa using ih t hi
theorem RE.put {es:List (Value × Value)} {arr:List MapEntry} (he:RE ρ es arr) (i:Nat) {k v u:Value} (hc:ay k=true) (hv:Rv ρ v u):
  RE ρ (es.set i (k,v)) (arr.modify i fun e=>{e with key:=k,val:=u}):=by
 induction es generalizing arr i with
 |nil=>cases he;cases i<;>exact .nil
 |cons x es ih=>cases he with
  |cons hk hc' hv' t=>cases i with
   |zero=>exact .cons rfl hc hv t
   |succ i=>exact .cons hk hc' hv' (ih t i)
theorem RE.push {es:List (Value × Value)} {arr:List MapEntry} (he:RE ρ es arr) {k v u:Value} (b:Nat) (hc:ay k=true) (hv:Rv ρ v u):
  RE ρ (es++[(k,v)]) (arr++[{key:=k,val:=u,born:=b}]):=by
 induction es generalizing arr with
 |nil=>cases he;exact .cons rfl hc hv .nil
 |cons x es ih=>cases he with
  |cons hk hc' hv' t=>exact .cons hk hc' hv' (ih t)
theorem BB {kt:TypeId} {em:Bool} {k:Value} (hk:F9 P kt em k=true) (w:World):(Instr.checkKey em 10000 kt k).run P w= .ok () w:=by
 unfold F9 at hk
 obtain ⟨u,hu⟩:=Option.isSome_iff_exists.1 hk
 exact iX _ _ hu w
theorem RE.isEmpty {es:List (Value × Value)} {arr:Array MapEntry} (he:RE ρ es arr.toList):arr.isEmpty=es.isEmpty:=by
 have:=he.length
 cases es with
 |nil=>simp at this;simp [Array.isEmpty,← this]
 |cons x es=>simp at this;simp [Array.isEmpty,← this]
theorem D4 {t kt e:TypeId} (ht:P.underlying t=some (.map kt e)) {i:TypeInfo} {z:Value} (hi:P.info? e=some i) (hz:i.zero=some z) {ok:Bool} {key:Value} {es:List (Value × Value)} {x:Value × Bool}
  (hx:yw P kt z key es=some x) (hzc:ay z=true) {cm:Value} {arr:Array MapEntry} (he:RE ρ es arr.toList)
  (hm:cm= .map none/\arr=#[]\/∃b clock,cm= .map (some b)/\w.heap[b]?=some (.map arr clock)):
  ∃u,(Instr.lookup t cm key ok).run P w= .ok u w/\Rv ρ (if ok then .tuple #[x.1,.bool x.2] else x.1) u:=by
 unfold yw at hx
 split at hx
 ·rename_i hcond
  simp only [Bool.and_eq_true] at hcond
  have hck:=BB hcond.2 w
  rw [← he.isEmpty] at hck
  have hzv:(zeroValue e).run P w= .ok z w:=by simp [zeroValue,typeInfo,hi,hz]
  have key:∀{r:Option (Nat × Value)},C4 P kt key es=some r->∃r',(Instr.findKey kt key arr.toList).run P w= .ok r' w/\FR ρ r r':=fun hf=>by
   obtain ⟨r',h1,h2⟩:=vP he hf
   exact ⟨r',h1 w,h2⟩
  have fin:∀{v u:Value} {b:Bool},Rv ρ v u->Rv ρ (if ok then .tuple #[v,.bool b] else v) (if ok then .tuple #[u,.bool b] else u):=fun {v u b} hv=>by
   cases ok with
   |true=>exact .tuple _ _ (.cons hv (.cons (.bool b) .nil))
   |false=>exact hv
  split at hx
  ·rename_i j v hf
   simp only [Option.some.injEq] at hx
   subst hx
   obtain ⟨r',h1,h2⟩:=key hf
   cases r' with
   |none=>exact h2.elim
   |some q=>
    refine ⟨_,?_,fin h2.2⟩
    rcases hm with ⟨rfl,rfl⟩ |⟨b,clock,rfl,hb⟩
    ·have hck':(Instr.checkKey true 10000 kt _).run P w= .ok () w:=hck
     have h1':(Instr.findKey kt _ []).run P w= .ok _ w:=h1
     simp [Instr.lookup,run_underlying ht,hck',h1']
    ·simp [Instr.lookup,run_underlying ht,hck,h1,MapKept.run_getObj_map hb]
  ·rename_i hf
   simp only [Option.some.injEq] at hx
   subst hx
   obtain ⟨r',h1,h2⟩:=key hf
   cases r' with
   |some q=>exact h2.elim
   |none=>
    refine ⟨_,?_,fin (kG hzc)⟩
    rcases hm with ⟨rfl,rfl⟩ |⟨b,clock,rfl,hb⟩
    ·have hck':(Instr.checkKey true 10000 kt _).run P w= .ok () w:=hck
     have h1':(Instr.findKey kt _ []).run P w= .ok _ w:=h1
     simp [Instr.lookup,run_underlying ht,hck',h1',hzv]
    ·simp [Instr.lookup,run_underlying ht,hck,h1,hzv,MapKept.run_getObj_map hb]
  ·cases hx
 ·cases hx
theorem HY (hR:bW P ρ N w0 h w) {t kt e:TypeId} (ht:P.underlying t=some (.map kt e)) {i:TypeInfo} {z:Value} (hi:P.info? e=some i) (hz:i.zero=some z) (hzc:ay z=true) {ok:Bool}
  {m k cm ck:Value} (hm:Rv ρ m cm) (hk:Rv ρ k ck) {es:List (Value × Value)} (hat:h.mS m=some es) {x:Value × Bool} (hx:yw P kt z k es=some x):
  bq P ρ N w0 h w (do pure (Next.value (← Instr.lookup t cm ck ok))) (if ok then .tuple #[x.1,.bool x.2] else x.1):=by
 have hkc:ay k=true:=by
  unfold yw at hx
  split at hx
  ·rename_i hcond;simp only [Bool.and_eq_true] at hcond;exact hcond.1
  ·cases hx
 have hke:=nW hkc hk
 subst hke
 unfold H.mS at hat
 split at hat
 ·cases hat
  cases hm
  obtain ⟨u,h1,h2⟩:=D4 (w:=w) (ρ:=ρ) (ok:=ok) ht hi hz hx hzc (arr:=#[]) .nil (.inl ⟨rfl,rfl⟩)
  exact bq.pure u hR h2 h1
 ·rename_i b
  split at hat
  ·rename_i es' hg
   cases hat
   cases hm with
   |map _ B O c hρ=>
    obtain ⟨B',c',arr,clock,e1,e2,e3⟩:=hR.blk _ _ hg
    rw [hρ] at e1;cases e1
    obtain ⟨u,h1,h2⟩:=D4 (w:=w) (ok:=ok) ht hi hz hx hzc e3 (.inr ⟨B,clock,rfl,e2⟩)
    exact bq.pure u hR h2 h1
  ·cases hat
 ·cases hat
theorem HZ {old new:Value} (hs:Instr.sameBits 10000 old new=true) (w:World):(Instr.keyThatStays old new).run P w= .ok new w:=by
 simp [Instr.keyThatStays,hs]
theorem Cv (hR:bW P ρ N w0 h w) {t kt e:TypeId} (ht:P.underlying t=some (.map kt e)) {b:Nat} {k v cm ck cv:Value} (hm:Rv ρ (.map (some b)) cm) (hk:Rv ρ k ck) (hv:Rv ρ v cv)
  {es es':List (Value × Value)} (hg:h.get b=some (.map es)) (hp:IT P kt k v es=some es'):
  ∃w',(Instr.mapUpdate t cm ck cv).run P w= .ok () w'/\bW P ρ N w0 (h.set b (.map es')) w':=by
 unfold IT at hp
 split at hp
 ·rename_i hcond
  simp only [Bool.and_eq_true] at hcond
  have hke:=nW hcond.1 hk
  subst hke
  have hck:=BB hcond.2 w
  cases hm with
  |map _ B O c hρ=>
   obtain ⟨B',c',arr,clock,e1,e2,e3⟩:=hR.blk _ _ hg
   rw [hρ] at e1;cases e1
   have hNle:=hR.above _ _ _ hg rfl hρ
   have hlt:B < w.heap.size:=(Array.getElem?_eq_some_iff.1 e2).1
   have lN:∀(o:Obj),tq P ρ (w.putObj B o) b (.map es')->bW P ρ N w0 (h.set b (.map es')) (w.putObj B o):=fun o hb=>
    hR.update hg rfl (.map es') hρ ⟨rfl,rfl,rfl,by simp [World.putObj],fun k hk=>World.putObj_heap_other (by have:N<=B:=hNle;omega)⟩ (fun j hj hne=>World.putObj_heap_other hne) hb
   split at hp
   ·rename_i i v0 hf
    obtain ⟨r',h1,h2⟩:=vP e3 hf
    cases r' with
    |none=>exact h2.elim
    |some q=>
     obtain ⟨rfl,_⟩:=h2
     split at hp
     ·rename_i k' v' hi
      split at hp
      ·rename_i hsame
       cases hp
       obtain ⟨ent,he1,he2⟩:=e3.get hi
       have he1':arr[q.1]?=some ent:=by simpa using he1
       refine ⟨_,?_,lN (.map (arr.modify q.1 fun e=>{e with key:=ck,val:=cv}) clock) ⟨B,c,_,clock,hρ,World.putObj_heap_same hlt,?_⟩⟩
       ·obtain ⟨qi,qv⟩:=q
        simp only at he1'
        have hst:=HZ (P:=P) (old:=ent.key) (new:=ck) (by rw [he2];exact hsame) w
        simp [Instr.mapUpdate,run_underlying ht,MapKept.run_getObj_map e2,hck,h1,he1',hst,MapKept.run_setObj_map _ e2,World.putObj]
       ·rw [Array.toList_modify]
        exact e3.put q.1 hcond.1 hv
      ·cases hp
     ·cases hp
   ·rename_i hf
    obtain ⟨r',h1,h2⟩:=vP e3 hf
    cases r' with
    |some q=>exact h2.elim
    |none=>
     cases hp
     refine ⟨_,?_,lN (.map (arr.push {key:=ck,val:=cv,born:=clock}) (clock+1)) ⟨B,c,_,clock+1,hρ,World.putObj_heap_same hlt,?_⟩⟩
     ·simp [Instr.mapUpdate,run_underlying ht,MapKept.run_getObj_map e2,hck,h1,MapKept.run_setObj_map _ e2,World.putObj]
     ·rw [Array.toList_push]
      exact e3.push clock hcond.1 hv
   ·cases hp
 ·cases hp
theorem FE (hR:bW P ρ N w0 h w) (t:TypeId):bq P ρ N w0 (h.alloc (.map [])) w (do pure (Next.value (← Instr.makeMap t none))) (.map (some h.next)):=by
 refine bq.value (ρ.lN h.next (⟨w.heap.size,0,none⟩,0)) (w.alloc (.map #[] 0)) (.map (some w.heap.size)) (bz.eM _ (hR.fresh h.next (Nat.le_refl _)))
  (hR.alloc (.map []) 0 _ ⟨w.heap.size,0,#[],0,bz.aY _ _ _,(MapKept.heap_alloc w _).1,.nil⟩) (.map h.next w.heap.size 0 0 (bz.aY _ _ _)) ?_
 simp [Instr.makeMap]
theorem H6 (hR:bW P ρ N w0 h w) {xt e:TypeId} {len n:Nat} (ht:P.underlying xt=some (.array len e)) (h1:vG P e=some true) (h2:bl P e=some n)
  {cs:Array Value} {cx:Value} (hx:Rv ρ (.agg cs) cx) {k:IntKind} {j:Int} (h0:0<=j) (hj:j < (len:Int)) (_hle:j.toNat * n+n<=cs.toList.length):
  bq P ρ N w0 h w (do pure (Next.value (← Instr.index xt cx (.int k j)))) (.agg ((cs.toList.drop (j.toNat * n)).take n).toArray):=by
 cases hx with
 |agg _ b hr=>
 have hrl:=(hr.drop (j.toNat * n)).take n
 refine bq.pure (.agg (b.extract (j.toNat * n) (j.toNat * n+n))) hR (.agg _ _ ?_) ?_
 ·have:(b.extract (j.toNat * n) (j.toNat * n+n)).toList=(b.toList.drop (j.toNat * n)).take n:=by simp
  rw [this];exact hrl
 ·simp [Instr.index,asIntOf,run_underlying ht,h0,hj,part,jo h1,bQ h2]
theorem H7 (hR:bW P ρ N w0 h w) {xt a:TypeId} {d:TypeDesc} (ht:P.underlying a=some d) (hni:∀ms,d≠ .interface ms) {i:TypeInfo} {z:Value} (hi:P.info? a=some i) (hz:i.zero=some z) (hzc:ay z=true) {ok:Bool}
  {x cx:Value} (hx:Rv ρ x cx) {v:Value}
  (hv:oE a ok z x=some v):bq P ρ N w0 h w (do pure (Next.value (← Instr.typeAssert cx xt a ok))) v:=by
 unfold oE at hv
 have hzv:(zeroValue a).run P w= .ok z w:=by simp [zeroValue,typeInfo,hi,hz]
 have hfail:Rv ρ (.tuple #[z,.bool false]) (.tuple #[z,.bool false]):=.tuple _ _ (.cons (kG hzc) (.cons (.bool _) .nil))
 cases hx with
 |iface t x' u hr=>
  simp only at hv
  split at hv
  ·rename_i e
   subst e
   cases hv
   cases ok with
   |true=>
    refine bq.pure (.tuple #[u,.bool true]) hR (.tuple _ _ (.cons hr (.cons (.bool _) .nil))) ?_
    cases d<;>first |exact absurd rfl (hni _) |simp [Instr.typeAssert,run_underlying ht]
   |false=>
    refine bq.pure u hR hr ?_
    cases d<;>first |exact absurd rfl (hni _) |simp [Instr.typeAssert,run_underlying ht]
  ·rename_i hne
   split at hv
   ·rename_i hok
    subst hok
    cases hv
    refine bq.pure _ hR hfail ?_
    cases d<;>first |exact absurd rfl (hni _) |simp [Instr.typeAssert,run_underlying ht,hne,hzv]
   ·cases hv
 |nilIface=>
  simp only at hv
  split at hv
  ·rename_i hok
   subst hok
   cases hv
   refine bq.pure _ hR hfail ?_
   cases d<;>first |exact absurd rfl (hni _) |simp [Instr.typeAssert,run_underlying ht,hzv]
  ·cases hv
 |_=>cases hv
theorem D5 (hR:bW P ρ N w0 h w) {t:TypeId} (ht:P.underlying t=some .string) (s:ByteArray):
  bq P ρ N w0 (h.alloc (.iter s 0)) w (do pure (Next.value (← Instr.range t (.string s)))) (.pointer (some ⟨h.next,0,none⟩)):=by
 refine bq.value (ρ.lN h.next (⟨w.heap.size,0,none⟩,0)) (w.alloc (.stringIter s 0)) (.pointer (some ⟨w.heap.size,0,none⟩)) (bz.eM _ (hR.fresh h.next (Nat.le_refl _)))
  (hR.alloc (.iter s 0) 0 _ ⟨w.heap.size,0,bz.aY _ _ _,(MapKept.heap_alloc w _).1⟩) (.ptr h.next 0 w.heap.size 0 0 (bz.aY _ _ _)) ?_
 simp [Instr.range,run_underlying ht]
theorem FF (hR:bW P ρ N w0 h w) {b:Nat} {cx:Value} (hx:Rv ρ (.pointer (some ⟨b,0,none⟩)) cx) {s:ByteArray} {pos:Nat} (hg:h.get b=some (.iter s pos)) (ty:TypeId) {v:Value}
  (hv:(if pos < s.size then some (Value.tuple #[.bool true,.int .i64 pos,.int .i32 (Utf8.decode s pos).1],h.set b (.iter s (pos+(Utf8.decode s pos).2)))
     else some (.tuple #[.bool false],h))=some (v,h')):
  bq P ρ N w0 h' w (do pure (Next.value (← Instr.next cx true ty))) v:=by
 cases hx with
 |ptr _ _ B O c hρ=>
  obtain ⟨B',c',e1,e2⟩:=hR.blk _ _ hg
  rw [hρ] at e1;cases e1
  have hNle:=hR.above _ _ _ hg rfl hρ
  have hlt:B < w.heap.size:=(Array.getElem?_eq_some_iff.1 e2).1
  have hget:(getObj B).run P w= .ok (.stringIter s pos) w:=by simp [getObj,Sem.run,e2]
  split at hv
  ·rename_i hp
   cases hv
   refine bq.value ρ (w.putObj B (.stringIter s (pos+(Utf8.decode s pos).2))) (Value.tuple #[.bool true,.int .i64 pos,.int .i32 (Utf8.decode s pos).1]) ρ.le_refl
    (hR.update hg rfl _ hρ ⟨rfl,rfl,rfl,by simp [World.putObj],fun k hk=>World.putObj_heap_other (by have:N<=B:=hNle;omega)⟩ (fun j hj hne=>World.putObj_heap_other hne) ⟨B,c,hρ,World.putObj_heap_same hlt⟩)
    (.tuple _ _ (.cons (.bool _) (.cons (.int _ _) (.cons (.int _ _) .nil)))) ?_
   have hset:∀o,(setObj B o).run P w= .ok () (w.putObj B o):=fun o=>by simp [setObj,Sem.run,e2,World.putObj]
   simp [Instr.next,hget,hp,hset,goInt]
  ·rename_i hp
   cases hv
   refine bq.value ρ w (.tuple #[.bool false]) ρ.le_refl hR (.tuple _ _ (.cons (.bool _) .nil)) ?_
   simp [Instr.next,hget,hp]
theorem vQ {len cap l u m:Nat} {lo hi:Option Operand} {mx:Operand} (hlo:bound ts 0 lo=some l) (hhi:bound ts len hi=some u) (hmx:bound ts len (some mx)=some m)
  (hrl:∀x∈lo,Rv ρ (aj ts x) (ce x)) (hrh:∀x∈hi,Rv ρ (aj ts x) (ce x)) (hrm:Rv ρ (aj ts mx) (ce mx)) (hh:hi≠none) (h1:l<=u) (h2:u<=m) (h3:m<=cap) (w:World):
  (Instr.sliceBounds true len cap (lo.map ce) (hi.map ce) (some (ce mx))).run P w= .ok (l,u,m) w:=by
 have b1:=mz (P:=P) (code:=.slice3C) (y:=u) hlo hrl h1
 have b2:=mz (P:=P) (code:=.slice3B) (y:=m) hhi hrh h2
 have b3:=mz (P:=P) (code:=.slice3Acap) (y:=cap) hmx (fun x hx=>by cases hx;exact hrm) h3
 simp only at b3
 cases hi with
 |none=>exact absurd rfl hh
 |some y=>
  simp only [Option.map_some] at b2 ⊢
  cases lo<;>simp only [Option.map_none,Option.map_some] at b1 ⊢
  ·subst b1;simp [Instr.sliceBounds,b2,b3]
  ·simp [Instr.sliceBounds,b1,b2,b3]
theorem H8 (hR:bW P ρ N w0 h w) {t e:TypeId} {size:Nat} (ht:P.underlying t=some (.slice e)) (hs:bl P e=some size) {x mx:Operand} {lo hi:Option Operand} (hh:hi≠none)
  (hx:Rv ρ (aj ts x) (ce x)) (hlo:∀y∈lo,Rv ρ (aj ts y) (ce y)) (hhi:∀y∈hi,Rv ρ (aj ts y) (ce y)) (hmx:Rv ρ (aj ts mx) (ce mx)) {v:Value}
  (hv:af P ts h (.slice3 size x lo hi mx)=some (v,h')):bq P ρ N w0 h' w (do pure (Next.value (← Instr.sliceAt t (ce x) (lo.map ce) (hi.map ce) (some (ce mx))))) v:=by
 simp only [af] at hv
 generalize hax:aj ts x=ax at hx hv
 generalize ce x=cx at hx
 split at hv
 ·rename_i a len skip
  obtain ⟨i,off,s⟩:=a
  obtain ⟨rfl,B,O,c,A,hρ,hle,hA,rfl⟩:=rP hx
  split at hv
  ·rename_i l u m hl hu hm
   split at hv
   ·rename_i hc
    obtain ⟨h1,h2,h3,_⟩:=hc
    cases hv
    have hb:=fun w=>vQ (P:=P) (cap:=fL c skip) hl hu hm hlo hhi hmx hh h1 h2 (by omega) w
    refine bq.pure (.slice (some (if m=l then ⟨B,A,none⟩ else ⟨B,A+l * size,none⟩)) (u - l) (m - l)) hR ?_ ?_
    ·have:=fun A' hA'=>Rv.slice (ρ:=ρ) i (if m=l then off else off+l * size) (u - l) (2 * (m - l)+1) B O c A' hρ (by rw [rK];omega) hA'
     rw [rK] at this
     split
     ·rename_i e;rw [if_pos e] at this;exact this A (.inr (by omega))
     ·rename_i e
      rw [if_neg e] at this
      rcases hA with rfl |hA
      ·exact this _ (.inl (by omega))
      ·omega
    ·simp [Instr.sliceAt,Instr.slice,run_underlying ht,hb,bQ hs]
     split
     ·rfl
     ·simp [Addr.add_lit]
   ·cases hv
  ·cases hv
 ·cases hv
theorem AL {n l u:Nat} {lo hi:Option Operand} (hlo:bound ts 0 lo=some l) (hhi:bound ts n hi=some u)
  (hrl:∀x∈lo,Rv ρ (aj ts x) (ce x)) (hrh:∀x∈hi,Rv ρ (aj ts x) (ce x)) (h1:l<=u) (h2:u<=n) (w:World):
  (Instr.sliceBounds false n n (lo.map ce) (hi.map ce) none).run P w= .ok (l,u,n) w:=by
 have b1:=mz (P:=P) (code:=.sliceB) (y:=u) hlo hrl h1
 have b2:=mz (P:=P) (code:=.sliceAlen) (y:=n) hhi hrh h2
 cases lo<;>cases hi<;>simp only [Option.map_none,Option.map_some] at b1 b2 ⊢
 ·subst b1;subst b2;simp [Instr.sliceBounds]
 ·subst b1;simp [Instr.sliceBounds,b2]
 ·subst b2;simp [Instr.sliceBounds,b1]
 ·simp [Instr.sliceBounds,b1,b2]
theorem D6 (hR:bW P ρ N w0 h w) {t e:TypeId} {len size:Nat} (ht:P.underlying t=some (.array len e)) (hs:bl P e=some size) {x:Operand} {lo hi:Option Operand}
  (hx:Rv ρ (aj ts x) (ce x)) (hlo:∀y∈lo,Rv ρ (aj ts y) (ce y)) (hhi:∀y∈hi,Rv ρ (aj ts y) (ce y)) {v:Value}
  (hv:af P ts h (.nM len size x lo hi)=some (v,h')):bq P ρ N w0 h' w (do pure (Next.value (← Instr.sliceAt t (ce x) (lo.map ce) (hi.map ce) none))) v:=by
 simp only [af] at hv
 generalize hax:aj ts x=ax at hx hv
 generalize ce x=cx at hx
 split at hv
 ·rename_i a
  obtain ⟨i,off,s⟩:=a
  obtain ⟨rfl,B,O,c,hρ,rfl⟩:=ko hx
  split at hv
  ·rename_i l u hl hu
   split at hv
   ·rename_i hc
    obtain ⟨h1,h2,_⟩:=hc
    cases hv
    have hb:=fun w=>AL (P:=P) hl hu hlo hhi h1 h2 w
    refine bq.pure (.slice (some (if len=l then ⟨B,O+off,none⟩ else ⟨B,O+(off+l * size),none⟩)) (u - l) (len - l)) hR ?_ ?_
    ·have:=Rv.slice (ρ:=ρ) i (if len=l then off else off+l * size) (u - l) (2 * (len - l)+1) B O c _ hρ (by rw [rK];omega) (.inl rfl)
     rw [rK] at this
     split
     ·rename_i e;rw [if_pos e] at this;exact this
     ·rename_i e;rw [if_neg e] at this;exact this
    ·simp [Instr.sliceAt,Instr.sureAddr,run_underlying ht,hb,bQ hs]
     split
     ·rfl
     ·simp [Addr.add_lit,Nat.add_assoc]
   ·cases hv
  ·cases hv
 ·cases hv
end Go.Ev
