/- The evaluator over a small code, and that what it finds of a call holds of the machine, part 4. -/
import Derived.Test.YtcajalekkffcjaaDoorEv3
import Derived.Laws.Entries
import Derived.Laws.Cells
import Derived.Laws.CopyRow
import Derived.Laws.IdiomCopy
namespace Go.Ev
open Go Go.RowKit
variable {P:Program} {ρ:bz} {N:Nat} {w0 w:World} {h h':H}
def bq (P:Program) (ρ:bz) (N:Nat) (w0:World) (h':H) (w:World) (s:Sem Next) (v:Value):Prop:=
 ∃ρ' w' nx u,ρ.le ρ'/\bW P ρ' N w0 h' w'/\Rv ρ' v u/\s.run P w= .ok nx w'/\(nx= .value u\/(nx= .skip/\u=undef))
theorem bq.value {s:Sem Value} {v:Value} (ρ':bz) (w':World) (u:Value) (hle:ρ.le ρ') (hR:bW P ρ' N w0 h' w') (hv:Rv ρ' v u)
  (hs:s.run P w= .ok u w'):bq P ρ N w0 h' w (do pure (Next.value (← s))) v:=
 ⟨ρ',w',.value u,u,hle,hR,hv,by simp [hs],.inl rfl⟩
theorem bq.pure {s:Sem Value} {v:Value} (u:Value) (hR:bW P ρ N w0 h w) (hv:Rv ρ v u)
  (hs:s.run P w= .ok u w):bq P ρ N w0 h w (do Pure.pure (Next.value (← s))) v:=
 bq.value ρ w u ρ.le_refl hR hv hs
theorem jo {t:TypeId} {b:Bool} (ht:vG P t=some b) (w:World):(isAgg t).run P w= .ok b w:=by
 unfold vG at ht
 unfold isAgg
 cases hu:P.underlying t with
 |none=>simp [hu] at ht
 |some d=>cases d<;>simp [hu] at ht<;>subst ht<;>simp [run_underlying hu]
theorem mb {t:TypeId} {n:Nat} (ht:bl P t=some n):∃i,P.info? t=some i/\i.size=n:=by
 unfold bl at ht
 cases hi:P.info? t with
 |none=>simp [hi] at ht
 |some i=>simp [hi] at ht;exact ⟨i,rfl,ht⟩
theorem bQ {t:TypeId} {n:Nat} (ht:bl P t=some n) (w:World):(sizeOf t).run P w= .ok n w:=by
 obtain ⟨i,hi,rfl⟩:=mb ht
 simp [sizeOf,typeInfo,hi]
theorem fU {t:TypeId} {l:List Value} (ht:mV P t=some l):
  ∃i z,P.info? t=some i/\i.zero=some z/\z.cells.toList=l/\l.all aS=true/\l.length=i.size:=by
 unfold mV at ht
 cases hi:P.info? t with
 |none=>simp [hi] at ht
 |some i=>
  cases hz:i.zero with
  |none=>simp [hi,hz] at ht
  |some z=>
   simp only [hi,hz] at ht
   split at ht
   ·rename_i hc
    simp only [Bool.and_eq_true,beq_iff_eq] at hc
    cases ht
    exact ⟨i,z,rfl,hz,rfl,hc.1,by simpa using hc.2⟩
   ·cases ht
theorem zD {t:TypeId} {agg:Bool} {n:Nat} (ht:loadT P t=some (agg,n)):vG P t=some agg/\bl P t=some n/\(agg=false->n=1):=by
 unfold loadT at ht
 split at ht
 ·rename_i h1 h2;cases ht;exact ⟨h1,h2,by simp⟩
 ·rename_i h1 h2;cases ht;exact ⟨h1,h2,by simp⟩
 ·cases ht
theorem kj {α β:Type} {o:Option α} {f:α->Option β} {b:β} (h:o.bind f=some b):∃a,o=some a/\f a=some b:=by
 cases o with
 |none=>cases h
 |some a=>exact ⟨a,rfl,h⟩
theorem aa {α β:Type} {o:Option α} {f:α->β} {b:β} (h:o.map f=some b):∃a,o=some a/\f a=b:=by
 cases o with
 |none=>cases h
 |some a=>cases h;exact ⟨a,rfl,rfl⟩
theorem uC (hR:bW P ρ N w0 h w) {i off n:Nat} {s:Option Nat} {cs:List Value} (hc:h.cells ⟨i,off,s⟩ n=some cs) {B O c:Nat} (hρ:ρ i=some (⟨B,O,none⟩,c)):
  s=none/\cs.length=n/\∃ds,RL ρ cs ds/\∀j u,ds[j]?=some u->w.cell? ((⟨B,O+off,none⟩:Addr).add j)=some u:=by
 cases s with
 |some _=>simp [H.cells] at hc
 |none=>
 cases hb:(h.get i).bind eo.read with
 |none=>simp [H.cells,hb] at hc
 |some xs=>
  simp only [H.cells,hb] at hc
  split at hc
  ·rename_i hle
   cases hc
   obtain ⟨b,hg,hb⟩:=kj hb
   have hrep:=hR.blk i b hg
   refine ⟨rfl,by simp;omega,?_⟩
   cases b with
   |cells tight ys e rows=>
    simp only [eo.read,Option.some.injEq] at hb
    subst hb
    obtain ⟨B',O',c',cur,size,h1,⟨fz,h2,_⟩,h3,_⟩:=hrep
    rw [hρ] at h1;cases h1
    refine ⟨(((cur.toList.drop O).take ys.length).drop off).take n,(h3.drop off).take n,fun j u hu=>?_⟩
    rw [Addr.add_lit]
    simp only [World.cell?,h2]
    rw [List.getElem?_take] at hu
    split at hu
    ·rw [List.getElem?_drop,List.getElem?_take] at hu
     split at hu
     ·rw [List.getElem?_drop] at hu
      simpa [Nat.add_assoc] using hu
     ·cases hu
    ·cases hu
   |ro ys=>
    simp only [eo.read,Option.some.injEq] at hb
    subst hb
    obtain ⟨B',O',c',ds,h1,_,h3,h4⟩:=hrep
    rw [hρ] at h1;cases h1
    refine ⟨(ds.drop off).take n,(h3.drop off).take n,fun j u hu=>?_⟩
    rw [List.getElem?_take] at hu
    split at hu
    ·rw [List.getElem?_drop] at hu
     have:=h4 _ u hu
     rw [Addr.add_lit]
     rwa [← Nat.add_assoc] at this
    ·cases hu
   |_=>cases hb
  ·cases hc
theorem DX {l:List Value} {v:Value} (h:one l=some v):l=[v]:=by
 unfold one at h
 split at h
 ·cases h;rfl
 ·cases h
theorem Gh (hR:bW P ρ N w0 h w) {t:TypeId} {agg:Bool} {n:Nat} (ht:loadT P t=some (agg,n)) {a:Addr} {cv:Value} (ha:Rv ρ (.pointer (some a)) cv)
  {cs:List Value} (hc:h.cells a n=some cs) {v:Value} (hv:(if agg then some (Value.agg cs.toArray) else one cs)=some v):
  ∃u,(Instr.loadAt t cv).run P w= .ok u w/\Rv ρ v u:=by
 obtain ⟨h1,h2,h3⟩:=zD ht
 cases ha with
 |ptr i off B O c hρ=>
  obtain ⟨_,hlen,ds,hrl,hcell⟩:=uC hR hc hρ
  cases agg with
  |true=>
   simp only [if_true,Option.some.injEq] at hv
   subst hv
   have hl:=run_loadCells_list (P:=P) w ⟨B,O+off,none⟩ ds hcell
   rw [← hrl.length,hlen] at hl
   refine ⟨.agg ds.toArray,?_,.agg _ _ (by simpa using hrl)⟩
   simp [Instr.loadAt,Instr.sureAddr,loadVar,jo h1,bQ h2,hl]
  |false=>
   simp only [Bool.false_eq_true,if_false] at hv
   have:=DX hv
   subst this
   cases hrl with
   |cons hx ht=>
    rename_i u m
    cases ht
    have h0:=hcell 0 u rfl
    rw [Addr.add_zero'] at h0
    exact ⟨u,by simp [Instr.loadAt,Instr.sureAddr,loadVar,jo h1,h0],hx⟩
theorem uP (N:Nat) (w:World) (g:Nat) (cs:Array Value) (hg:N<=g):Below N w (w.setRow g cs):=
 ⟨rfl,rfl,rfl,by simp,fun k hk=>setRow_other w g k cs (by omega)⟩
theorem pQ {g:Nat} {t:TypeId} {f:Nat × Nat}:∀(vs:List Value) (o:Nat) (cur:Array Value) (w:World),w.heap[g]?=some (.cells cur t f)->o+vs.length<=cur.size->
  w.setCells g o vs=w.setRow g (cur.toList.take o++vs++cur.toList.drop (o+vs.length)).toArray
 | [],o,cur,w,hg,_=>by
   simp only [World.setCells,List.append_nil,List.length_nil,Nat.add_zero,List.take_append_drop,Array.toArray_toList]
   exact (setRow_self w g cur t f hg).symm
 |v :: r,o,cur,w,hg,hl=>by
  simp only [List.length_cons] at hl
  have hlt:o < cur.toList.length:=by simp;omega
  rw [World.setCells,setCell_eq_setRow w g o cur t f v hg,pQ r (o+1) (cur.setIfInBounds o v) _ (setRow_heap w g cur _ t _ hg) (by simp;omega),setRow_setRow]
  congr 2
  simp only [Array.toList_setIfInBounds,List.length_cons]
  apply List.ext_getElem?
  intro j
  simp only [List.getElem?_append,List.getElem?_take,List.getElem?_drop,List.length_append,List.length_take,List.length_set,List.getElem?_set,List.length_cons,List.getElem?_cons]
  have e1:min (o+1) cur.toList.length=o+1:=by omega
  have e2:min o cur.toList.length=o:=by omega
  simp only [e1,e2]
  by_cases h1:j < o
  ·simp [h1,show j < o+1+r.length by omega,show j < o+1 by omega,show j < o+(r.length+1) by omega,show ¬o=j by omega]
  ·by_cases h2:j=o
   ·subst h2
    simp [show j < j+1+r.length by omega]
    omega
   ·by_cases h3:j < o+(r.length+1)
    ·simp [h1,h3,show j < o+1+r.length by omega,show ¬j < o+1 by omega,show ¬j - o=0 by omega]
     rw [Nat.sub_sub]
    ·simp [h3,show ¬j < o+1+r.length by omega,show ¬o=o+1+r.length+(j - (o+1+r.length)) by omega]
     congr 1;omega
theorem qO {B o:Nat} {e:TypeId} {f:Nat × Nat} {cur:Array Value} {vs:List Value} (hb:w.heap[B]?=some (.cells cur e f)) (hf:f=(0,0)\/cur.size<=f.1) (hl:o+vs.length<=cur.size) (h1:∀v∈vs,v.oneCell'=true):
  (storeCells ⟨B,o,none⟩ vs).run P w= .ok () (w.setRow B (cur.toList.take o++vs++cur.toList.drop (o+vs.length)).toArray):=by
 rw [run_storeCells_cells (P:=P) B o vs 0 w (fun j hj=>by
     have:o+j < cur.size:=by omega
     simp [World.cell?,hb,this]) (fun j hj=>by
     rcases hf with rfl |hf
     ·simp [World.frozen?,hb]
     ·simp only [World.frozen?,hb]
      simp
      omega) h1]
 rw [show o+0=o from rfl,pQ vs o cur w hb hl]
theorem J0 (l:List Value) (o n m:Nat) (xs:List Value) (hx:xs.length=n) (ho:o+n<=m) (hm:m<=l.length):
  (l.take o++xs++l.drop (o+n)).take m=(l.take m).take o++xs++(l.take m).drop (o+n):=by
 apply List.ext_getElem?
 intro j
 simp only [List.getElem?_take,List.getElem?_append,List.length_append,List.length_take,List.getElem?_drop,hx]
 by_cases h1:j < m
 ·simp only [h1,if_true]
  have e1:min o l.length=o:=by omega
  have e2:min o (min m l.length)=o:=by omega
  simp only [e1,e2]
  by_cases h2:j < o+n
  ·simp only [h2,if_true]
  ·simp only [h2,if_false]
   have e3:o+n+(j - (o+n)) < m:=by omega
   simp [e3]
 ·simp only [h1,if_false]
  have e2:min o (min m l.length)=o:=by omega
  simp only [e2]
  by_cases h2:j < o+n
  ·omega
  ·have e3:¬o+n+(j - (o+n)) < m:=by omega
   simp [h2,e3]
theorem DY (l:List Value) (O o n:Nat) (xs:List Value) (hx:xs.length=n) (h:O+o+n<=l.length):
  (l.take (O+o)++xs++l.drop (O+o+n)).drop O=(l.drop O).take o++xs++(l.drop O).drop (o+n):=by
 rw [List.append_assoc,List.drop_append,List.drop_take,List.append_assoc,List.drop_drop]
 have e1:(l.take (O+o)).length=O+o:=by simp;omega
 have e2:O - (l.take (O+o)).length=0:=by rw [e1];omega
 have e3:O+o - O=o:=by omega
 rw [e2,e3,List.drop_zero,Nat.add_assoc]
theorem J1 (hR:bW P ρ N w0 h w) {t:TypeId} {n:Nat} (ht:bl P t=some n) {i off:Nat} {cv x cx:Value}
  (ha:Rv ρ (.pointer (some ⟨i,off,none⟩)) cv) (hx:Rv ρ x cx) {tight:Bool} {cs:List Value} {e:TypeId} {rows:Nat}
  (hg:h.get i=some (.cells tight cs e rows)) (hl:(aX x).length=n) (hf:off+n<=cs.length) (h1:(aX x).all (·.oneCell')=true):
  ∃w',(Instr.storeAt t cv cx).run P w= .ok () w'/\bW P ρ N w0 (h.set i (.cells tight (cs.take off++aX x++cs.drop (off+n)) e rows)) w':=by
 cases ha with
 |ptr _ _ B O c hρ=>
  obtain ⟨B',O',c',cur,size,e1,⟨fz,e2,hfz⟩,e3,es,e4,e5,e6⟩:=hR.blk i _ hg
  rw [hρ] at e1;cases e1
  have hxc:=hx.cells
  have hlen:cx.cells.toList.length=n:=by rw [← hxc.length];exact hl
  have hcl:cs.length<=(cur.toList.drop O).length:=by have:=e3.length;simp at this;simp;omega
  have hcs:O+cs.length<=cur.size\/cs.length=0:=by simp at hcl;omega
  have hfit:O+off+n<=cur.size\/n=0:=by omega
  have hO:O<=cur.size:=by omega
  have hfit:O+off+n<=cur.size:=by omega
  have hst:=qO (P:=P) (o:=O+off) (vs:=cx.cells.toList) e2 hfz (by rw [hlen];exact hfit) (hxc.JB h1)
  obtain ⟨nw,hnw⟩:∃nw,nw=(cur.toList.take (O+off)++cx.cells.toList++cur.toList.drop (O+off+n)).toArray:=⟨_,rfl⟩
  have hst':(storeCells ⟨B,O+off,none⟩ cx.cells.toList).run P w= .ok () (w.setRow B nw):=by
   rw [hst,hnw,hlen]
  refine ⟨w.setRow B nw,?_,hR.update hg rfl _ hρ (uP N w B _ (hR.above i _ _ hg rfl hρ)) (fun k _ hk=>setRow_other w B k _ hk) ?_⟩
  ·have hne:cx.cells.size=n:=by simpa using hlen
   simp only [Instr.storeAt,Instr.sureAddr,storeVar,Sem.run_bind,Sem.run_pure,Result.andThen_ok,bQ ht,hne]
   simpa using hst'
  ·have hns:nw.size=cur.size:=by
    rw [hnw]
    simp only [hlen,List.size_toArray,List.length_append,List.length_take,List.length_drop,Array.length_toList]
    omega
   refine ⟨B,O,c,_,size,hρ,⟨fz,setRow_heap w B cur _ e fz e2,by rw [hns];exact hfz⟩,?_,es,?_,?_,e6⟩
   ·rw [hnw]
    have hl2:(cs.take off++aX x++cs.drop (off+n)).length=cs.length:=by
     simp only [List.length_append,List.length_take,List.length_drop,hl];omega
    rw [hl2,List.toList_toArray,DY cur.toList O off n _ hlen (by simpa using hfit),J0 (cur.toList.drop O) off n cs.length _ hlen hf hcl]
    exact ((e3.take off).append hxc).append (e3.drop (off+n))
   ·simp only [List.length_append,List.length_take,List.length_drop,hl];omega
   ·rw [← e5,hns]
theorem zE (hR:bW P ρ N w0 h w) {cs:List Value} {arr:Array Value} {e:TypeId} {rows size:Nat} (hcs:RL ρ cs arr.toList) (hs:bl P e=some size) (hl:cs.length=rows * size) (hm:rows<=maxLen):
  bW P (ρ.lN h.next (⟨w.heap.size,0,none⟩,rows)) N w0 (h.alloc (.cells true cs e rows)) (w.alloc (.cells arr e)):=by
 have hle:=bz.eM (⟨w.heap.size,0,none⟩,rows) (hR.fresh h.next (Nat.le_refl _))
 refine hR.alloc _ rows _ ⟨w.heap.size,0,rows,arr,size,bz.aY _ _ _,ze.new (heap_alloc_new w _),?_,hs,hl,?_,Nat.le_refl _,hm,fun _=>⟨rfl,rfl⟩⟩
 ·rw [hcs.length,List.drop_zero,List.take_length];exact hcs.mono hle
 ·rw [← hl,hcs.length];simp
theorem zF:1<=maxLen:=by simp [maxLen]
theorem GI (hR:bW P ρ N w0 h w) {cx:Value} {cs:List Value} {e:TypeId} (hs:bl P e=some cs.length) (hx:RL ρ cs cx.cells.toList):
  ∃ρ' w',ρ.le ρ'/\bW P ρ' N w0 (h.alloc (.cells true cs e 1)) w'/\Rv ρ' (.pointer (some ⟨h.next,0,none⟩)) (.pointer (some ⟨w.heap.size,0,none⟩))/\
   (newVar e cx).run P w= .ok ⟨w.heap.size,0,none⟩ w':=by
 refine ⟨_,_,bz.eM _ (hR.fresh h.next (Nat.le_refl _)),zE hR hx hs (by simp) zF,?_,by simp [newVar,newRow]⟩
 have:=Rv.ptr (ρ:=ρ.lN h.next (⟨w.heap.size,0,none⟩,1)) h.next 0 w.heap.size 0 1 (bz.aY _ _ _)
 simpa using this
theorem J2 (hR:bW P ρ N w0 h w) {e:TypeId} {z:List Value} (hz:mV P e=some z):
  bq P ρ N w0 (h.alloc (.cells true z e 1)) w (do pure (Next.value (← Instr.alloc e true (.tuple #[])))) (.pointer (some ⟨h.next,0,none⟩)):=by
 obtain ⟨i,zv,hi,hzv,hzl,hsc,hlen⟩:=fU hz
 have hx:RL ρ z zv.cells.toList:=by rw [hzl];exact cN bX hsc
 obtain ⟨ρ',w',hle,hR',hv,hrun⟩:=GI hR (e:=e) (by simp [bl,hi,hlen]) hx
 refine bq.value ρ' w' _ hle hR' hv ?_
 simp [Instr.alloc,zeroValue,typeInfo,hi,hzv,hrun]
theorem MQ (hR:bW P ρ N w0 h w) {e:TypeId} {x cx:Value} (hs:bl P e=some (aX x).length) (hx:Rv ρ x cx):
  bq P ρ N w0 (h.alloc (.cells true (aX x) e 1)) w (do pure (Next.value (← Instr.box e cx))) (.pointer (some ⟨h.next,0,none⟩)):=by
 obtain ⟨ρ',w',hle,hR',hv,hrun⟩:=GI hR hs hx.cells
 exact bq.value ρ' w' _ hle hR' hv (by simp [Instr.box,hrun])
theorem sY (hR:bW P ρ N w0 h w) {r:Nat} (hr:h.get r=none) (hρ:ρ r=none) (hlt:r < h.next) {cs:List Value} {arr:Array Value} {e:TypeId} {rows size:Nat} (hcs:RL ρ cs arr.toList) (hs:bl P e=some size) (hl:cs.length=rows * size) (hm:rows<=maxLen):
  bW P (ρ.lN r (⟨w.heap.size,0,none⟩,rows)) N w0 (h.set r (.cells true cs e rows)) (w.alloc (.cells arr e)):=by
 have hle:=bz.eM (⟨w.heap.size,0,none⟩,rows) hρ
 refine hR.Le hr hρ hlt _ rows _ ⟨w.heap.size,0,rows,arr,size,bz.aY _ _ _,ze.new (heap_alloc_new w _),?_,hs,hl,?_,Nat.le_refl _,hm,fun _=>⟨rfl,rfl⟩⟩
 ·rw [hcs.length,List.drop_zero,List.take_length];exact hcs.mono hle
 ·rw [← hl,hcs.length];simp
theorem Bz (hR:bW P ρ N w0 h w) {r:Nat} (hr:h.get r=none) (hρ:ρ r=none) (hlt:r < h.next) {cx:Value} {cs:List Value} {e:TypeId} (hs:bl P e=some cs.length) (hx:RL ρ cs cx.cells.toList):
  ∃ρ' w',ρ.le ρ'/\bW P ρ' N w0 (h.set r (.cells true cs e 1)) w'/\Rv ρ' (.pointer (some ⟨r,0,none⟩)) (.pointer (some ⟨w.heap.size,0,none⟩))/\
   (newVar e cx).run P w= .ok ⟨w.heap.size,0,none⟩ w':=by
 refine ⟨_,_,bz.eM _ hρ,sY hR hr hρ hlt hx hs (by simp) zF,?_,by simp [newVar,newRow]⟩
 have:=Rv.ptr (ρ:=ρ.lN r (⟨w.heap.size,0,none⟩,1)) r 0 w.heap.size 0 1 (bz.aY _ _ _)
 simpa using this
theorem EV (hR:bW P ρ N w0 h w) {r:Nat} (hr:h.get r=none) (hρ:ρ r=none) (hlt:r < h.next) {e:TypeId} {z:List Value} (hz:mV P e=some z):
  bq P ρ N w0 (h.set r (.cells true z e 1)) w (do pure (Next.value (← Instr.alloc e true (.tuple #[])))) (.pointer (some ⟨r,0,none⟩)):=by
 obtain ⟨i,zv,hi,hzv,hzl,hsc,hlen⟩:=fU hz
 have hx:RL ρ z zv.cells.toList:=by rw [hzl];exact cN bX hsc
 obtain ⟨ρ',w',hle,hR',hv,hrun⟩:=Bz hR hr hρ hlt (e:=e) (by simp [bl,hi,hlen]) hx
 refine bq.value ρ' w' _ hle hR' hv ?_
 simp [Instr.alloc,zeroValue,typeInfo,hi,hzv,hrun]
theorem IV (hR:bW P ρ N w0 h w) {r:Nat} (hr:h.get r=none) (hρ:ρ r=none) (hlt:r < h.next) {e:TypeId} {x cx:Value} (hs:bl P e=some (aX x).length) (hx:Rv ρ x cx):
  bq P ρ N w0 (h.set r (.cells true (aX x) e 1)) w (do pure (Next.value (← Instr.box e cx))) (.pointer (some ⟨r,0,none⟩)):=by
 obtain ⟨ρ',w',hle,hR',hv,hrun⟩:=Bz hR hr hρ hlt hs hx.cells
 exact bq.value ρ' w' _ hle hR' hv (by simp [Instr.box,hrun])
theorem BA:∀(l:List Value) (k off:Nat) (cs:Array Value),off+k+l.length<=cs.size->
  (l.zipIdx k).foldl (fun cs (p:Value × Nat)=>cs.setIfInBounds (off+p.2) p.1) cs=(cs.toList.take (off+k)++l++cs.toList.drop (off+k+l.length)).toArray
 | [],k,off,cs,_=>by simp
 |v :: r,k,off,cs,hl=>by
  simp only [List.zipIdx_cons,List.foldl_cons]
  rw [BA r (k+1) off (cs.setIfInBounds (off+k) v) (by simp at hl ⊢;omega)]
  have:=list_seg_step cs.toList (off+k) v r (by simp at hl ⊢;omega)
  simp only [Array.toList_setIfInBounds,List.length_cons,Nat.add_assoc,Nat.add_comm 1,Nat.add_left_comm] at this ⊢
  congr 1
theorem uh {ts:List Value} {ce:Operand->Value} {place:Nat->Option (Nat × Nat)}:∀(ps:List (Nat × Operand)) (aps:List (Nat × Nat × Operand)) (l:List (Nat × List Value)) (zs:List Value) (cells:Array Value),
  oH place ps=some aps->cJ ts zs.length aps=some l->(∀p∈ps,Rv ρ (aj ts p.2) (ce p.2))->RL ρ zs cells.toList->
  ∃cells',Instr.fill place cells (ps.map fun p=>(p.1,ce p.2))=some cells'/\RL ρ (fj zs l) cells'.toList
 | [],aps,l,zs,cells,h1,h2,_,h4=>by
   simp only [oH,Option.some.injEq] at h1
   subst h1
   simp only [cJ,Option.some.injEq] at h2
   subst h2
   exact ⟨cells,rfl,h4⟩
 |(i,x) :: ps,aps,l,zs,cells,h1,h2,h3,h4=>by
  simp only [oH] at h1
  split at h1
  ·rename_i off size aps' hpl hr
   cases h1
   simp only [cJ] at h2
   split at h2
   ·rename_i hc
    simp only [Bool.and_eq_true,decide_eq_true_eq] at hc
    obtain ⟨l',hl',rfl⟩:=aa h2
    have hx:=(h3 (i,x) (by simp)).cells
    have hlen:(ce x).cells.toList.length=size:=by rw [← hx.length];exact hc.1
    have hsz:(ce x).cells.size=size:=by simpa using hlen
    have hzl:=h4.length
    have hle:off+size<=zs.length:=Nat.le_of_ble_eq_true hc.2
    have hfold:=BA (ce x).cells.toList 0 off cells (by rw [hlen];simp at hzl;omega)
    have hstep:((ce x).cells.zipIdx.foldl (fun cs (p:Value × Nat)=>cs.setIfInBounds (off+p.2) p.1) cells)=
      (cells.toList.take off++(ce x).cells.toList++cells.toList.drop (off+size)).toArray:=by
     rw [← Array.foldl_toList,Array.toList_zipIdx,hfold,hlen];simp
    have hrl:RL ρ (zs.take off++aX (aj ts x)++zs.drop (off+(aX (aj ts x)).length)) (cells.toList.take off++(ce x).cells.toList++cells.toList.drop (off+size)):=by
     rw [hc.1];exact ((h4.take off).append hx).append (h4.drop _)
    have hl2:(zs.take off++aX (aj ts x)++zs.drop (off+(aX (aj ts x)).length)).length=zs.length:=by
     simp only [List.length_append,List.length_take,List.length_drop,hc.1];omega
    obtain ⟨cells',hf',hr'⟩:=uh ps aps' l' _ (cells.toList.take off++(ce x).cells.toList++cells.toList.drop (off+size)).toArray hr (by rw [hl2];exact hl') (fun p hp=>h3 p (by simp [hp])) (by simpa using hrl)
    refine ⟨cells',?_,by simpa [fj] using hr'⟩
    simp only [List.map_cons,Instr.fill,hpl]
    rw [if_neg (by simp at hzl;simp [hsz];omega)]
    exact (congrArg (fun a=>Instr.fill place a _) hstep).trans hf'
   ·cases h2
  ·cases h1
theorem bH (z:List Value) (n:Nat):(cE z n).length=n * z.length:=by
 induction n with
 |zero=>simp [cE]
 |succ n ih=>simp [cE,ih,Nat.add_mul,Nat.add_comm]
theorem DZ (z:List Value):∀(n j:Nat),j < n * z.length->(cE z n)[j]?=z[j % z.length]?
 | 0,j,h=>by simp at h
 |n+1,j,h=>by
  have hz:0 < z.length:=by
   rcases Nat.eq_zero_or_pos z.length with e |e
   ·rw [e] at h;simp at h
   ·exact e
  simp only [cE]
  by_cases hj:j < z.length
  ·rw [List.getElem?_append_left hj,Nat.mod_eq_of_lt hj]
  ·rw [List.getElem?_append_right (by omega),DZ z n (j - z.length) (by rw [Nat.add_mul] at h;omega)]
   rw [Nat.mod_eq_sub_mod (by omega:z.length<=j)]
theorem ug (z:Array Value) (n:Nat):((Array.range (n * z.size)).map (z[· % z.size]!)).toList=cE z.toList n:=by
 apply List.ext_getElem?
 intro j
 by_cases hj:j < n * z.size
 ·have hz:0 < z.size:=by
   rcases Nat.eq_zero_or_pos z.size with e |e
   ·rw [e] at hj;simp at hj
   ·exact e
  rw [DZ z.toList n j (by simpa using hj)]
  have hm:j % z.size < z.size:=Nat.mod_lt _ hz
  simp [hj,hm]
 ·rw [List.getElem?_eq_none (by simp;omega),List.getElem?_eq_none (by rw [bH];simp;omega)]
end Go.Ev
