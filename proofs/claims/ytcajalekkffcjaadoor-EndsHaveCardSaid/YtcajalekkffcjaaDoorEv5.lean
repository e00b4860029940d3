/- The evaluator over a small code, and that what it finds of a call holds of the machine, part 5. -/
import Derived.Test.YtcajalekkffcjaaDoorEv4
import Derived.Laws.Append
namespace Go.Ev
open Go Go.RowKit
variable {P:Program} {ρ:bz} {N:Nat} {w0 w:World} {h h':H}
theorem J3 {op:BinOp} {k k':IntKind} {a b:Int} {v:Value} (hv:lp op k a b=some v) (hk:k=k'\/op= .shl\/op= .shr) (t:TypeId) (w:World):
  (binOp op t (.int k a) (.int k' b)).run P w= .ok v w:=by
 rcases hk with rfl |rfl |rfl
 ·cases op<;>simp only [lp] at hv
  all_goals first
   |(cases hv;simp [binOp,Op.intArith,Op.intCmp,Op.intBits];done)
   |(split at hv
     ·cases hv
     ·rename_i hne;cases hv;simp [binOp,Op.intDiv,Op.shift,hne])
 ·simp only [lp] at hv
  split at hv
  ·cases hv
  ·rename_i hne;cases hv;simp [binOp,Op.shift,hne]
 ·simp only [lp] at hv
  split at hv
  ·cases hv
  ·rename_i hne;cases hv;simp [binOp,Op.shift,hne]
theorem iX {α:Type}:∀(s:Sem α) (a:α),av P s=some a->∀w,s.run P w= .ok a w
 | .pure a,b,hp,w=>by simp only [av,Option.some.injEq] at hp;subst hp;rfl
 | .program k,b,hp,w=>by simp only [av] at hp;simp only [Sem.run];exact iX (k P) b hp w
 | .mark m k,b,hp,w=>by simp only [av] at hp;simp only [Sem.run];exact iX k b hp w
 | .load ..,_,hp,_ | .store ..,_,hp,_ | .new ..,_,hp,_ | .shape ..,_,hp,_ | .freeze ..,_,hp,_ | .frozen ..,_,hp,_ | .getObj ..,_,hp,_
 | .setObj ..,_,hp,_ | .choose ..,_,hp,_ | .sys ..,_,hp,_ | .halt ..,_,hp,_=>by simp [av] at hp
theorem MR (hR:bW P ρ N w0 h w) {ts:List Value} {ce:Operand->Value} {o:Oper} (hs:∀cs b,o.op≠ .select cs b)
  (hcl:o.op.operands.all (fun x=>ay (aj ts x))=true) (hrel:∀x∈o.op.operands,Rv ρ (aj ts x) (ce x)) {v:Value}
  (hp:av P (execOp (aj ts) o)=some (.value v)) (hv:ay v=true):bq P ρ N w0 h w (execOp ce o) v:=by
 have he:execOp ce o=execOp (aj ts) o:=execOp_congr o hs fun x hx=>by
  have h1:=Array.all_eq_true_iff_forall_mem.1 hcl x hx
  exact nW h1 (hrel x hx)
 rw [he]
 exact ⟨ρ,w,_,v,ρ.le_refl,hR,kG hv,iX _ _ hp w,.inl rfl⟩
theorem HW {t e:TypeId} {size len cap:Nat} {a:Addr} (ht:P.underlying t=some (.slice e)) (hs:bl P e=some size) {k:IntKind} {n:Int} (h0:0<=n) (h1:n < (len:Int)) (w:World):
  (Instr.indexAt t (.slice (some a) len cap) (.int k n)).run P w= .ok (.pointer (some (a.add (n.toNat * size)))) w:=by
 simp [Instr.indexAt,asIntOf,run_underlying ht,bQ hs,h0,h1]
theorem Fz {t e:TypeId} {size len:Nat} {a:Addr} (ht:P.underlying t=some (.array len e)) (hs:bl P e=some size) {k:IntKind} {n:Int} (h0:0<=n) (h1:n < (len:Int)) (w:World):
  (Instr.indexAt t (.pointer (some a)) (.int k n)).run P w= .ok (.pointer (some (a.add (n.toNat * size)))) w:=by
 simp [Instr.indexAt,asIntOf,run_underlying ht,bQ hs,h0,h1,Instr.sureAddr]
theorem mz {ts:List Value} {ce:Operand->Value} {d n y:Nat} {code:BoundsCode}:∀{o:Option Operand},bound ts d o=some n->(∀x∈o,Rv ρ (aj ts x) (ce x))->n<=y->
  (match o with |none=>n=d |some x=>∀w,(Instr.sliceBound (ce x) y code).run P w= .ok n w)
 |none,hb,_,_=>by simp only [bound,Option.some.injEq] at hb;exact hb.symm
 |some x,hb,hr,hy=>by
  simp only [bound] at hb
  split at hb
  ·rename_i k i hx
   split at hb
   ·rename_i h0
    cases hb
    have hrx:=hr x rfl
    rw [hx] at hrx
    have:ce x= .int k i:=by generalize ce x=cx at hrx ⊢;cases hrx;rfl
    intro w
    have h2:i<=(y:Int):=by omega
    simp [Instr.sliceBound,this,asIntOf,h0,h2]
   ·cases hb
  ·cases hb
theorem pR {ts:List Value} {ce:Operand->Value} {len cap l u:Nat} {lo hi:Option Operand} (hlo:bound ts 0 lo=some l) (hhi:bound ts len hi=some u)
  (hrl:∀x∈lo,Rv ρ (aj ts x) (ce x)) (hrh:∀x∈hi,Rv ρ (aj ts x) (ce x)) (h1:l<=u) (h2:u<=cap) (w:World):
  (Instr.sliceBounds true len cap (lo.map ce) (hi.map ce) none).run P w= .ok (l,u,cap) w:=by
 have b1:=mz (P:=P) (code:=.sliceB) (y:=u) hlo hrl h1
 have b2:=mz (P:=P) (code:=.sliceAcap) (y:=cap) hhi hrh h2
 cases lo<;>cases hi<;>simp only [Option.map_none,Option.map_some] at b1 b2 ⊢
 ·subst b1;subst b2;simp [Instr.sliceBounds]
 ·subst b1;simp [Instr.sliceBounds,b2]
 ·subst b2;simp [Instr.sliceBounds,b1]
 ·simp [Instr.sliceBounds,b1,b2]
theorem w6 {t e:TypeId} {size:Nat} (ht:P.underlying t=some (.slice e)) (hs:bl P e=some size) {lo hi:Option Value} {a:Option Addr} {len cap l u:Nat}
  (hb:∀w,(Instr.sliceBounds true len cap lo hi none).run P w= .ok (l,u,cap) w) (w:World):
  (Instr.sliceAt t (.slice a len cap) lo hi none).run P w= .ok (.slice (if cap=l then a else a.map (·.add (l * size))) (u - l) (cap - l)) w:=by
 simp [Instr.sliceAt,Instr.slice,run_underlying ht,hb,bQ hs]
theorem MS (hR:bW P ρ N w0 h w) {size m:Nat} {x cx:Value} {new:List Value} (hx:Rv ρ x cx) (hs:cg h size x=some (m,new)) (hl:new.length=m * size):
  ∃news:List Value,RL ρ new news/\(∀w':World,(∀a,w'.cell? a=w.cell? a)->(Builtin.firstCells size m cx).run P w'= .ok news.toArray w')/\∀w',(Builtin.lenOf cx).run P w'= .ok m w':=by
 unfold cg at hs
 split at hs
 ·split at hs
  ·rename_i h0
   cases hs
   cases hx
   exact ⟨[],.nil,fun w' _=>by simp [Builtin.firstCells],fun w'=>by simp [Builtin.lenOf,h0]⟩
  ·cases hs
 ·rename_i a n skip
  cases hx with
  |slice i off len sk B O c A hρ hle hA=>
   split at hs
   ·rename_i h0
    cases hs
    exact ⟨[],.nil,fun w' _=>by simp [Builtin.firstCells,loadCells,loadCellsFrom],fun w'=>by simp [Builtin.lenOf,h0]⟩
   ·rename_i h0
    obtain rfl:A=O+off:=by rcases hA with h |h<;>omega
    obtain ⟨cs,hc,he⟩:=aa hs
    cases he
    obtain ⟨_,hlen,ds,hrl,hcell⟩:=uC hR hc hρ
    refine ⟨ds,hrl,fun w' hw=>?_,fun w'=>by simp [Builtin.lenOf]⟩
    simp only [Builtin.firstCells]
    rw [← hl,hrl.length]
    exact run_loadCells_list w' _ ds fun j u hu=>(hw _).trans (hcell j u hu)
 ·cases hs
  cases hx
  rename_i s
  refine ⟨_,cN (p:=aS) bX (List.all_eq_true.2 fun v hv=>by obtain ⟨b,_,rfl⟩:=List.mem_map.1 hv;rfl),fun w' _=>?_,fun w'=>by simp [Builtin.lenOf]⟩
  simp only [Builtin.firstCells,Sem.run_pure]
  congr 1
  apply Array.ext'
  have:s.extract 0 s.size=s:=by
   apply ByteArray.ext
   simp
  rw [this]
  simp
 ·cases hs
theorem zG (z:Array Value) (n:Nat):(Builtin.zeroCells z n).size=n * z.size:=by simp [Builtin.zeroCells]
theorem xK {t u e ty:TypeId} {size m sLen sCap:Nat} {du:TypeDesc} (ht:P.underlying t=some (.slice e)) (hs:bl P e=some size) (hu:P.underlying u=some du) (hz:jk du=true)
  {cx:Value} {news:List Value} (hl:∀w',(Builtin.lenOf cx).run P w'= .ok m w') (hf:∀w':World,(∀a,w'.cell? a=w.cell? a)->(Builtin.firstCells size m cx).run P w'= .ok news.toArray w')
  (hroom:sLen+m<=sCap):
  (Builtin.append_ #[t,u] ty #[.slice none sLen sCap,cx]).run P w= .ok (.slice none (sLen+m) sCap) w:=by
 have hf':=hf w (fun _=>rfl)
 cases du<;>simp only [jk,Bool.false_eq_true] at hz
 all_goals simp [Builtin.append_,run_underlying ht,run_underlying hu,bQ hs,hl,hroom,hf']
theorem nY {t u e ty:TypeId} {size m sLen sCap:Nat} {du:TypeDesc} (ht:P.underlying t=some (.slice e)) (hs:bl P e=some size) (hu:P.underlying u=some du) (hz:jk du=true)
  {a:Addr} {cx:Value} {news:List Value} (hl:∀w',(Builtin.lenOf cx).run P w'= .ok m w') (hf:∀w':World,(∀a,w'.cell? a=w.cell? a)->(Builtin.firstCells size m cx).run P w'= .ok news.toArray w')
  (hroom:sLen+m<=sCap) {w':World} (hst:(storeCells (a.add (sLen * size)) news).run P w= .ok () w'):
  (Builtin.append_ #[t,u] ty #[.slice (some a) sLen sCap,cx]).run P w= .ok (.slice (some a) (sLen+m) sCap) w':=by
 have hf':=hf w (fun _=>rfl)
 cases du<;>simp only [jk,Bool.false_eq_true] at hz
 all_goals simp [Builtin.append_,run_underlying ht,run_underlying hu,bQ hs,hl,hroom,hf',hst]
set_option maxHeartbeats 800000 in
theorem pS {t u e ty:TypeId} {i:TypeInfo} {z:Value} {m sLen sCap:Nat} {du:TypeDesc} (ht:P.underlying t=some (.slice e)) (hi:P.info? e=some i) (hzz:i.zero=some z) (hu:P.underlying u=some du) (hz:jk du=true)
  {base:Option Addr} {cx:Value} {olds news:List Value} (hl:∀w',(Builtin.lenOf cx).run P w'= .ok m w') (hf:∀w':World,(∀a,w'.cell? a=w.cell? a)->(Builtin.firstCells i.size m cx).run P w'= .ok news.toArray w')
  (hfo:∀w':World,(∀a,w'.cell? a=w.cell? a)->(Builtin.firstCells i.size sLen (.slice base sLen sCap)).run P w'= .ok olds.toArray w')
  (hg:sCap < sLen+m) (h63:sLen+m<=maxLen) (hfit:(sLen+m) * i.bytes<=cF):
  (Builtin.append_ #[t,u] ty #[.slice base sLen sCap,cx]).run P w=
   .ok (.slice (some ⟨w.heap.size,0,none⟩) (sLen+m) (grownCap w (sLen+m) sCap e))
    (w.drew.alloc (.cells ((olds++news).toArray++Builtin.zeroCells z.cells (grownCap w (sLen+m) sCap e - (sLen+m))) e)):=by
 have hn:¬(sLen+m<=sCap):=by omega
 have h63':¬(9223372036854775807 < ((sLen:Int)+(m:Int))):=by simp only [maxLen] at h63;omega
 have h48:=growslice_fits hg hfit
 have h48':¬(281474976710656 < Builtin.nextslicecap (sLen+m) sCap * i.bytes):=by omega
 have h1:=hf w.drew (fun _=>by simp)
 have h2:=hfo w.drew (fun _=>by simp)
 cases du<;>simp only [jk,Bool.false_eq_true] at hz
 all_goals
  simp [Builtin.append_,run_underlying ht,run_underlying hu,sizeOf,typeInfo,zeroValue,hi,hzz,hl,hn,h63',h48',Question.forced,h1,h2,newRow,grownCap]
  congr 2
  apply Array.ext'
  simp [List.append_assoc]
theorem vO (hR:bW P ρ N w0 h w) {cs olds:List Value} {e:TypeId} {rows size cap:Nat} {rest:Array Value} (hcs:RL ρ cs olds) (hs:bl P e=some size) (hl:cs.length=rows * size) (hc:rows<=cap) (hm:cap<=maxLen) (hr:rest.size=(cap - rows) * size):
  bW P (ρ.lN h.next (⟨w.heap.size,0,none⟩,cap)) N w0 (h.alloc (.cells false cs e rows)) (w.alloc (.cells (olds.toArray++rest) e)):=by
 have hle:=bz.eM (⟨w.heap.size,0,none⟩,cap) (hR.fresh h.next (Nat.le_refl _))
 refine hR.alloc _ cap _ ⟨w.heap.size,0,cap,_,size,bz.aY _ _ _,ze.new (heap_alloc_new w _),?_,hs,hl,?_,hc,hm,by simp⟩
 ·have:((olds.toArray++rest).toList.drop 0).take cs.length=olds:=by
   rw [List.drop_zero,Array.toList_append,hcs.length]
   simp
  rw [this];exact hcs.mono hle
 ·have h2:=hcs.length
  have h3:cap * size=rows * size+(cap - rows) * size:=by rw [← Nat.add_mul];congr 1;omega
  simp only [Array.size_append,List.size_toArray,hr]
  omega
theorem AI (hR:bW P ρ N w0 h w) {t u e ty:TypeId} {i:TypeInfo} {zv:Value} {du:TypeDesc} (ht:P.underlying t=some (.slice e)) (hi:P.info? e=some i) (hzv:i.zero=some zv) (hzsize:zv.cells.size=i.size)
  (hu:P.underlying u=some du) (hdu:jk du=true)
  {cx v:Value} {m:Nat} {new news:List Value} (hnr:RL ρ new news) (hl:new.length=m * i.size)
  (hfc:∀w':World,(∀a,w'.cell? a=w.cell? a)->(Builtin.firstCells i.size m cx).run P w'= .ok news.toArray w') (hlen:∀w',(Builtin.lenOf cx).run P w'= .ok m w')
  (hv:eS h e i.size i.bytes m new (.slice none 0 0)=some (v,h')):
  bq P ρ N w0 h' w (do pure (Next.value (← Builtin.append_ #[t,u] ty #[.slice none 0 0,cx]))) v:=by
 have hst:bl P e=some i.size:=by simp [bl,hi]
 simp only [eS] at hv
 by_cases hm:m=0
 ·subst hm
  simp only [if_true,Option.some.injEq,Prod.mk.injEq] at hv
  obtain ⟨rfl,rfl⟩:=hv
  exact bq.pure _ hR (.AE 0 0) (xK ht hst hu hdu hlen hfc (by omega))
 ·rw [if_neg hm] at hv
  split at hv
  ·rename_i hb
   cases hv
   have hgr:=pS (P:=P) (w:=w) (ty:=ty) (sLen:=0) (sCap:=0) (base:=none) (olds:=[]) ht hi hzv hu hdu hlen hfc (fun w' _=>by simp [Builtin.firstCells]) (by omega) (by omega) (by simpa using hb.1)
   simp only [Nat.zero_add,List.nil_append] at hgr
   have hge:=grownCap_ge w m 0 e
   have hle:=grownCap_le_maxLen w m 0 e hb.2
   have hrep:=vO (hR.drew) (e:=e) (rows:=m) (cap:=grownCap w m 0 e) (rest:=Builtin.zeroCells zv.cells (grownCap w m 0 e - m)) hnr hst hl hge hle (by rw [zG,hzsize])
   refine bq.value _ _ _ (bz.eM _ (hR.fresh h.next (Nat.le_refl _))) hrep ?_ hgr
   have:=Rv.l9 (ρ:=ρ.lN h.next (⟨w.heap.size,0,none⟩,grownCap w m 0 e)) h.next 0 m w.heap.size 0 (grownCap w m 0 e) (bz.aY _ _ _) (by omega)
   simpa using this
  ·cases hv
theorem sO (hR:bW P ρ N w0 h w) {t u e ty:TypeId} {i:TypeInfo} {zv:Value} {du:TypeDesc} (ht:P.underlying t=some (.slice e)) (hi:P.info? e=some i) (hzv:i.zero=some zv) (hzsize:zv.cells.size=i.size)
  (hu:P.underlying u=some du) (hdu:jk du=true)
  {cx:Value} {m:Nat} {new news:List Value} (hnr:RL ρ new news) (hl:new.length=m * i.size) (h1:new.all (·.oneCell')=true)
  (hfc:∀w':World,(∀a,w'.cell? a=w.cell? a)->(Builtin.firstCells i.size m cx).run P w'= .ok news.toArray w') (hlen:∀w',(Builtin.lenOf cx).run P w'= .ok m w') (hm:m≠0)
  {ib l n B O c A:Nat} (hρ:ρ ib=some (⟨B,O,none⟩,c)) (hA:A=O+l * i.size\/c - l=0) {tight:Bool} {ys:List Value} {rows:Nat} (hg:h.get ib=some (.cells tight ys e rows)) (hrows:rows=l+n) (hyl:ys.length=rows * i.size)
  (hbytes:(n+m) * i.bytes<=cF) (hmax:n+m<=maxLen):
  bq P ρ N w0 ((bif tight then h else h.set ib .dead).alloc (.cells false (ys.drop (l * i.size)++new) e (n+m))) w
   (do pure (Next.value (← Builtin.append_ #[t,u] ty #[.slice (some ⟨B,A,none⟩) n (c - l),cx]))) (.slice (some ⟨h.next,0,none⟩) (n+m) 0):=by
 have hst:bl P e=some i.size:=by simp [bl,hi]
 obtain ⟨B',O',c',cur,size,e1,⟨fz,e2,hfz⟩,e3,es,e4,e5,e6,e7,e8⟩:=hR.blk ib _ hg
 rw [hρ] at e1;cases e1
 rw [hst] at es;cases es
 subst hrows
 have hle:(l+n) * i.size<=c * i.size:=Nat.mul_le_mul_right _ e6
 have hln:(l+n) * i.size=l * i.size+n * i.size:=Nat.add_mul ..
 have hdl:(cur.toList.drop O).length=c * i.size:=by simp [e5]
 have hNB:=hR.above ib _ _ hg rfl hρ
 have hnl:=hnr.length
 have hys:(ys.drop (l * i.size)).length=n * i.size:=by simp [hyl];omega
 have hsuf:RL ρ (ys.drop (l * i.size)) ((cur.toList.drop (O+l * i.size)).take (n * i.size)):=by
  have:=e3.drop (l * i.size)
  rw [List.drop_take,List.drop_drop,hyl] at this
  have e:(l+n) * i.size - l * i.size=n * i.size:=by omega
  rwa [e] at this
 by_cases hroom:n+m<=c - l
 ·
  have eA:A=O+l * i.size:=by rcases hA with h |h<;>omega
  subst eA
  have htight:tight=false:=by
   cases tight with
   |false=>rfl
   |true=>have:=(e8 rfl).1;omega
  subst htight
  have hrm:(l+n+m) * i.size<=c * i.size:=Nat.mul_le_mul_right _ (by omega)
  rw [Nat.add_mul,hln] at hrm
  have hst2:=qO (P:=P) (o:=O+l * i.size+n * i.size) (vs:=news) e2 hfz (by rw [← hnl,hl,e5];omega) (hnr.JB h1)
  have hR1:=hR.kill hg rfl
  obtain ⟨nw,hnw⟩:∃nw,nw=(cur.toList.take (O+l * i.size+n * i.size)++news++cur.toList.drop (O+l * i.size+n * i.size+news.length)).toArray:=⟨_,rfl⟩
  rw [← hnw] at hst2
  have hns:nw.size=cur.size:=by
   rw [hnw]
   simp only [List.size_toArray,List.length_append,List.length_take,List.length_drop,Array.length_toList]
   omega
  have hrun:=nY (ty:=ty) ht hst hu hdu hlen hfc (a:=⟨B,O+l * i.size,none⟩) (sCap:=c - l) hroom (by rw [Addr.add_lit];exact hst2)
  have hfr:=hR.fresh h.next (Nat.le_refl _)
  have hle2:=bz.eM (⟨B,O+l * i.size,none⟩,c - l) hfr
  have hrep:bW P (ρ.lN h.next (⟨B,O+l * i.size,none⟩,c - l)) N w0 ((h.set ib .dead).alloc (.cells false (ys.drop (l * i.size)++new) e (n+m))) (w.setRow B nw):=by
   refine hR1.JC (.cells false (ys.drop (l * i.size)++new) e (n+m)) ⟨B,O+l * i.size,none⟩ (c - l) (uP N w B _ hNB) (fun k _ hk=>setRow_other w B k _ hk) ?_ (fun _=>hNB) ?_
   ·intro j b' x hj hlv hx
    by_cases ej:j=ib
    ·subst ej;rw [H.an] at hj;cases hj;cases hlv
    ·rw [H.ah h _ (Ne.symm ej)] at hj
     exact (hR.y7 ib j _ b' _ x hg hj (Ne.symm ej) rfl hlv hρ hx).symm
   ·refine ⟨B,O+l * i.size,c - l,nw,i.size,bz.aY _ _ _,⟨fz,setRow_heap w B cur _ e fz e2,by rw [hns];exact hfz⟩,?_,hst,?_,?_,hroom,by omega,by simp⟩
    ·have:(nw.toList.drop (O+l * i.size)).take (ys.drop (l * i.size)++new).length=(cur.toList.drop (O+l * i.size)).take (n * i.size)++news:=by
      rw [hnw,List.toList_toArray,DY cur.toList (O+l * i.size) (n * i.size) news.length news rfl (by simp;rw [← hnl,hl,e5];omega)]
      have hl3:((cur.toList.drop (O+l * i.size)).take (n * i.size)++news).length=(ys.drop (l * i.size)++new).length:=by
       simp only [List.length_append,hys,hnl,List.length_take,List.length_drop,Array.length_toList];omega
      rw [← hl3,List.take_left]
     rw [this]
     exact (hsuf.append hnr).mono hle2
    ·simp only [List.length_append,hys,hl,Nat.add_mul]
    ·rw [hns,e5,Nat.sub_mul];omega
  refine bq.value _ _ _ hle2 hrep ?_ hrun
  have:=Rv.l9 (ρ:=ρ.lN h.next (⟨B,O+l * i.size,none⟩,c - l)) h.next 0 (n+m) B (O+l * i.size) (c - l) (bz.aY _ _ _) hroom
  simpa using this
 ·
  have hfo:∀w':World,(∀a,w'.cell? a=w.cell? a)->(Builtin.firstCells i.size n (.slice (some ⟨B,A,none⟩) n (c - l))).run P w'= .ok ((cur.toList.drop (O+l * i.size)).take (n * i.size)).toArray w':=fun w' hw'=>by
   simp only [Builtin.firstCells]
   have hlen2:((cur.toList.drop (O+l * i.size)).take (n * i.size)).length=n * i.size:=by rw [← hsuf.length];exact hys
   rcases hA with rfl |hA
   rotate_left
   ·have h0:n=0:=by omega
    subst h0
    simp [loadCells,loadCellsFrom]
   rw [show loadCells ⟨B,O+l * i.size,none⟩ (n * i.size)=loadCells ⟨B,O+l * i.size,none⟩ ((cur.toList.drop (O+l * i.size)).take (n * i.size)).length by rw [hlen2]]
   refine run_loadCells_list w' _ _ fun j v hj=>(hw' _).trans ?_
   rw [Addr.add_lit]
   simp only [World.cell?,e2]
   rw [List.getElem?_take] at hj
   split at hj
   ·rw [List.getElem?_drop] at hj
    simpa using hj
   ·cases hj
  have hgr:=pS (P:=P) (w:=w) (ty:=ty) (sLen:=n) (sCap:=c - l) ht hi hzv hu hdu hlen hfc hfo (by omega) hmax hbytes
  have hge:=grownCap_ge w (n+m) (c - l) e
  have hlec:=grownCap_le_maxLen w (n+m) (c - l) e hmax
  have hR1:bW P ρ N w0 (bif tight then h else h.set ib .dead) w:=by
   cases tight with
   |true=>exact hR
   |false=>exact hR.kill hg rfl
  have hnext:(bif tight then h else h.set ib .dead).next=h.next:=by cases tight<;>rfl
  have hrep:=vO (hR1.drew) (e:=e) (rows:=n+m) (cap:=grownCap w (n+m) (c - l) e) (rest:=Builtin.zeroCells zv.cells (grownCap w (n+m) (c - l) e - (n+m))) (hsuf.append hnr) hst
   (by simp only [List.length_append,hys,hl,Nat.add_mul]) hge hlec (by rw [zG,hzsize])
  rw [hnext] at hrep
  refine bq.value _ _ _ (bz.eM _ (hR.fresh h.next (Nat.le_refl _))) hrep ?_ hgr
  have:=Rv.l9 (ρ:=ρ.lN h.next (⟨w.heap.size,0,none⟩,grownCap w (n+m) (c - l) e)) h.next 0 (n+m) w.heap.size 0 (grownCap w (n+m) (c - l) e) (bz.aY _ _ _) (by omega)
  simpa using this
theorem zH (hR:bW P ρ N w0 h w) {t u e ty:TypeId} {i:TypeInfo} {zv:Value} {du:TypeDesc} (ht:P.underlying t=some (.slice e)) (hi:P.info? e=some i) (hzv:i.zero=some zv) (hzsize:zv.cells.size=i.size)
  (hu:P.underlying u=some du) (hdu:jk du=true)
  {cx v:Value} {m:Nat} {new news:List Value} (hnr:RL ρ new news) (hl:new.length=m * i.size) (h1:new.all (·.oneCell')=true)
  (hfc:∀w':World,(∀a,w'.cell? a=w.cell? a)->(Builtin.firstCells i.size m cx).run P w'= .ok news.toArray w') (hlen:∀w',(Builtin.lenOf cx).run P w'= .ok m w')
  {ib off n skip B O c A:Nat} (hρ:ρ ib=some (⟨B,O,none⟩,c)) (hle:n<=fL c skip) (hA:A=O+off\/fL c skip=0)
  (hv:eS h e i.size i.bytes m new (.slice (some ⟨ib,off,none⟩) n skip)=some (v,h')):
  bq P ρ N w0 h' w (do pure (Next.value (← Builtin.append_ #[t,u] ty #[.slice (some ⟨B,A,none⟩) n (fL c skip),cx]))) v:=by
 have hst:bl P e=some i.size:=by simp [bl,hi]
 simp only [eS] at hv
 by_cases hm:m=0
 ·subst hm
  simp only [if_true,Option.some.injEq,Prod.mk.injEq] at hv
  obtain ⟨rfl,rfl⟩:=hv
  have hnil:news=[]:=by
   have:=hnr.length
   rw [hl] at this
   exact List.eq_nil_of_length_eq_zero (by omega)
  subst hnil
  exact bq.pure _ hR (.slice ib off n skip B O c A hρ hle hA) (nY ht hst hu hdu hlen hfc (by omega) (by simp [storeCells]))
 ·rw [if_neg hm] at hv
  split at hv
  ·rename_i tight ys e' rows hg
   split at hv
   ·rename_i hc
    obtain ⟨_,hoff,hskip,hrows,he',hyl,hbytes,hmax⟩:=hc
    subst hoff hskip hrows he'
    cases hv
    have:=sO (ty:=ty) (l:=0) (A:=A) hR ht hi hzv hzsize hu hdu hnr hl h1 hfc hlen hm hρ (by simpa [zc] using hA) hg (by omega) hyl hbytes hmax
    simpa [zc] using this
   ·split at hv
    ·rename_i hc
     obtain ⟨_,hsk,hoff,hrows,he',hyl,hbytes,hmax⟩:=hc
     subst hoff he'
     cases hv
     have hcap:fL c skip=c - skip / 2:=by unfold fL;rw [if_pos hsk]
     rw [hcap] at hA ⊢
     exact sO (ty:=ty) (l:=skip / 2) hR ht hi hzv hzsize hu hdu hnr hl h1 hfc hlen hm hρ hA hg hrows hyl hbytes hmax
    ·cases hv
  ·cases hv
theorem HX (hR:bW P ρ N w0 h w) {t u e ty:TypeId} {i:TypeInfo} {z:List Value} {du:TypeDesc} (ht:P.underlying t=some (.slice e)) (hi:P.info? e=some i) (hz:mV P e=some z)
  (hu:P.underlying u=some du) (hdu:jk du=true)
  {s cs x cx v:Value} {m:Nat} {new:List Value} (hs:Rv ρ s cs) (hx:Rv ρ x cx) (hsrc:cg h i.size x=some (m,new)) (hl:new.length=m * i.size) (h1:new.all (·.oneCell')=true)
  (hv:eS h e i.size i.bytes m new s=some (v,h')):
  bq P ρ N w0 h' w (do pure (Next.value (← Builtin.append_ #[t,u] ty #[cs,cx]))) v:=by
 obtain ⟨i',zv,hi',hzv,hzl,hzs,hzlen⟩:=fU hz
 rw [hi] at hi';cases hi'
 have hzsize:zv.cells.size=i.size:=by rw [← hzlen,← hzl];simp
 obtain ⟨news,hnr,hfc,hlen⟩:=MS hR hx hsrc hl
 cases hs with
 |AE l c=>
  have hlc:l=0/\c=0:=by
   unfold eS at hv
   split at hv
   ·rename_i h0;cases h0;exact ⟨rfl,rfl⟩
   ·rename_i h0;cases h0
   ·cases hv
  obtain ⟨rfl,rfl⟩:=hlc
  exact AI hR ht hi hzv hzsize hu hdu hnr hl hfc hlen hv
 |slice ib off n skip B O c A hρ hle hA=>exact zH hR ht hi hzv hzsize hu hdu hnr hl h1 hfc hlen hρ hle hA hv
 |_=>simp [eS] at hv
end Go.Ev
