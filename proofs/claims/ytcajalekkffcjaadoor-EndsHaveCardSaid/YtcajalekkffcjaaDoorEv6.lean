/- The evaluator over a small code, and that what it finds of a call holds of the machine, part 6. -/
import Derived.Test.YtcajalekkffcjaaDoorEv5
import Derived.IntWalk
import Derived.Lib.UnsafeStr
import Derived.Lib.Bytealg
import Derived.Lib.MakeNoZero
import Derived.Lib.Builder
import Derived.Lib.ConvBytes
import Derived.Laws.BytesString
import Derived.KernelRfl
import Derived.WalkSpells
import Derived.Laws.Externs
namespace Go.Ev
open Go Go.RowKit
variable {P:Program} {ρ:bz} {N:Nat} {w0 w:World} {h h':H}
theorem C7 {n:Int} (h0:0<=n) (h1:n.toNat<=maxLen):IntKind.i64.wrap n=n:=by
 simp only [maxLen] at h1
 exact IntWalk.i64_in n (by omega)
theorem rD {z:List Value} (hz:z.all aS=true) (n:Nat):(cE z n).all aS=true:=by
 induction n with
 |zero=>rfl
 |succ n ih=>simp only [cE,List.all_append,hz,ih,Bool.and_self]
theorem Cr (hR:bW P ρ N w0 h w) {t e:TypeId} {i:TypeInfo} {z:List Value} (ht:P.underlying t=some (.slice e)) (hi:P.info? e=some i) (hz:mV P e=some z)
  {k k':IntKind} {l:Int} (h0:0<=l) (hb:l.toNat * i.bytes<=cF) (hm:l.toNat<=maxLen):
  bq P ρ N w0 (h.alloc (.cells true (cE z l.toNat) e l.toNat)) w (do pure (Next.value (← Instr.makeSlice t (.int k l) (.int k' l)))) (.slice (some ⟨h.next,0,none⟩) l.toNat 0):=by
 obtain ⟨i',zv,hi',hzv,hzl,hzs,hzlen⟩:=fU hz
 rw [hi] at hi';cases hi'
 have hzsize:zv.cells.size=i.size:=by rw [← hzlen,← hzl];simp
 have hw:=C7 h0 hm
 obtain ⟨n,rfl⟩:=Int.eq_ofNat_of_zero_le h0
 simp only [Int.toNat_natCast] at hb hm ⊢
 have hbig:¬((281474976710656:Int) < (i.bytes:Int) * (n:Int)):=by
  have:i.bytes * n<=140737488355328:=by rw [Nat.mul_comm];exact hb
  omega
 have hneg:¬((n:Int) < 0):=by omega
 have hrow:(Array.range (n * i.size)).map (fun x=>zv.cells[x % zv.cells.size]!)=(cE z n).toArray:=by
  apply Array.ext'
  rw [← hzsize,ug,hzl]
 have hst:bl P e=some i.size:=by simp [bl,hi]
 have hrl:RL ρ (cE z n) (cE z n).toArray.toList:=by
  simpa using cN bX (rD hzs n)
 have hrep:=zE hR hrl hst (by rw [bH,hzlen]) hm
 refine bq.value _ _ (.slice (some ⟨w.heap.size,0,none⟩) n n) (bz.eM _ (hR.fresh h.next (Nat.le_refl _))) hrep ?_ ?_
 ·have:=Rv.l9 (ρ:=ρ.lN h.next (⟨w.heap.size,0,none⟩,n)) h.next 0 n w.heap.size 0 n (bz.aY _ _ _) (by omega)
  simpa using this
 ·by_cases hn0:n * i.size=0
  ·have hrow0:(cE z n).toArray=#[]:=by
    have:(cE z n).length=0:=by rw [bH,hzlen];exact hn0
    simpa using List.eq_nil_of_length_eq_zero this
   rw [hrow0]
   simp [Instr.makeSlice,run_underlying ht,asInt,asIntOf,sizeOf,typeInfo,hi,hw,hbig,hneg,hn0,newRow,Array.range_zero']
  ·simp [Instr.makeSlice,run_underlying ht,asInt,asIntOf,sizeOf,typeInfo,zeroValue,hi,hzv,hw,hbig,hneg,hn0,newRow,hrow]
theorem AJ (hR:bW P ρ N w0 h w) {t e:TypeId} {size n:Nat} {z:List Value} (ht:P.underlying t=some (.slice e)) (hs:bl P e=some size) (hz:mV P e=some z)
  (hle:n * size<=16777216) (hpos:0 < size) {ts:List Value} {ce:Operand->Value} {ps:Array (Nat × Operand)} {aps:List (Nat × Nat × Operand)} {l:List (Nat × List Value)}
  (hc:oH (fun i=>some (i * size,size)) ps.toList=some aps) (hl:cJ ts (n * size) aps=some l) (hrel:∀p∈ps.toList,Rv ρ (aj ts p.2) (ce p.2)):
  bq P ρ N w0 (h.alloc (.cells true (fj (cE z n) l) e n)) w (do pure (Next.value (← Instr.buildSlice t n (ps.map fun (i,x)=>(i,ce x))))) (.slice (some ⟨h.next,0,none⟩) n 0):=by
 obtain ⟨i,zv,hi,hzv,hzl,hzs,hzlen⟩:=fU hz
 obtain ⟨i',hi',hsz⟩:=mb hs
 rw [hi] at hi';cases hi'
 subst hsz
 have hzsize:zv.cells.size=i.size:=by rw [← hzlen,← hzl];simp
 have hrl:RL ρ (cE z n) (cE z n):=cN bX (rD hzs n)
 have hrow:∀c:Array Value,(if n * i.size=0 then c=#[] else c=zv.cells)->(Array.range (n * i.size)).map (fun x=>c[x % c.size]!)=(cE z n).toArray:=fun c hc=>by
  split at hc
  ·rename_i h0
   rw [h0]
   have:(cE z n).length=0:=by rw [bH,hzlen];exact h0
   simp [Array.range_zero',List.eq_nil_of_length_eq_zero this]
  ·subst hc
   apply Array.ext'
   rw [← hzsize,ug,hzl]
 obtain ⟨cells',hf,hr⟩:=uh (ce:=ce) ps.toList aps l (cE z n) (cE z n).toArray hc (by rw [bH,hzlen];exact hl) hrel (by simpa using hrl)
 have hlen:(fj (cE z n) l).length=n * i.size:=by
  have hfl:∀(l:List (Nat × List Value)) (aps:List (Nat × Nat × Operand)) (zs:List Value),cJ ts zs.length aps=some l->(fj zs l).length=zs.length:=by
   intro l
   induction l with
   |nil=>intro aps zs _;rfl
   |cons p l ih=>
    intro aps zs hh
    obtain ⟨off,xs⟩:=p
    cases aps with
    |nil=>simp [cJ] at hh
    |cons q aps=>
     obtain ⟨o,s,x⟩:=q
     simp only [cJ] at hh
     split at hh
     ·rename_i hcc
      simp only [Bool.and_eq_true,decide_eq_true_eq] at hcc
      obtain ⟨l',hl',he⟩:=aa hh
      have hle:=Nat.le_of_ble_eq_true hcc.2
      simp only [List.cons.injEq,Prod.mk.injEq] at he
      obtain ⟨⟨rfl,rfl⟩,rfl⟩:=he
      have hL:(zs.take o++aX (aj ts x)++zs.drop (o+(aX (aj ts x)).length)).length=zs.length:=by
       simp only [List.length_append,List.length_take,List.length_drop,hcc.1];omega
      simp only [fj]
      rw [ih aps _ (by rw [hL];exact hl'),hL]
     ·cases hh
  rw [hfl l aps _ (by rw [bH,hzlen];exact hl),bH,hzlen]
 have hn63:n<=maxLen:=by
  have:n * 1<=n * i.size:=Nat.mul_le_mul_left n hpos
  simp only [maxLen];omega
 have hrep:=zE hR hr hs hlen hn63
 refine bq.value _ _ (.slice (some ⟨w.heap.size,0,none⟩) n n) (bz.eM _ (hR.fresh h.next (Nat.le_refl _))) hrep ?_ ?_
 ·have:=Rv.l9 (ρ:=ρ.lN h.next (⟨w.heap.size,0,none⟩,n)) h.next 0 n w.heap.size 0 n (bz.aY _ _ _) (by omega)
  simpa using this
 ·have hps:(ps.map fun (p:Nat × Operand)=>(p.1,ce p.2)).toList=ps.toList.map fun p=>(p.1,ce p.2):=by simp
  have h24:¬(n * i.size > 2 ^ 24):=by omega
  by_cases hn0:n * i.size=0
  ·have hz0:cE z n=[]:=List.eq_nil_of_length_eq_zero (by rw [bH,hzlen];exact hn0)
   rw [hz0] at hf
   simp [Instr.buildSlice,run_underlying ht,sizeOf,typeInfo,hi,hn0,newRow,Array.range_zero',hf]
  ·have h3:=hrow zv.cells (by simp [hn0])
   have h24':¬(16777216 < n * i.size):=by omega
   simp [Instr.buildSlice,run_underlying ht,sizeOf,typeInfo,zeroValue,hi,hzv,hn0,newRow,h24']
   rw [h3,hf]
   simp
theorem D0 {w:World} {B off n:Nat} {c:Array Value} {e:TypeId} {f:Nat × Nat} (hg:w.heap[B]?=some (.cells c e f)):
  ∃f',(w.freeze ⟨B,off,none⟩ n).heap[B]?=some (.cells c e f'):=by
 unfold World.freeze
 split
 ·exact ⟨f,hg⟩
 ·simp only [Array.getElem?_modify,if_true,hg,Option.map_some]
  exact ⟨_,rfl⟩
theorem uQ {w:World} {B off n k:Nat} (hk:k≠B):(w.freeze ⟨B,off,none⟩ n).heap[k]?=w.heap[k]?:=by
 unfold World.freeze
 split
 ·rfl
 ·simp only [Array.getElem?_modify]
  rw [if_neg (by omega)]
theorem xM (w:World) (e:TypeId) (s:ByteArray):(Lib.bytesCells w e s).size=grownCap w s.size 0 e:=by
 have:=grownCap_ge w s.size 0 e
 simp [Lib.bytesCells]
 omega
theorem D1 (hR:bW P ρ N w0 h w) {src dst e:TypeId} {s:ByteArray} (hs:P.underlying src=some .string) (hd:P.underlying dst=some (.slice e)) (he:P.underlying e=some (.int .u8)) (h1:bl P e=some 1) (hm:s.size<=maxLen):
  bq P ρ N w0 (h.alloc (.cells false (s.data.toList.map fun b=>.int .u8 b.toNat) e s.size)) w (do pure (Next.value (← convert src dst (.string s)))) (.slice (some ⟨h.next,0,none⟩) s.size 0):=by
 have hrun:=Lib.run_convert_string_bytes (P:=P) w src dst e s hs hd he
 have hge:=grownCap_ge w s.size 0 e
 have hle:=bz.eM (⟨w.heap.size,0,none⟩,grownCap w s.size 0 e) (hR.fresh h.next (Nat.le_refl _))
 have hbel:Below N w (Lib.bytesWorld w e s):=by
  refine ⟨?_,?_,?_,?_,fun k hk=>Lib.bytesWorld_at_old w e s k (Nat.lt_of_lt_of_le hk hR.size)⟩
  ·unfold Lib.bytesWorld World.freeze;split<;>rfl
  ·unfold Lib.bytesWorld World.freeze;split<;>rfl
  ·unfold Lib.bytesWorld World.freeze;split<;>rfl
  ·rw [Lib.bytesWorld_size];omega
 have hrep:bW P (ρ.lN h.next (⟨w.heap.size,0,none⟩,grownCap w s.size 0 e)) N w0 (h.alloc (.cells false (s.data.toList.map fun b=>.int .u8 b.toNat) e s.size)) (Lib.bytesWorld w e s):=by
  refine hR.JC _ ⟨w.heap.size,0,none⟩ _ hbel (fun k hk _=>Lib.bytesWorld_at_old w e s k hk) ?_ (fun _=>hR.size) ?_
  ·intro j b' x hg hl hx
   obtain ⟨x',hx',hlt⟩:=(hR.blk j b' hg).DH hl
   rw [hx] at hx';cases hx'
   exact Nat.ne_of_lt hlt
  ·refine ⟨w.heap.size,0,_,_,1,bz.aY _ _ _,⟨_,Lib.bytesWorld_at_new w e s,.inr (Nat.le_refl _)⟩,?_,h1,by simp,by rw [xM,Nat.mul_one,Nat.zero_add],hge,grownCap_le_maxLen w s.size 0 e hm,by simp⟩
   have htk:((Lib.bytesCells w e s).toList.drop 0).take (s.data.toList.map fun b=>Value.int .u8 b.toNat).length=s.data.toList.map fun b=>Value.int .u8 b.toNat:=by
    simp [Lib.bytesCells]
   rw [htk]
   exact cN (p:=aS) bX (List.all_eq_true.2 fun v hv=>by obtain ⟨b,_,rfl⟩:=List.mem_map.1 hv;rfl)
 refine bq.value _ _ _ hle hrep ?_ hrun
 have:=Rv.l9 (ρ:=ρ.lN h.next (⟨w.heap.size,0,none⟩,grownCap w s.size 0 e)) h.next 0 s.size w.heap.size 0 (grownCap w s.size 0 e) (bz.aY _ _ _) (by omega)
 simpa using this
theorem jq:∀(cs:List Value) (l:List UInt8),cK cs=some l->∃ns:List Int,cs=ns.map (Value.int .u8)/\l=ns.map fun n=>UInt8.ofNat n.toNat
 | [],l,hb=>by simp only [cK,Option.some.injEq] at hb;subst hb;exact ⟨[],rfl,rfl⟩
 |v :: r,l,hb=>by
  unfold cK at hb
  split at hb
  ·rename_i h0;cases h0
  ·rename_i n r' h0
   cases h0
   obtain ⟨l',hl',rfl⟩:=aa hb
   obtain ⟨ns,rfl,rfl⟩:=jq r l' hl'
   exact ⟨n :: ns,rfl,rfl⟩
  ·cases hb
theorem GJ {ns:List Int} {ds:List Value} (hr:RL ρ (ns.map (Value.int .u8)) ds):ds=ns.map (Value.int .u8):=
 oX (p:=aS) kf (List.all_eq_true.2 fun v hv=>by obtain ⟨b,_,rfl⟩:=List.mem_map.1 hv;rfl) hr
theorem foldl_push (ns:List Int) (s:ByteArray):ns.foldl (fun r n=>r.push (UInt8.ofNat n.toNat)) s=⟨(s.data.toList++ns.map fun n=>UInt8.ofNat n.toNat).toArray⟩:=by
 induction ns generalizing s with
 |nil=>simp
 |cons n ns ih=>
  rw [List.foldl_cons,ih]
  apply ByteArray.ext
  apply Array.ext'
  simp [ByteArray.push]
theorem D2 (hR:bW P ρ N w0 h w) {src dst e:TypeId} (hs:P.underlying src=some (.slice e)) (hd:P.underlying dst=some .string) (he:P.underlying e=some (.int .u8))
  {x cx:Value} {m:Nat} {cs:List Value} {l:List UInt8} (hx:Rv ρ x cx) (hsl:x matches .slice _ _ _) (hsrc:cg h 1 x=some (m,cs)) (hb:cK cs=some l):
  bq P ρ N w0 h w (do pure (Next.value (← convert src dst cx))) (.string ⟨l.toArray⟩):=by
 refine bq.pure _ hR (.string _) ?_
 obtain ⟨ns,rfl,rfl⟩:=jq cs l hb
 cases hx with
 |AE l c=>
  rw [run_convert_bytes_string w src dst e none l c hs he hd]
  simp only [cg] at hsrc
  split at hsrc
  ·simp only [Option.some.injEq,Prod.mk.injEq] at hsrc
   obtain ⟨_,h2⟩:=hsrc
   have:ns=[]:=by simpa using h2.symm
   subst this
   rfl
  ·cases hsrc
 |slice i off len skip B O c A hρ hle hA=>
  rw [run_convert_bytes_string w src dst e _ len (fL c skip) hs he hd]
  simp only [cg] at hsrc
  have key:(loadCells ⟨B,A,none⟩ len).run P w= .ok (ns.map (Value.int .u8)).toArray w:=by
   split at hsrc
   ·rename_i h0
    simp only [Option.some.injEq,Prod.mk.injEq] at hsrc
    have:ns=[]:=by simpa using hsrc.2.symm
    subst this
    subst h0
    simp [loadCells,loadCellsFrom]
   ·rename_i h0
    obtain rfl:A=O+off:=by rcases hA with h |h<;>omega
    obtain ⟨cs,hc,he'⟩:=aa hsrc
    simp only [Prod.mk.injEq] at he'
    obtain ⟨_,rfl⟩:=he'
    obtain ⟨_,hlen,ds,hrl,hcell⟩:=uC hR hc hρ
    have:=GJ hrl
    subst this
    have h1:=run_loadCells_list (P:=P) w ⟨B,O+off,none⟩ _ hcell
    rw [hlen] at h1
    simpa using h1
  rw [run_bytesToString w _ len _ ns key,foldl_push]
  simp
 |_=>simp at hsl
theorem Lu (hR:bW P ρ N w0 h w) {t e:TypeId} (ht:P.underlying t=some (.slice e)) (he:P.underlying e=some (.int .u8)) {i off n skip:Nat} {cx:Value}
  (hx:Rv ρ (.slice (some ⟨i,off,none⟩) n skip) cx) {cs:List Value} {e':TypeId} {rows:Nat} (hg:h.get i=some (.cells true cs e' rows)):
  bq P ρ N w0 (h.set i (.ro cs)) w (do pure (Next.value (← convert t t cx))) (.slice (some ⟨i,off,none⟩) n skip):=by
 cases hx with
 |slice _ _ _ _ B O c A hρ hle hA=>
  obtain ⟨B',O',c',cur,size,e1,⟨fz,e2,_⟩,e3,e4,e5,e6⟩:=hR.blk i _ hg
  rw [hρ] at e1;cases e1
  obtain rfl:O=0:=(e6.2.2.2 rfl).2
  rw [List.drop_zero] at e3
  have hsh:w.shape? B=some (e',cur.size):=by simp [World.shape?,e2]
  obtain ⟨f',hf'⟩:=D0 (off:=cur.size) (n:=1) e2
  have hbel:Below N w (w.freeze ⟨B,cur.size,none⟩ 1):=Lib.below_freeze (p:=⟨B,cur.size,none⟩) (Below.refl N w) (hR.above i _ _ hg rfl hρ) 1
  refine bq.value ρ (w.freeze ⟨B,cur.size,none⟩ 1) _ ρ.le_refl (hR.update hg rfl (.ro cs) hρ hbel (fun k _ hk=>uQ hk) ?_) (.slice i off n skip B 0 c A hρ hle hA) ?_
  ·refine ⟨B,0,c,cur.toList.take cs.length,hρ,(Array.getElem?_eq_some_iff.1 hf').1,e3,fun j u hu=>?_⟩
   simp only [World.cell?,hf',Nat.zero_add]
   rw [List.getElem?_take] at hu
   split at hu
   ·simpa using hu
   ·cases hu
  ·simp [convert,run_underlying ht,run_underlying he,markStringish,hsh]
theorem D3 (hR:bW P ρ N w0 h w) {i:Nat} {tight:Bool} {cs:List Value} {e:TypeId} {rows:Nat} (hg:h.get i=some (.cells tight cs e rows)):
  ∃B O c n,ρ i=some (⟨B,O,none⟩,c)/\w.shape? B=some (e,n)/\(tight=true->n=cs.length/\O=0):=by
 obtain ⟨B,O,c,cur,size,e1,⟨fz,e2,_⟩,e3,e4,e5,e6,e7,e8,e9⟩:=hR.blk i _ hg
 refine ⟨B,O,c,cur.size,e1,by simp [World.shape?,e2],fun ht=>?_⟩
 obtain ⟨h1,h2⟩:=e9 ht
 exact ⟨by rw [e6,h2,h1,e5,Nat.zero_add],h2⟩
theorem Cs (hR:bW P ρ N w0 h w) {src dst t:TypeId} {sz:Nat} (hs:P.underlying src=some (.pointer t)) (hd:P.underlying dst=some .unsafePointer) (ht:bl P t=some sz) (hsz:sz≠0)
  {i off:Nat} {cx:Value} (hx:Rv ρ (.pointer (some ⟨i,off,none⟩)) cx) {cs:List Value} {e:TypeId} {rows:Nat} (hg:h.get i=some (.cells true cs e rows)) (hoff:off < cs.length):
  bq P ρ N w0 h w (do pure (Next.value (← convert src dst cx))) (.pointer (some ⟨i,off,none⟩)):=by
 obtain ⟨B,O0,c,n,hρ,hsh,hn⟩:=D3 hR hg
 have hO:=(hn rfl).2
 have hn':=(hn rfl).1
 subst hO
 obtain ⟨j,hj,rfl⟩:=mb ht
 cases hx with
 |ptr _ _ B' O c' h1=>
  rw [hρ] at h1;cases h1
  refine bq.pure _ hR (.ptr i off B 0 c hρ) ?_
  exact Lib.run_to_unsafe w ⟨B,0+off,none⟩ hs hd hj hsz hsh (by simp only;rw [hn'];omega)
theorem Ct (hR:bW P ρ N w0 h w) {src dst u:TypeId} (hs:P.underlying src=some .unsafePointer) (hd:P.underlying dst=some (.pointer u)) (hu:(P.info? u).isSome=true)
  {i off:Nat} {cx:Value} (hx:Rv ρ (.pointer (some ⟨i,off,none⟩)) cx) {cs:List Value} {e:TypeId} {rows:Nat} (hg:h.get i=some (.cells true cs e rows))
  (hl:liesAt P P.depth e (cs.length / P.cellsOf e) off u 1=true):
  bq P ρ N w0 h w (do pure (Next.value (← convert src dst cx))) (.pointer (some ⟨i,off,none⟩)):=by
 obtain ⟨B,O0,c,n,hρ,hsh,hn⟩:=D3 hR hg
 have hO:=(hn rfl).2
 have hn':=(hn rfl).1
 subst hO
 obtain ⟨j,hj⟩:=Option.isSome_iff_exists.1 hu
 cases hx with
 |ptr _ _ B' O c' h1=>
  rw [hρ] at h1;cases h1
  refine bq.pure _ hR (.ptr i off B 0 c hρ) ?_
  refine Lib.run_from_unsafe w ⟨B,0+off,none⟩ hs hd hj hsh ?_
  simp only [Nat.zero_add]
  rw [hn'];exact hl
theorem qP:∀(ns:List Int) (a:Addr) (acc:ByteArray),(∀j x,ns[j]?=some x->w.cell? (a.add j)=some (.int .u8 x))->
  (loadBytes a acc ns.length).run P w= .ok ⟨acc.data++(ns.map fun n=>UInt8.ofNat n.toNat).toArray⟩ w
 | [],a,acc,_=>by simp [loadBytes]
 |x :: l,a,acc,h=>by
  have h0:w.cell? a=some (.int .u8 x):=by
   have:=h 0 x rfl
   simpa [Addr.add] using this
  have ih:=qP l (a.add 1) (acc.push (UInt8.ofNat x.toNat)) (fun j y hy=>by
   have:=h (j+1) y (by simpa using hy)
   have e:(a.add 1).add j=a.add (j+1):=by
    unfold Addr.add
    by_cases hj:j=0
    ·subst hj;simp
    ·simp [hj];omega
   rw [e];exact this)
  simp only [List.length_cons,loadBytes,Sem.run_bind,run_load,h0,Result.andThen]
  have hx:x.toNat.toUInt8=UInt8.ofNat x.toNat:=rfl
  rw [hx,ih]
  congr 1
  apply ByteArray.ext
  simp [ByteArray.push]
theorem FA {e:TypeId} (hc:P.cellsOf e=1) (count o n:Nat) (hn:o+n<=count):liesAt P P.depth e count o e n=true:=by
 have hd:P.depth=(2 * (P.types.size+Made.depth)+1)+1:=rfl
 rw [hd]
 simp only [liesAt,Bool.or_eq_true]
 left
 rw [hd]
 simp [rowAt,hc,hn,sameLayout,Nat.mod_one]
theorem FB (hR:bW P ρ N w0 h w) {pt it ty e:TypeId} (hp:P.underlying pt=some (.pointer e)) (hc:P.cellsOf e=1)
  {i:Nat} {cx:Value} (hx:Rv ρ (.pointer (some ⟨i,0,none⟩)) cx) {tight:Bool} {cs:List Value} {rows:Nat} (hg:h.get i=some (.cells tight cs e rows))
  {n:Nat} (h0:0 < n) (hn:n<=cs.length) (hm:n<=maxLen) {l:List UInt8} (hb:cK (cs.take n)=some l):
  bq P ρ N w0 (h.set i .dead) w (do pure (Next.value (← Builtin.unsafeString_ #[pt,it] ty #[cx,.int .i64 n]))) (.string ⟨l.toArray⟩):=by
 obtain ⟨ns,hns,rfl⟩:=jq _ _ hb
 cases hx with
 |ptr _ _ B O c hρ=>
  obtain ⟨B',O',c',cur,size,e1,⟨fz,e2,_⟩,e3,e4,e5,e6⟩:=hR.blk i _ hg
  rw [hρ] at e1;cases e1
  have hlen:ns.length=n:=by
   have:=congrArg List.length hns
   simp at this;omega
  have hcn:O+cs.length<=cur.size\/cs.length=0:=by have:=e3.length;simp at this;omega
  have hcn:O+cs.length<=cur.size:=by omega
  have hrl:RL ρ (ns.map (Value.int .u8)) ((cur.toList.drop O).take n):=by
   rw [← hns]
   have:=e3.take n
   rwa [List.take_take,Nat.min_eq_left hn] at this
  have hcur:=GJ hrl
  have hcell:∀j x,ns[j]?=some x->w.cell? ((⟨B,O+0,none⟩:Addr).add j)=some (.int .u8 x):=fun j x hj=>by
   rw [Addr.add_lit]
   simp only [World.cell?,e2,Nat.add_zero]
   have hjn:j < n:=by have:=(List.getElem?_eq_some_iff.1 hj).1;omega
   have h1:((cur.toList.drop O).take n)[j]?=some (.int .u8 x):=by rw [hcur];simp [hj]
   rw [List.getElem?_take,if_pos hjn,List.getElem?_drop] at h1
   simpa using h1
  have hlb:=qP (P:=P) (w:=w) ns ⟨B,O+0,none⟩ .empty hcell
  rw [hlen] at hlb
  have hsh:w.shape? B=some (e,cur.size):=by simp [World.shape?,e2]
  have hlies:=FA (P:=P) hc (cur.size / P.cellsOf e) O n (by rw [hc];simp;omega)
  have h63':¬(9223372036854775807:Int) < (n:Int):=by simp only [maxLen] at hm;omega
  have hmax:IntKind.i64.max=9223372036854775807:=rfl
  have hneg:¬(n:Int) < 0:=by omega
  have hn0:n≠0:=by omega
  have hdef:Builtin.unsafeString_ #[pt,it] ty #[.pointer (some ⟨B,O+0,none⟩),.int .i64 n]=
    (do
     let n ← asInt (.int .i64 n)
     if n < 0 then runtimePanic (.error "unsafe.String: len out of range")
     if n > IntKind.i64.max then unsupported (.unsafePointer "String: a length above the largest int")
     if n=0 then pure (.string .empty)
     else if ← variablesAt ⟨B,O+0,none⟩ (← elemOf pt) n.toNat then do
      let s ← loadBytes ⟨B,O+0,none⟩ .empty n.toNat
      freeze ⟨B,O+0,none⟩ n.toNat
      pure (.string s)
     else unsupported (.unsafePointer "String: not so many bytes at ptr")):=rfl
  have hrun:(Builtin.unsafeString_ #[pt,it] ty #[.pointer (some ⟨B,O+0,none⟩),.int .i64 n]).run P w=
    .ok (.string ⟨(ns.map fun n=>UInt8.ofNat n.toNat).toArray⟩) (w.freeze ⟨B,O+0,none⟩ n):=by
   rw [hdef]
   simp [asInt,asIntOf,hmax,h63',hneg,hn0,variablesAt,hsh,elemOf,run_underlying hp,hlies]
   simp only [Nat.add_zero] at hlb
   rw [hlb]
   simp
  have hbel:Below N w (w.freeze ⟨B,O+0,none⟩ n):=Lib.below_freeze (p:=⟨B,O+0,none⟩) (Below.refl N w) (hR.above i _ _ hg rfl hρ) n
  exact bq.value ρ _ _ ρ.le_refl (hR.update hg rfl .dead hρ hbel (fun k _ hk=>uQ hk) trivial) (.string _) hrun
theorem Lv (l:List UInt8) (c:UInt8):∀k,C3 l c k=if Lib.indexByte l c=-1 then -1 else Lib.indexByte l c+k:=by
 induction l with
 |nil=>intro k;simp [C3,Lib.indexByte]
 |cons b l ih=>
  intro k
  simp only [C3,Lib.indexByte]
  have hge:=Lib.indexByte_ge l c
  by_cases hb:(b == c)=true
  ·simp [hb]
  ·simp only [hb,Bool.false_eq_true,if_false,ih]
   by_cases h1:Lib.indexByte l c=-1
   ·simp [h1]
   ·have h2:(Lib.indexByte l c == -1)=false:=by simpa using h1
    simp only [h1,h2,if_false,Bool.false_eq_true]
    have h3:¬(Lib.indexByte l c+1=-1):=by omega
    rw [if_neg h3]
    omega
theorem Pp:Extern.allNextRows.lookup "internal/abi.NoEscape"=none:=by kernel_rfl
theorem Pq:Extern.allNextRows.lookup "internal/bytealg.IndexByteString"=none:=by kernel_rfl
theorem Pr:Extern.allNextRows.lookup "internal/bytealg.MakeNoZero"=none:=by kernel_rfl
theorem OL:Extern.allNextRows.lookup ""=none:=by kernel_rfl
theorem Pt:Extern.allGenericRows.lookup "internal/abi.NoEscape"=none:=by kernel_rfl
theorem Pu:Extern.allGenericRows.lookup "internal/bytealg.IndexByteString"=none:=by kernel_rfl
theorem Pv:Extern.allGenericRows.lookup "internal/bytealg.MakeNoZero"=none:=by kernel_rfl
theorem Pw:Extern.allTypedRows.lookup "internal/abi.NoEscape"=none:=by kernel_rfl
theorem Px:Extern.allTypedRows.lookup "internal/bytealg.IndexByteString"=none:=by kernel_rfl
theorem OM:Extern.allTypedRows.lookup "internal/bytealg.MakeNoZero"=some Extern.BytealgMakeNoZero.makeNoZero:=by kernel_rfl
theorem ON:Extern.allRows.lookup "internal/abi.NoEscape"=some Extern.AbiNoEscape.same:=by kernel_rfl
theorem OO:Extern.allRows.lookup "internal/bytealg.IndexByteString"=some Extern.BytealgIndexByte.indexByte:=by kernel_rfl
theorem AK (fn:Func) (hn:fn.name= "internal/abi.NoEscape") (ho:fn.origin= ""):Extern.findNext fn=none/\Extern.find fn=some Extern.AbiNoEscape.same:=by
 simp only [Extern.findNext,Extern.find,hn,ho,Pp,OL,Pt,Pw,ON]
 exact ⟨rfl,rfl⟩
theorem zI (fn:Func) (hn:fn.name= "internal/bytealg.IndexByteString") (ho:fn.origin= ""):Extern.findNext fn=none/\Extern.find fn=some Extern.BytealgIndexByte.indexByte:=by
 simp only [Extern.findNext,Extern.find,hn,ho,Pq,OL,Pu,Px,OO]
 exact ⟨rfl,rfl⟩
theorem xN (fn:Func) (hn:fn.name= "internal/bytealg.MakeNoZero") (ho:fn.origin= ""):Extern.findNext fn=none/\Extern.find fn=some (Extern.BytealgMakeNoZero.makeNoZero fn.params fn.resultTypes):=by
 simp only [Extern.findNext,Extern.find,hn,ho,Pr,OL,Pv,OM]
 exact ⟨rfl,rfl⟩
theorem tF {fn:Func} {f:FuncId} {e:Array Value->Sem Value} {args:Array Value} (hf:P.funcs[f]?=some fn) (hb:fn.body.isNone=true) (hr:(fn.name == "runtime.NumGoroutine")=false)
  (h1:Extern.findNext fn=none) (h2:Extern.find fn=some e) {u:Value} {w':World} (hrun:(e args).run P w= .ok u w'):(callFunc f args).run P w= .ok (.value u) w':=by
 rw [run_callFunc_extern hf hr hb h1 h2,hrun]
 rfl
end Go.Ev
