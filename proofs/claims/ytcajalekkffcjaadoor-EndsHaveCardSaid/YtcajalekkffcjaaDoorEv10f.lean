/- The evaluator over a small code, and that what it finds of a call holds of the machine, part 10f. -/
import Derived.Test.YtcajalekkffcjaaDoorEv10
namespace Go.Ev
open Go Go.RowKit
variable {P:Program} {ρ:bz} {N:Nat} {w0 w:World} {h h':H}
theorem yy (hR:bW P ρ N w0 h w) {r:Nat} (hr0:h.get r=none) (hρ0:ρ r=none) (hlt0:r < h.next) {t e:TypeId} {i:TypeInfo} {z:List Value} (ht:P.underlying t=some (.slice e)) (hi:P.info? e=some i) (hz:mV P e=some z)
  {k k':IntKind} {l:Int} (h0:0<=l) (hb:l.toNat * i.bytes<=cF) (hm:l.toNat<=maxLen):
  bq P ρ N w0 (h.set r (.cells true (cE z l.toNat) e l.toNat)) w (do pure (Next.value (← Instr.makeSlice t (.int k l) (.int k' l)))) (.slice (some ⟨r,0,none⟩) l.toNat 0):=by
 obtain ⟨i',zv,hi',hzv,hzl,hzs,hzlen⟩:=fU hz
 rw [hi] at hi';cases hi'
 have hzsize:zv.cells.size=i.size:=by rw [← hzlen,← hzl];simp
 have hw:=C7 h0 hm
 obtain ⟨n,rfl⟩:=Int.eq_ofNat_of_zero_le h0
 simp only [Int.toNat_natCast] at hb hm ⊢
 have hbig:¬((281474976710656:Int) < (i.bytes:Int) * (n:Int)):=by
  have:i.bytes * n<=140737488355328:=by rw [Nat.mul_comm];exact hb
  omega
 have hneg:¬((n:Int) < 0):=by omega
 have hrow:(Array.range (n * i.size)).map (fun x=>zv.cells[x % zv.cells.size]!)=(cE z n).toArray:=by
  apply Array.ext'
  rw [← hzsize,ug,hzl]
 have hst:bl P e=some i.size:=by simp [bl,hi]
 have hrl:RL ρ (cE z n) (cE z n).toArray.toList:=by
  simpa using cN bX (rD hzs n)
 have hrep:=sY hR hr0 hρ0 hlt0 hrl hst (by rw [bH,hzlen]) hm
 refine bq.value _ _ (.slice (some ⟨w.heap.size,0,none⟩) n n) (bz.eM _ hρ0) hrep ?_ ?_
 ·have:=Rv.l9 (ρ:=ρ.lN r (⟨w.heap.size,0,none⟩,n)) r 0 n w.heap.size 0 n (bz.aY _ _ _) (by omega)
  simpa using this
 ·by_cases hn0:n * i.size=0
  ·have hrow0:(cE z n).toArray=#[]:=by
    have:(cE z n).length=0:=by rw [bH,hzlen];exact hn0
    simpa using List.eq_nil_of_length_eq_zero this
   rw [hrow0]
   simp [Instr.makeSlice,run_underlying ht,asInt,asIntOf,sizeOf,typeInfo,hi,hw,hbig,hneg,hn0,newRow,Array.range_zero']
  ·simp [Instr.makeSlice,run_underlying ht,asInt,asIntOf,sizeOf,typeInfo,zeroValue,hi,hzv,hw,hbig,hneg,hn0,newRow,hrow]
theorem xH (hR:bW P ρ N w0 h w) {r:Nat} (hr0:h.get r=none) (hρ0:ρ r=none) (hlt0:r < h.next) {t e:TypeId} {size n:Nat} {z:List Value} (ht:P.underlying t=some (.slice e)) (hs:bl P e=some size) (hz:mV P e=some z)
  (hle:n * size<=16777216) (hpos:0 < size) {ts:List Value} {ce:Operand->Value} {ps:Array (Nat × Operand)} {aps:List (Nat × Nat × Operand)} {l:List (Nat × List Value)}
  (hc:oH (fun i=>some (i * size,size)) ps.toList=some aps) (hl:cJ ts (n * size) aps=some l) (hrel:∀p∈ps.toList,Rv ρ (aj ts p.2) (ce p.2)):
  bq P ρ N w0 (h.set r (.cells true (fj (cE z n) l) e n)) w (do pure (Next.value (← Instr.buildSlice t n (ps.map fun (i,x)=>(i,ce x))))) (.slice (some ⟨r,0,none⟩) n 0):=by
 obtain ⟨i,zv,hi,hzv,hzl,hzs,hzlen⟩:=fU hz
 obtain ⟨i',hi',hsz⟩:=mb hs
 rw [hi] at hi';cases hi'
 subst hsz
 have hzsize:zv.cells.size=i.size:=by rw [← hzlen,← hzl];simp
 have hrl:RL ρ (cE z n) (cE z n):=cN bX (rD hzs n)
 have hrow:∀c:Array Value,(if n * i.size=0 then c=#[] else c=zv.cells)->(Array.range (n * i.size)).map (fun x=>c[x % c.size]!)=(cE z n).toArray:=fun c hc=>by
  split at hc
  ·rename_i h0
   rw [h0]
   have:(cE z n).length=0:=by rw [bH,hzlen];exact h0
   simp [Array.range_zero',List.eq_nil_of_length_eq_zero this]
  ·subst hc
   apply Array.ext'
   rw [← hzsize,ug,hzl]
 obtain ⟨cells',hf,hr⟩:=uh (ce:=ce) ps.toList aps l (cE z n) (cE z n).toArray hc (by rw [bH,hzlen];exact hl) hrel (by simpa using hrl)
 have hlen:(fj (cE z n) l).length=n * i.size:=by
  have hfl:∀(l:List (Nat × List Value)) (aps:List (Nat × Nat × Operand)) (zs:List Value),cJ ts zs.length aps=some l->(fj zs l).length=zs.length:=by
   intro l
   induction l with
   |nil=>intro aps zs _;rfl
   |cons p l ih=>
    intro aps zs hh
    obtain ⟨off,xs⟩:=p
    cases aps with
    |nil=>simp [cJ] at hh
    |cons q aps=>
     obtain ⟨o,s,x⟩:=q
     simp only [cJ] at hh
     split at hh
     ·rename_i hcc
      simp only [Bool.and_eq_true,decide_eq_true_eq] at hcc
      obtain ⟨l',hl',he⟩:=aa hh
      have hle:=Nat.le_of_ble_eq_true hcc.2
      simp only [List.cons.injEq,Prod.mk.injEq] at he
      obtain ⟨⟨rfl,rfl⟩,rfl⟩:=he
      have hL:(zs.take o++aX (aj ts x)++zs.drop (o+(aX (aj ts x)).length)).length=zs.length:=by
       simp only [List.length_append,List.length_take,List.length_drop,hcc.1];omega
      simp only [fj]
      rw [ih aps _ (by rw [hL];exact hl'),hL]
     ·cases hh
  rw [hfl l aps _ (by rw [bH,hzlen];exact hl),bH,hzlen]
 have hn63:n<=maxLen:=by
  have:n * 1<=n * i.size:=Nat.mul_le_mul_left n hpos
  simp only [maxLen];omega
 have hrep:=sY hR hr0 hρ0 hlt0 hr hs hlen hn63
 refine bq.value _ _ (.slice (some ⟨w.heap.size,0,none⟩) n n) (bz.eM _ hρ0) hrep ?_ ?_
 ·have:=Rv.l9 (ρ:=ρ.lN r (⟨w.heap.size,0,none⟩,n)) r 0 n w.heap.size 0 n (bz.aY _ _ _) (by omega)
  simpa using this
 ·have hps:(ps.map fun (p:Nat × Operand)=>(p.1,ce p.2)).toList=ps.toList.map fun p=>(p.1,ce p.2):=by simp
  have h24:¬(n * i.size > 2 ^ 24):=by omega
  by_cases hn0:n * i.size=0
  ·have hz0:cE z n=[]:=List.eq_nil_of_length_eq_zero (by rw [bH,hzlen];exact hn0)
   rw [hz0] at hf
   simp [Instr.buildSlice,run_underlying ht,sizeOf,typeInfo,hi,hn0,newRow,Array.range_zero',hf]
  ·have h3:=hrow zv.cells (by simp [hn0])
   have h24':¬(16777216 < n * i.size):=by omega
   simp [Instr.buildSlice,run_underlying ht,sizeOf,typeInfo,zeroValue,hi,hzv,hn0,newRow,h24']
   rw [h3,hf]
   simp
theorem Hj (hR:bW P ρ N w0 h w) {r:Nat} (hr0:h.get r=none) (hρ0:ρ r=none) (hlt0:r < h.next) {ts:List Value} {ce:Operand->Value} {o:Oper} {ao:j8} (hc:dQ P o=some ao)
  (hrel:∀x∈o.op.operands,Rv ρ (aj ts x) (ce x)) {v:Value} {ob:Option eo} (hx:eN r ts ao=some (v,ob)):bq P ρ N w0 (Ge h r ob) w (execOp ce o) v:=by
 obtain ⟨dst,op,ty,pos,after,guard⟩:=o
 cases op<;>simp only [dQ] at hc<;>(try (cases hc;done))<;>simp only [Op.operands] at hrel
 case alloc e=>
  obtain ⟨z,hz,rfl⟩:=aa hc
  simp only [eN,Option.some.injEq,Prod.mk.injEq] at hx
  obtain ⟨rfl,rfl⟩:=hx
  exact (EV hR hr0 hρ0 hlt0 hz).cj fun _=>rfl
 case box e x=>
  obtain ⟨n,hn,rfl⟩:=aa hc
  simp only [eN] at hx
  split at hx
  ·rename_i hl
   cases hx
   exact (IV hR hr0 hρ0 hlt0 (by rw [hl];exact hn) (hrel x (by simp))).cj fun _=>rfl
  ·cases hx
 case buildSlice t n ps=>
  split at hc
  ·rename_i e ht
   split at hc
   ·rename_i s z hs hz
    split at hc
    ·rename_i hle
     obtain ⟨aps,haps,rfl⟩:=aa hc
     simp only [eN] at hx
     obtain ⟨l,hl,he⟩:=aa hx
     cases he
     exact (xH hR hr0 hρ0 hlt0 ht hs hz hle.1 hle.2 haps hl fun p hp=>hrel p.2 (by simp;exact ⟨p.1,by simpa using hp⟩)).cj fun _=>rfl
    ·cases hc
   ·cases hc
  ·cases hc
 case makeSlice t l c=>
  split at hc
  ·rename_i e ht
   split at hc
   ·rename_i i z hi hz
    split at hc
    ·cases hc
     simp only [eN] at hx
     split at hx
     ·rename_i k1 l' k2 c' hl hcv
      split at hx
      ·rename_i hcond
       obtain ⟨h0,rfl,hb,hm⟩:=hcond
       cases hx
       have h1:=hrel l (by simp)
       rw [hl] at h1
       have h1:=kf rfl h1
       have h2:=hrel c (by simp)
       rw [hcv] at h2
       have h2:=kf rfl h2
       exact (yy (k:=k1) (k':=k2) hR hr0 hρ0 hlt0 ht hi hz h0 hb hm).cj fun w=>by simp [execOp,h1,h2]
      ·cases hx
     ·cases hx
    ·cases hc
   ·cases hc
  ·cases hc
 case slice t x lo hi mx=>
  cases mx with
  |some m=>
   cases hi with
   |none=>simp only at hc;cases hc
   |some hh=>
    simp only at hc
    split at hc
    ·obtain ⟨_,_,rfl⟩:=aa hc
     simp only [eN] at hx;cases hx
    ·cases hc
  |none=>
   simp only at hc
   split at hc
   ·obtain ⟨_,_,rfl⟩:=aa hc
    simp only [eN] at hx;cases hx
   ·cases hc;simp only [eN] at hx;cases hx
   ·obtain ⟨_,_,rfl⟩:=aa hc
    simp only [eN] at hx;cases hx
   ·cases hc
 case call c=>
  have:fV ao=false:=by
   unfold gT at hc
   (repeat' (split at hc))<;>first
    |(cases hc;done)
    |(cases hc;rfl)
    |(cases hc;rcases lu P _ _ with e |⟨_,_,_,e⟩<;>rw [e]<;>rfl)
    |(rcases oF hc with ⟨x,e⟩ |⟨x,y,e⟩ |⟨e,x,e⟩<;>cases e<;>rfl)
  cases ao<;>simp only [fV,Bool.true_eq_false] at this<;>simp only [eN] at hx<;>cases hx
 case makeFunc fn x y=>
  cases fn<;>simp only at hc<;>cases hc
  simp only [eN] at hx
  cases hx
 case makeMap t r=>
  cases r<;>simp only at hc<;>cases hc
  simp only [eN] at hx
  cases hx
 case next it b=>
  cases b<;>simp only at hc<;>cases hc
  simp only [eN] at hx
  cases hx
 all_goals
  (try (split at hc))
  all_goals (repeat' (split at hc))<;>first
   |(cases hc;done)
   |(cases hc;simp only [eN] at hx;cases hx;done)
   |(obtain ⟨_,_,rfl⟩:=aa hc;simp only [eN] at hx;cases hx;done)
end Go.Ev
