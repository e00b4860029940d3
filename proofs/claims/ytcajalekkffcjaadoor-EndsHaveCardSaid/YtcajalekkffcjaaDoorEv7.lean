/- The evaluator over a small code, and that what it finds of a call holds of the machine, part 7. -/
import Derived.Test.YtcajalekkffcjaaDoorEv6
namespace Go.Ev
open Go Go.RowKit
variable {P:Program} {ρ:bz} {N:Nat} {w0 w:World} {h h':H}
theorem bq.cj {s s':Sem Next} {v:Value} (hs:∀w,s'.run P w=s.run P w) (ho:bq P ρ N w0 h' w s v):bq P ρ N w0 h' w s' v:=by
 obtain ⟨ρ',w',nx,u,a,b,c,d,e⟩:=ho
 exact ⟨ρ',w',nx,u,a,b,c,(hs w).trans d,e⟩
section
variable {ts:List Value} {ce:Operand->Value}
theorem ko {i off:Nat} {s:Option Nat} {u:Value} (hr:Rv ρ (.pointer (some ⟨i,off,s⟩)) u):s=none/\∃B O c,ρ i=some (⟨B,O,none⟩,c)/\u= .pointer (some ⟨B,O+off,none⟩):=by
 cases hr with
 |ptr _ _ B O c h=>exact ⟨rfl,B,O,c,h,rfl⟩
theorem rP {i off len skip:Nat} {s:Option Nat} {u:Value} (hr:Rv ρ (.slice (some ⟨i,off,s⟩) len skip) u):
  s=none/\∃B O c A,ρ i=some (⟨B,O,none⟩,c)/\len<=fL c skip/\(A=O+off\/fL c skip=0)/\u= .slice (some ⟨B,A,none⟩) len (fL c skip):=by
 cases hr with
 |slice _ _ _ _ B O c A h hl hA=>exact ⟨rfl,B,O,c,A,h,hl,hA,rfl⟩
theorem tj {i off len skip:Nat} {s:Option Nat} {u:Value} (hr:Rv ρ (.slice (some ⟨i,off,s⟩) len skip) u) (h0:len≠0):
  s=none/\∃B O c,ρ i=some (⟨B,O,none⟩,c)/\len<=fL c skip/\u= .slice (some ⟨B,O+off,none⟩) len (fL c skip):=by
 obtain ⟨h1,B,O,c,A,h2,h3,h4,h5⟩:=rP hr
 rcases h4 with rfl |h4
 ·exact ⟨h1,B,O,c,h2,h3,h5⟩
 ·omega
theorem jr {k:IntKind} {n:Int} {u:Value} (hr:Rv ρ (.int k n) u):u= .int k n:=by cases hr;rfl
theorem J4 {b:Bool} {u:Value} (hr:Rv ρ (.bool b) u):u= .bool b:=by cases hr;rfl
theorem tG {s:ByteArray} {u:Value} (hr:Rv ρ (.string s) u):u= .string s:=by cases hr;rfl
theorem J5 (hR:bW P ρ N w0 h w) {xt:TypeId} {fs:Array Field} {f:Nat} {fd:Field} {agg:Bool} {n:Nat} (ht:P.underlying xt=some (.struct fs)) (hf:fs[f]?=some fd) (hl:loadT P fd.type=some (agg,n))
  {cs:Array Value} {cx v:Value} (hx:Rv ρ (.agg cs) cx) (hle:fd.offset+n<=cs.toList.length)
  (hv:(if agg then some (Value.agg ((cs.toList.drop fd.offset).take n).toArray,h) else (one ((cs.toList.drop fd.offset).take n)).map fun v=>(v,h))=some (v,h')):
  bq P ρ N w0 h' w (do pure (Next.value (← Instr.field xt cx f))) v:=by
 obtain ⟨h1,h2,h3⟩:=zD hl
 cases hx with
 |agg _ b hr=>
 have hlen:=hr.length
 have hrl:=(hr.drop fd.offset).take n
 cases agg with
 |true=>
  simp only [if_true,Option.some.injEq,Prod.mk.injEq] at hv
  obtain ⟨rfl,rfl⟩:=hv
  refine bq.pure (.agg (b.extract fd.offset (fd.offset+n))) hR (.agg _ _ ?_) ?_
  ·have:(b.extract fd.offset (fd.offset+n)).toList=(b.toList.drop fd.offset).take n:=by simp
   rw [this];exact hrl
  ·simp [Instr.field,run_underlying ht,hf,asAgg,part,jo h1,bQ h2]
 |false=>
  have hn:=h3 rfl
  subst hn
  simp only [Bool.false_eq_true,if_false] at hv
  obtain ⟨v',hv',he⟩:=aa hv
  simp only [Prod.mk.injEq] at he
  obtain ⟨rfl,rfl⟩:=he
  have:=DX hv'
  rw [this] at hrl
  have hget:∃u,b.toList[fd.offset]?=some u/\Rv ρ v' u:=by
   refine hr.get fd.offset ?_
   have h0:(cs.toList.drop fd.offset)[0]?=some v':=by
    have:((cs.toList.drop fd.offset).take 1)[0]?=some v':=by rw [this];rfl
    rwa [List.getElem?_take,if_pos (by omega)] at this
   rwa [List.getElem?_drop,Nat.add_zero] at h0
  obtain ⟨u,hu,hru⟩:=hget
  have hu':b[fd.offset]?=some u:=by simpa using hu
  exact bq.pure u hR hru (by simp [Instr.field,run_underlying ht,hf,asAgg,part,jo h1,hu'])
theorem Cu (hR:bW P ρ N w0 h w) {xt:TypeId} {fs:Array Field} {f:Nat} {fd:Field} {sz:Nat} (ht:P.underlying xt=some (.struct fs)) (hf:fs[f]?=some fd) (hs:bl P fd.type=some sz) (hsz:sz≠0)
  {i off:Nat} {cx:Value} (hx:Rv ρ (.pointer (some ⟨i,off,none⟩)) cx):
  bq P ρ N w0 h w (do pure (Next.value (← Instr.fieldAt xt cx f))) (.pointer (some ⟨i,off+fd.offset,none⟩)):=by
 obtain ⟨_,B,O,c,hρ,rfl⟩:=ko hx
 refine bq.pure (.pointer (some ⟨B,O+(off+fd.offset),none⟩)) hR (.ptr i _ B O c hρ) ?_
 simp [Instr.fieldAt,run_underlying ht,hf,Instr.sureAddr,fieldPlace,bQ hs,hsz,Addr.add_lit,Nat.add_assoc]
theorem FC (hR:bW P ρ N w0 h w) {t e:TypeId} {size:Nat} (ht:P.underlying t=some (.slice e)) (hs:bl P e=some size) {x:Operand} {lo hi:Option Operand}
  (hx:Rv ρ (aj ts x) (ce x)) (hlo:∀y∈lo,Rv ρ (aj ts y) (ce y)) (hhi:∀y∈hi,Rv ρ (aj ts y) (ce y)) {v:Value}
  (hv:af P ts h (.gI size x lo hi)=some (v,h')):bq P ρ N w0 h' w (do pure (Next.value (← Instr.sliceAt t (ce x) (lo.map ce) (hi.map ce) none))) v:=by
 simp only [af] at hv
 generalize hax:aj ts x=ax at hx hv
 generalize ce x=cx at hx
 split at hv
 ·cases hx
  split at hv
  ·rename_i hl hu
   cases hv
   have hb:=fun w=>pR (P:=P) (cap:=0) hl hu hlo hhi (Nat.le_refl _) (Nat.le_refl _) w
   refine bq.pure _ hR (.AE 0 0) ?_
   rw [w6 ht hs hb]
   simp
  ·cases hv
 ·rename_i a len skip
  obtain ⟨i,off,s⟩:=a
  obtain ⟨rfl,B,O,c,A,hρ,hle,hA,rfl⟩:=rP hx
  split at hv
  ·rename_i l u hl hu
   split at hv
   ·rename_i hc
    obtain ⟨h1,h2,_⟩:=hc
    have hb:=fun w=>pR (P:=P) (cap:=fL c skip) hl hu hlo hhi h1 (by omega) w
    have hrun:=w6 (a:=some ⟨B,A,none⟩) ht hs hb w
    cases hv
    have hcs:=Cm (c:=c) (sk:=skip) (l:=l) (by omega)
    have hgo:∀A',(A'=O+(off+l * size)\/fL c (qs skip l)=0)->Rv ρ (.slice (some ⟨i,off+l * size,none⟩) (u - l) (qs skip l)) (.slice (some ⟨B,A',none⟩) (u - l) (fL c skip - l)):=fun A' hA'=>by
     have:=Rv.slice (ρ:=ρ) i (off+l * size) (u - l) (qs skip l) B O c A' hρ (by rw [hcs];omega) hA'
     rwa [hcs] at this
    by_cases he:fL c skip=l
    ·rw [if_pos he] at hrun
     exact bq.pure _ hR (hgo A (.inr (by rw [hcs];omega))) hrun
    ·rw [if_neg he] at hrun
     refine bq.pure _ hR ?_ hrun
     simp only [Option.map_some,Addr.add_lit]
     rcases hA with rfl |hA
     ·exact hgo _ (.inl (by omega))
     ·omega
   ·cases hv
  ·cases hv
 ·cases hv
theorem Lw {op:BinOp} (hop:op= .eql\/op= .neq) {t:TypeId} {cx cy:Value} {r:Bool} (hg:∀x y,eqGuard op t x y cx cy=pure ()) (hb:∀op',(op'=BinOp.eql\/op'=BinOp.neq)->binOp op' t cx cy=(if op'= .neq then (do pure (.bool (!(← Op.equal t cx cy)))) else (do pure (.bool (← Op.equal t cx cy)))))
  (he:∀d,(Op.equalIn (d+1) t cx cy).run P w= .ok r w) {x y:Operand} (yt:TypeId) (hx:ce x=cx) (hy:ce y=cy) (dst:Option Tmp) (ty:TypeId) (pos:String) (after:Array Edge) (guard:Option (Nat × Bool)):
  (execOp ce {dst,op:=.binOp op t x y yt,type:=ty,pos,after,guard}).run P w= .ok (.value (.bool (decide (op= .neq) != r))) w:=by
 have h1:=he 9999
 rcases hop with rfl |rfl
 ·simp [execOp,hx,hy,hg,hb,Op.equal,Op.maxDepth,h1]
 ·simp [execOp,hx,hy,hg,hb,Op.equal,Op.maxDepth,h1]
def kindOk (P:Program):Nat->TypeDesc->Prop
 | 0,.pointer e=>∃sz,bl P e=some sz/\sz≠0
 | 1,.slice _=>True
 | 2,.func _ _ _=>True
 |_,_=>False
theorem zJ (hR:bW P ρ N w0 h w) {op:BinOp} (hop:op= .eql\/op= .neq) {t:TypeId} {d:TypeDesc} (ht:P.underlying t=some d) {kind:Nat} (hd:kindOk P kind d)
  {x y:Operand} {yt:TypeId} (hx:Rv ρ (aj ts x) (ce x)) (hy:Rv ρ (aj ts y) (ce y)) {v:Value}
  (hv:af P ts h (.nK kind (decide (op= .neq)) x y)=some (v,h')) (dst:Option Tmp) (ty:TypeId) (pos:String) (after:Array Edge) (guard:Option (Nat × Bool)):
  bq P ρ N w0 h' w (execOp ce {dst,op:=.binOp op t x y yt,type:=ty,pos,after,guard}) v:=by
 have fin:∀(r:Bool) (cx cy:Value),ce x=cx->ce y=cy->(∀x y,eqGuard op t x y cx cy=pure ())->
   (∀op',(op'=BinOp.eql\/op'=BinOp.neq)->binOp op' t cx cy=(if op'= .neq then (do pure (.bool (!(← Op.equal t cx cy)))) else (do pure (.bool (← Op.equal t cx cy)))))->
   (∀d,(Op.equalIn (d+1) t cx cy).run P w= .ok r w)->some (Value.bool (decide (op= .neq) != r),h)=some (v,h')->
   bq P ρ N w0 h' w (execOp ce {dst,op:=.binOp op t x y yt,type:=ty,pos,after,guard}) v:=by
  intro r cx cy h1 h2 h3 h4 h5 h6
  cases h6
  exact ⟨ρ,w,_,_,ρ.le_refl,hR,.bool _,Lw hop h3 h4 h5 yt h1 h2 dst ty pos after guard,.inl rfl⟩
 generalize hcx:ce x=cx at hx
 generalize hcy:ce y=cy at hy
 simp only [af] at hv
 split at hv
 ·rename_i b hax hay
  rw [hax] at hx;rw [hay] at hy
  cases d<;>simp only [kindOk] at hd
  rename_i e
  obtain ⟨sz,hsz,hsz0⟩:=hd
  cases hx
  cases hy with
  |Fk=>exact fin true _ _ hcx hcy (fun _ _=>eqGuard_at_pointer ..) (fun op' ho=>by rcases ho with rfl |rfl<;>simp [binOp]) (fun d=>by simp [Op.equalIn,run_underlying ht]) hv
  |ptr i off B O c hρ=>exact fin false _ _ hcx hcy (fun _ _=>eqGuard_at_pointer ..) (fun op' ho=>by rcases ho with rfl |rfl<;>simp [binOp]) (fun d=>by simp [Op.equalIn,run_underlying ht]) hv
 ·rename_i a hax hay
  rw [hax] at hx;rw [hay] at hy
  cases d<;>simp only [kindOk] at hd
  cases hx with
  |ptr i off B O c hρ=>
   cases hy
   exact fin false _ _ hcx hcy (fun _ _=>eqGuard_at_pointer ..) (fun op' ho=>by rcases ho with rfl |rfl<;>simp [binOp]) (fun d=>by simp [Op.equalIn,run_underlying ht]) hv
 ·rename_i a b hax hay
  rw [hax] at hx;rw [hay] at hy
  cases d<;>simp only [kindOk] at hd
  rename_i e
  obtain ⟨sz,hsz,hsz0⟩:=hd
  split at hv
  ·rename_i hab
   subst hab
   cases hx with
   |ptr i off B O c hρ=>
    obtain ⟨_,B',O',c',hρ',rfl⟩:=ko hy
    rw [hρ] at hρ';cases hρ'
    refine fin true _ _ hcx hcy (fun _ _=>eqGuard_at_pointer ..) (fun op' ho=>by rcases ho with rfl |rfl<;>simp [binOp]) (fun d=>?_) hv
    simp [Op.equalIn,run_underlying ht,bQ hsz,sameAddr]
  ·cases hv
 ·rename_i l1 c1 b l2 c2 hax hay
  rw [hax] at hx;rw [hay] at hy
  cases d<;>simp only [kindOk] at hd
  cases hx
  cases hy with
  |AE=>exact fin true _ _ hcx hcy (fun _ _=>eqGuard_at_slice ..) (fun op' ho=>by rcases ho with rfl |rfl<;>simp [binOp]) (fun d=>by simp [Op.equalIn,run_underlying ht]) hv
  |slice=>exact fin false _ _ hcx hcy (fun _ _=>eqGuard_at_slice ..) (fun op' ho=>by rcases ho with rfl |rfl<;>simp [binOp]) (fun d=>by simp [Op.equalIn,run_underlying ht]) hv
 ·rename_i hax hay
  rw [hax] at hx;rw [hay] at hy
  cases d<;>simp only [kindOk] at hd
  cases hx with
  |slice=>
   cases hy
   exact fin false _ _ hcx hcy (fun _ _=>eqGuard_at_slice ..) (fun op' ho=>by rcases ho with rfl |rfl<;>simp [binOp]) (fun d=>by simp [Op.equalIn,run_underlying ht]) hv
 ·rename_i hax hay
  rw [hax] at hx;rw [hay] at hy
  cases d<;>simp only [kindOk] at hd
  cases hx
  cases hy
  exact fin true _ _ hcx hcy (fun _ _=>eqGuard_at_nilFunc ..) (fun op' ho=>by rcases ho with rfl |rfl<;>simp [binOp]) (fun d=>by simp [Op.equalIn,run_underlying ht]) hv
 ·rename_i hax hay
  rw [hax] at hx;rw [hay] at hy
  cases d<;>simp only [kindOk] at hd
  cases hy
  cases hx with
  |func=>exact fin false _ _ hcx hcy (fun _ _=>eqGuard_at_func ..) (fun op' ho=>by rcases ho with rfl |rfl<;>simp [binOp]) (fun d=>by simp [Op.equalIn,run_underlying ht]) hv
  |yield=>exact fin false _ _ hcx hcy (fun _ _=>eqGuard_at_func ..) (fun op' ho=>by rcases ho with rfl |rfl<;>simp [binOp]) (fun d=>by simp [Op.equalIn,run_underlying ht]) hv
 ·rename_i hax hay
  rw [hax] at hx;rw [hay] at hy
  cases d<;>simp only [kindOk] at hd
  cases hx
  cases hy with
  |func=>exact fin false _ _ hcx hcy (fun _ _=>eqGuard_at_nilFunc ..) (fun op' ho=>by rcases ho with rfl |rfl<;>simp [binOp]) (fun d=>by simp [Op.equalIn,run_underlying ht]) hv
  |yield=>exact fin false _ _ hcx hcy (fun _ _=>eqGuard_at_nilFunc ..) (fun op' ho=>by rcases ho with rfl |rfl<;>simp [binOp]) (fun d=>by simp [Op.equalIn,run_underlying ht]) hv
 ·cases hv
theorem FD (hR:bW P ρ N w0 h w) {vs:Array Value} {i:Nat} {cx v:Value} (hx:Rv ρ (.tuple vs) cx) (hv:vs.toList[i]?=some v):
  bq P ρ N w0 h w (do pure (Next.value (← Instr.extract cx i))) v:=by
 cases hx with
 |tuple _ b hr=>
  obtain ⟨u,hu,hru⟩:=hr.get i hv
  have hu':b[i]?=some u:=by simpa using hu
  exact bq.pure u hR hru (by simp [Instr.extract,hu'])
theorem RL.vt {l:List Operand} (hr:∀x∈l,Rv ρ (aj ts x) (ce x)):RL ρ (l.map (aj ts)) (l.map ce):=by
 induction l with
 |nil=>exact .nil
 |cons x l ih=>exact .cons (hr x (by simp)) (ih fun y hy=>hr y (by simp [hy]))
end
end Go.Ev
