/- The evaluator over a small code, and that what it finds of a call holds of the machine, part 9. -/
import Derived.Test.YtcajalekkffcjaaDoorEv8
namespace Go.Ev
open Go Go.RowKit
variable {P:Program} {ρ ρ':bz} {N:Nat} {w0 w:World} {h h':H}
inductive EU (ρ:bz):fF->Deferred->Prop where
 |coll (d B c:Nat) (h:ρ d=some (⟨B,0,none⟩,c)):EU ρ (.coll d) {target:=.collected B,args:=#[]}
 |call (g:FuncId) (x x' y y':Array Value) (args args':List Value) (hx:RL ρ x.toList x'.toList) (hy:RL ρ y.toList y'.toList) (ha:RL ρ args args'):
   EU ρ (.call (.func (.func g) x y) args) {target:=.fn (.func g) y',args:=x'++args'.toArray}
inductive wM (ρ:bz):List fF->List Deferred->Prop where
 |nil:wM ρ [] []
 |cons {d:fF} {e:Deferred} {l:List fF} {m:List Deferred} (h:EU ρ d e) (t:wM ρ l m):wM ρ (d :: l) (e :: m)
theorem EU.mono (hle:ρ.le ρ') {d:fF} {e:Deferred} (h:EU ρ d e):EU ρ' d e:=by
 cases h with
 |coll d B c h=>exact .coll d B c (hle _ _ h)
 |call g x x' y y' args args' hx hy ha=>exact .call g x x' y y' args args' (hx.mono hle) (hy.mono hle) (ha.mono hle)
theorem wM.mono (hle:ρ.le ρ') {l:List fF} {m:List Deferred} (h:wM ρ l m):wM ρ' l m:=by
 induction h with
 |nil=>exact .nil
 |cons h t ih=>exact .cons (h.mono hle) ih
structure lZ (ρ:bz) (a:aD) (ca:Act):Prop where
 tmps:RL ρ a.tmps ca.tmps.toList
 defers:wM ρ a.defers ca.defers
theorem lZ.mono (hle:ρ.le ρ') {a:aD} {ca:Act} (h:lZ ρ a ca):lZ ρ' a ca:=⟨h.tmps.mono hle,h.defers.mono hle⟩
theorem lZ.put {a:aD} {ca:Act} (h:lZ ρ a ca) (dst:Option Tmp) {v u:Value} (hv:Rv ρ v u):lZ ρ (a.put dst v) (ca.put dst u):=by
 cases dst with
 |none=>exact h
 |some d=>
  refine ⟨?_,h.defers⟩
  have:=h.tmps.set d hv
  simpa [aD.put,dB,Act.put] using this
theorem BZ (hR:bW P ρ N w0 h w) {a:aD} {ca:Act} (ha:lZ ρ a ca) {x:Operand} (hx:uq P x=true):Rv ρ (aj a.tmps x) (ca.eval x):=by
 cases x with
 |tmp t=>
  have:=ha.tmps.getD t
  have e:ca.tmps.getD t undef=ca.tmps.toList.getD t undef:=by simp [Array.getD_eq_getD_getElem?,List.getD_eq_getElem?_getD]
  simp only [aj,Act.eval,e]
  exact this
 |const v=>exact kG hx
 |global g=>
  have hg:g < P.globals.size:=by simpa [uq,Nat.blt_eq] using hx
  obtain ⟨c,hc⟩:=hR.dU g hg
  have:=Rv.ptr (ρ:=ρ) g 0 g 0 c hc
  simpa [aj,Act.eval] using this
 |func f=>exact .func f #[] #[] #[] #[] .nil .nil
theorem A3 {a:aD} {ca:Act} (ha:lZ ρ a ca) {ops:Array Oper} {o:Oper} {ao:AO} (hc:wD P ops o=some ao):
  aq ao.guard a.tmps=Region.wanted o (yielded ops ca.tmps):=by
 unfold wD at hc
 split at hc
 ·split at hc
  ·cases hc
  ·split at hc
   ·rename_i hg
    cases hc
    simp [aq,Region.wanted,hg]
   ·rename_i j b hg
    split at hc
    ·rename_i t ht
     cases hc
     simp only [aq,Region.wanted,hg]
     have hy:yielded ops ca.tmps j=match ca.tmps[t]? with |some (.bool b)=>some b |_=>none:=by
      unfold yielded;rw [ht];rfl
     rw [hy]
     cases hv:a.tmps[t]? with
     |none=>
      have:ca.tmps[t]?=none:=by
       rw [List.getElem?_eq_none_iff] at hv
       have hl:=ha.tmps.length
       rw [Array.getElem?_eq_none_iff]
       simp at hl;omega
      simp [this]
     |some v=>
      obtain ⟨u,hu,hr⟩:=ha.tmps.get t hv
      have hu':ca.tmps[t]?=some u:=by simpa using hu
      simp only [hu']
      cases hr<;>simp
    ·cases hc
 ·cases hc
theorem mU {ops:Array Oper} {o:Oper} {ao:AO} (hc:wD P ops o=some ao):dQ P o=some ao.op/\ao.dst=o.dst/\∀x∈o.op.operands,uq P x=true:=by
 unfold wD at hc
 split at hc
 ·rename_i hall
  have hall':=Array.all_eq_true_iff_forall_mem.1 hall
  split at hc
  ·cases hc
  ·rename_i op hop
   split at hc
   ·cases hc;exact ⟨hop,rfl,hall'⟩
   ·split at hc
    ·cases hc;exact ⟨hop,rfl,hall'⟩
    ·cases hc
 ·cases hc
section steps
variable {b:Frame} {a:Act} {k:List Item} {cs:List Frame} {ops:Array Oper} {i:Nat} {rest:List Nat} {o:Oper}
theorem sJ (ho:ops[i]?=some o) (hw:Region.wanted o (yielded ops a.tmps)=true) (hd:∀c,o.op≠ .defer c) {nx:Next} {u:Value} {w':World} (hr:(execOp a.eval o).run P w= .ok nx w') (hn:nx= .value u\/(nx= .skip/\u=undef)):
  step P (lone (b.atR a (.inRegion ops (i :: rest) :: k)) cs w)= .next (lone (b.atR (a.put o.dst u) (.inRegion ops rest :: k)) cs w'):=by
 have hg:=stepGR_op (P:=P) (b:=b) (k:=k) (cs:=cs) (w:=w) (rest:=rest) ho hw
 rw [Oper.semAt_eq _ _ _ hd] at hg
 have hfin:(b.atR a (.inRegion ops (i :: rest) :: k)).finish u=b.atR (a.put o.dst u) (.inRegion ops rest :: k):=by rw [Frame.finish_atR,ho];rfl
 refine step_lone_go ?_
 rw [hg,← hfin]
 rcases hn with rfl |⟨rfl,rfl⟩<;>simp [stepG.apply,hr]
theorem j9 (ho:ops[i]?=some o) (hw:Region.wanted o (yielded ops a.tmps)=true) (hd:∀c,o.op≠ .defer c) {f:FuncId} {args:Array Value} {w':World} (hr:(execOp a.eval o).run P w= .ok (.enter f args) w'):
  step P (lone (b.atR a (.inRegion ops (i :: rest) :: k)) cs w)= .next (lone (Frame.enter P f args .normal) (b.atR a (.inRegion ops (i :: rest) :: k) :: cs) w'):=by
 have hg:=stepGR_op (P:=P) (b:=b) (k:=k) (cs:=cs) (w:=w) (rest:=rest) ho hw
 rw [Oper.semAt_eq _ _ _ hd] at hg
 exact step_lone_go (by rw [hg];simp [stepG.apply,hr,Frame.atR])
theorem ke (ho:ops[i]?=some o) (hw:Region.wanted o (yielded ops a.tmps)=true) (hd:∀c,o.op≠ .defer c) {l:Nat} {f:FuncId} {tmps:Array Value} {assign body:Code} {w':World} (hr:(execOp a.eval o).run P w= .ok (.round l f tmps assign body) w'):
  step P (lone (b.atR a (.inRegion ops (i :: rest) :: k)) cs w)= .next (lone (Frame.round l f tmps assign body .normal) (b.atR a (.inRegion ops (i :: rest) :: k) :: cs) w'):=by
 have hg:=stepGR_op (P:=P) (b:=b) (k:=k) (cs:=cs) (w:=w) (rest:=rest) ho hw
 rw [Oper.semAt_eq _ _ _ hd] at hg
 exact step_lone_go (by rw [hg];simp [stepG.apply,hr])
theorem Ax (ho:ops[i]?=some o) (hw:Region.wanted o (yielded ops a.tmps)=true) (hb:b.roundOf=none) {d:Deferred} {w':World} (hr:(execOp a.eval o).run P w= .ok (.defer d) w'):
  step P (lone (b.atR a (.inRegion ops (i :: rest) :: k)) cs w)= .next (lone (b.atR ({a with defers:=d :: a.defers}.put o.dst undef) (.inRegion ops rest :: k)) cs w'):=by
 have hg:=stepGR_op (P:=P) (b:=b) (k:=k) (cs:=cs) (w:=w) (rest:=rest) ho hw
 rw [hb,Oper.semAt_none] at hg
 have:({b.atR a (.inRegion ops (i :: rest) :: k) with defers:=d :: a.defers}:Frame).finish undef=
   b.atR ({a with defers:=d :: a.defers}.put o.dst undef) (.inRegion ops rest :: k):=by
  have:=Frame.finish_atR b {a with defers:=d :: a.defers} ops i rest k undef
  rw [ho] at this;exact this
 refine step_lone_go ?_
 rw [hg];simp only [stepG.apply,Sem.runT_eq,hr,GStep.bare_after]
 exact congrArg (fun fr=>GStep.go {frame:=fr,callers:=cs,status:=.running,dying:=none} w') this
theorem Ay (ho:ops[i]?=some o) (hw:Region.wanted o (yielded ops a.tmps)=true) (hd:∀c,o.op≠ .defer c) {u:Value} {w':World} (hr:(execOp a.eval o).run P w= .halt (.panic u) w'):
  step P (lone (b.atR a (.inRegion ops (i :: rest) :: k)) cs w)= .next (lone {b.atR a (.inRegion ops (i :: rest) :: k) with mode:=.panicking [{v:=u,recovered:=false}]} cs w'):=by
 have hg:=stepGR_op (P:=P) (b:=b) (k:=k) (cs:=cs) (w:=w) (rest:=rest) ho hw
 rw [Oper.semAt_eq _ _ _ hd] at hg
 exact step_lone_go (by rw [hg,← Frame.raise_atR];simp [stepG.apply,hr])
theorem pN (ho:ops[i]?=some o) (hw:Region.wanted o (yielded ops a.tmps)=true) (hd:∀c,o.op≠ .defer c) (hb:b.roundOf=none) {w':World} (hr:(execOp a.eval o).run P w= .ok .recover w')
  {u:Value} {cs':List Frame} (hc:(tryRecover (b.atR a (.inRegion ops (i :: rest) :: k)) cs).getD (.nilIface,cs)=(u,cs')):
  step P (lone (b.atR a (.inRegion ops (i :: rest) :: k)) cs w)= .next (lone (b.atR (a.put o.dst u) (.inRegion ops rest :: k)) cs' w'):=by
 have hg:=stepGR_op (P:=P) (b:=b) (k:=k) (cs:=cs) (w:=w) (rest:=rest) ho hw
 rw [Oper.semAt_eq _ _ _ hd] at hg
 have hfin:∀u,(b.atR a (.inRegion ops (i :: rest) :: k)).finish u=b.atR (a.put o.dst u) (.inRegion ops rest :: k):=fun u=>by rw [Frame.finish_atR,ho];rfl
 have hro:(b.atR a (.inRegion ops (i :: rest) :: k)).roundOf=none:=hb
 refine step_lone_go ?_
 rw [hg,← hfin]
 cases ht:tryRecover (b.atR a (.inRegion ops (i :: rest) :: k)) cs with
 |none=>
  rw [ht] at hc
  simp only [Option.getD_none,Prod.mk.injEq] at hc
  obtain ⟨rfl,rfl⟩:=hc
  simp [stepG.apply,hr,hro,ht]
 |some x=>
  obtain ⟨v,cs2⟩:=x
  rw [ht] at hc
  simp only [Option.getD_some,Prod.mk.injEq] at hc
  obtain ⟨rfl,rfl⟩:=hc
  simp [stepG.apply,hr,hro,ht]
end steps
end Go.Ev
