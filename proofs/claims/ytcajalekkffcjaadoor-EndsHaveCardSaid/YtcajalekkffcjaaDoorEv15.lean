/- The evaluator over a small code, and that what it finds of a call holds of the machine, part 15. -/
import Derived.Test.YtcajalekkffcjaaDoorEv14m
import Derived.RangeFuncRecord
namespace Go.Ev
open Go Go.RowKit
variable {P:Program} {ρ ρ':bz} {N:Nat} {w0 w:World} {h h':H} {b:Frame} {k k1:List Item} {cs:List Frame} {a a':aD} {ca:Act} {x:aM} {m m1:Machine}
theorem jM.pre (hs:Steps P m m1) (hw:jM P ρ N w0 m1 b k cs a x a' h'):jM P ρ N w0 m b k cs a x a' h':=by
 obtain ⟨ρ1,w1,ca1,cs1,h1,h2,h3,h4,h5,h6⟩:=hw
 exact ⟨ρ1,w1,ca1,cs1,h1,h2,h3,h4,h5,EJ.of_steps hs h6⟩
theorem jM.andThen {a1:aD} {h1:H} (hs:eT ρ b cs a ca) (hw:jM P ρ N w0 m b k1 cs a .normal a1 h1)
  (hn:∀ρ1 w1 ca1 cs1,ρ.le ρ1->bW P ρ1 N w0 h1 w1->eT ρ1 b cs1 a1 ca1->jM P ρ1 N w0 (lone (b.atR ca1 k1) cs1 w1) b k cs1 a1 x a' h'):
  jM P ρ N w0 m b k cs a x a' h':=by
 obtain ⟨ρ1,w1,ca1,cs1,g1,g2,g3,g4,g5,g6⟩:=hw
 obtain ⟨ρ2,w2,ca2,cs2,f1,f2,f3,f4,f5,f6⟩:=hn ρ1 w1 ca1 cs1 g1 g2 (hs.next g1 g3 g4 g5)
 exact ⟨ρ2,w2,ca2,cs2,bz.le_trans g1 f1,f2,f3,g4.trans f4,f5.trans g5,EJ.of_steps g6 f6⟩
theorem jM.B9 {y:aM} (hw:jM P ρ N w0 m b k1 cs a x a' h') (hX:∀ρ ca,Gb ρ x a' ca->Gb ρ y a' ca) (ht:∀ρ w ca cs,EJ P ρ m b k1 cs x ca w->EJ P ρ m b k cs y ca w):
  jM P ρ N w0 m b k cs a y a' h':=by
 obtain ⟨ρ1,w1,ca1,cs1,g1,g2,g3,g4,g5,g6⟩:=hw
 exact ⟨ρ1,w1,ca1,cs1,g1,g2,hX _ _ g3,g4,g5,ht _ _ _ _ g6⟩
theorem jM.I5 {i:Item} (hi:∀id,exitTo id (i :: k)=exitTo id k) (hx:x≠ .normal) (hw:jM P ρ N w0 m b (i :: k) cs a x a' h'):jM P ρ N w0 m b k cs a x a' h':=
 hw.B9 (fun _ _ g=>g) fun ρ w ca cs g=>by
  cases x with
  |normal=>exact absurd rfl hx
  |exit id=>obtain ⟨k1,h1,h2⟩:=g;exact ⟨k1,h1.trans (hi id),h2⟩
  |ret=>exact g
  |panic v=>exact g
theorem jM.here (hR:bW P ρ N w0 h w) (hs:eT ρ b cs a ca) (ha:EJ P ρ m b k cs x ca w):jM P ρ N w0 m b k cs a x a h:=
 ⟨ρ,w,ca,cs,ρ.le_refl,hR,hs.1.OB x,kQ.refl _ _,rfl,ha⟩
theorem lB (N:Nat) (w:World) (l:Nat) (o:Obj) (hl:N<=l):Below N w (w.putObj l o):=
 ⟨rfl,rfl,rfl,by simp,fun k hk=>World.putObj_heap_other (by omega)⟩
theorem qB {g:Operand} {ps:Array Tmp} {assign body:Code} {l:Nat} {mark:List Deferred} {w1 w2:World} {nx:Next} {fr0:Frame}
  (he:(Instr.enterLoop b.fn ca.tmps ps assign body b.roundOf).run P w= .ok (l,mark) w1)
  (hr:(do let d ← Deferred.ofValue (ca.eval g) #[.func (.yield l) #[] #[]];invoke d.target d.args:Sem Next).run P w1= .ok nx w2) (hn:lq P nx=some fr0):
  step P (lone (b.atR ca (.code (.rangeFunc g ps assign body) :: k)) cs w)=
   .next (lone fr0 (b.atR {ca with defers:=mark++ca.defers} (.inRangeFunc l :: k) :: cs) w2):=by
 refine step_lone_go ?_
 have hev:=Frame.eval_atR b {ca with defers:=mark++ca.defers} (.inRangeFunc l :: k)
 simp only [Frame.atR] at hev
 have hr':Sem.run P (do
   let d ← resolve ({tmps:=ca.tmps,defers:=mark++ca.defers}:Act).eval {callee:=.value g,args:=#[.const (.func (.yield l) #[] #[])],argTypes:=#[]} 0
   invoke d.target d.args) w1= .ok nx w2:=by
  have e1:({tmps:=ca.tmps,defers:=mark++ca.defers}:Act).eval g=ca.eval g:=by cases g<;>rfl
  have e2:(#[Operand.const (.func (.yield l) #[] #[])]).map ({tmps:=ca.tmps,defers:=mark++ca.defers}:Act).eval=#[.func (.yield l) #[] #[]]:=by simp [Act.eval]
  simp only [resolve,e1,e2]
  exact hr
 cases nx<;>simp only [lq,Option.some.injEq,reduceCtorEq] at hn
 ·subst hn
  simp [stepG,stepG.exec,Frame.atR,Sem.runT_eq,he,GStep.bare_after,stepG.apply,hev,hr']
 ·subst hn
  simp [stepG,stepG.exec,Frame.atR,Sem.runT_eq,he,GStep.bare_after,stepG.apply,hev,hr']
theorem Di {b:Frame} {a:Act} {k:List Item} {cs:List Frame} {w:World} {c:Code}:
  step P (lone (b.atR a (.code (.scope c) :: k)) cs w)= .next (lone (b.atR a (.code c :: .inScope c :: k)) cs w):=
 step_lone_go (by simp [stepG,stepG.exec,Frame.atR])
theorem AB {b:Frame} {a:Act} {k:List Item} {cs:List Frame} {w:World} {c:Code}:
  step P (lone (b.atR a (.inScope c :: k)) cs w)= .next (lone (b.atR a k) cs w):=
 step_lone_go (by simp [stepG,stepG.exec,Frame.atR])
theorem yG {rec:Rec} (hrec:l8 P rec) (hm:P.follows .mixedOrders=true):∀(c:Code) {ρ:bz} {N:Nat} {w0 w:World} {h:H} {a:aD} {ca:Act} {b:Frame} {k:List Item} {cs:List Frame} {x:aM} {a':aD} {h':H},
  bW P ρ N w0 h w->eT ρ b cs a ca->cT P rec (cl P c) a h=some (x,a',h')->jM P ρ N w0 (lone (b.atR ca (.code c :: k)) cs w) b k cs a x a' h':=by
 intro c
 induction c with
 |skip=>
  intro ρ N w0 w h a ca b k cs x a' h' hR hs he
  simp only [cl,cT,Option.some.injEq,Prod.mk.injEq] at he
  obtain ⟨rfl,rfl,rfl⟩:=he
  exact .here hR hs (.one stepR_skip)
 |region id ops draw=>
  intro ρ N w0 w h a ca b k cs x a' h' hR hs he
  simp only [cl,Ca] at he
  split at he
  ·simp [cT] at he
  ·rename_i l hl
   cases draw with
   |false=>
    simp only [Bool.false_eq_true,if_false,cT] at he
    refine .pre (.one stepR_region) ?_
    have:=C6 hrec (ops:=ops) (b:=b) (k:=k) ops.toList 0 (fun j=>by simp) l hl hR hs he
    rw [List.range_eq_range']
    simpa using this
   |true=>
    simp only [if_true] at he
    split at he
    ·rename_i hd
     simp only [cT] at he
     simp only [Bool.and_eq_true] at hd
     exact Hs hrec hm hl hd.1 hR hs he
    ·split at he
     ·rename_i hd
      simp only [cT] at he
      exact Hu hrec hm hl hd hR hs he
     ·simp [cT] at he
 |seq c1 c2 ih1 ih2=>
  intro ρ N w0 w h a ca b k cs x a' h' hR hs he
  simp only [cl,cT] at he
  refine .pre (.one stepR_seq) ?_
  split at he
  ·rename_i a1 h1 h1e
   exact .andThen hs (ih1 hR hs h1e) fun ρ1 w1 ca1 cs1 hle hR1 hs1=>ih2 hR1 hs1 he
  ·rename_i hne
   refine (ih1 (k:=.code c2 :: k) hR hs he).I5 (fun id=>rfl) ?_
   rintro rfl
   exact hne _ _ he
 |cond c t e iht ihe=>
  intro ρ N w0 w h a ca b k cs x a' h' hR hs he
  simp only [cl] at he
  cases ho:uq P c with
  |false=>rw [ho] at he;simp [cT] at he
  |true=>
   rw [ho] at he
   simp only [cond_true,cT] at he
   have hv:=BZ hR hs.1 ho
   split at he
   ·rename_i hb
    rw [hb] at hv
    have hc:=kf rfl hv
    exact .pre (.one (stepR_cond hc)) (iht hR hs he)
   ·rename_i hb
    rw [hb] at hv
    have hc:=kf rfl hv
    exact .pre (.one (stepR_cond hc)) (ihe hR hs he)
   ·cases he
 |block id c ih=>
  intro ρ N w0 w h a ca b k cs x a' h' hR hs he
  simp only [cl,cT] at he
  refine .pre (.one stepR_block) ?_
  have hex:∀id',exitTo id' (.inBlock id :: k)=if id=id' then some k else exitTo id' k:=fun id'=>by simp [exitTo]
  split at he
  ·rename_i id' a1 h1 h1e
   have hw:=ih (k:=.inBlock id :: k) hR hs h1e
   split at he
   ·rename_i hid
    subst hid
    simp only [Option.some.injEq,Prod.mk.injEq] at he
    obtain ⟨rfl,rfl,rfl⟩:=he
    refine hw.B9 (fun _ _ g=>g) fun ρ w ca cs g=>?_
    obtain ⟨k1,g1,g2⟩:=g
    rw [hex,if_pos rfl] at g1
    exact g2.trans (.one (stepR_exit g1))
   ·rename_i hid
    simp only [Option.some.injEq,Prod.mk.injEq] at he
    obtain ⟨rfl,rfl,rfl⟩:=he
    refine hw.B9 (fun _ _ g=>g) fun ρ w ca cs g=>?_
    obtain ⟨k1,g1,g2⟩:=g
    rw [hex,if_neg (fun e=>hid e.symm)] at g1
    exact ⟨k1,g1,g2⟩
  ·rename_i hne
   have hw:=ih (k:=.inBlock id :: k) hR hs he
   refine hw.B9 (fun _ _ g=>g) fun ρ w ca cs g=>?_
   cases x with
   |normal=>exact Steps.trans g (.one stepR_inBlock)
   |exit id'=>exact absurd he (hne _ _ _)
   |ret=>exact g
   |panic v=>exact g
 |loop c ih=>
  intro ρ N w0 w h a ca b k cs x a' h' hR hs he
  simp only [cl,cT] at he
  refine .pre (.one stepR_loop) ?_
  split at he
  ·rename_i a1 h1 h1e
   exact .andThen hs (ih hR hs h1e) fun ρ1 w1 ca1 cs1 hle hR1 hs1=>hrec.loop c _ _ _ _ _ he _ _ _ _ _ _ _ _ hR1 hs1
  ·rename_i hne
   refine (ih (k:=.inLoop c :: k) hR hs he).I5 (fun id=>rfl) ?_
   rintro rfl
   exact hne _ _ he
 |scope c ih=>
  intro ρ N w0 w h a ca b k cs x a' h' hR hs he
  simp only [cl] at he
  refine .pre (.one Di) ?_
  have hex:∀id,exitTo id (.inScope c :: k)=exitTo id k:=fun id=>by simp [exitTo]
  refine (ih (k:=.inScope c :: k) hR hs he).B9 (fun _ _ g=>g) fun ρ w ca cs g=>?_
  cases x with
  |normal=>exact Steps.trans g (.one AB)
  |exit id=>obtain ⟨k1,g1,g2⟩:=g;exact ⟨k1,by rw [← hex];exact g1,g2⟩
  |ret=>exact g
  |panic v=>exact g
 |label l=>
  intro ρ N w0 w h a ca b k cs x a' h' hR hs he
  simp only [cl,cT,Option.some.injEq,Prod.mk.injEq] at he
  obtain ⟨rfl,rfl,rfl⟩:=he
  exact .here hR hs (.one stepR_label)
 |exit id=>
  intro ρ N w0 w h a ca b k cs x a' h' hR hs he
  simp only [cl,cT,Option.some.injEq,Prod.mk.injEq] at he
  obtain ⟨rfl,rfl,rfl⟩:=he
  exact .here hR hs ⟨k,rfl,.refl _ _⟩
 |ret=>
  intro ρ N w0 w h a ca b k cs x a' h' hR hs he
  simp only [cl,cT,Option.some.injEq,Prod.mk.injEq] at he
  obtain ⟨rfl,rfl,rfl⟩:=he
  exact .here hR hs ⟨k,.refl _ _⟩
 |rangeFunc f ps as bd iha ihb=>
  intro ρ N w0 w h a ca b k cs x a' h' hR hs he
  simp only [cl] at he
  cases ho:uq P f with
  |false=>rw [ho] at he;simp [cT] at he
  |true=>
   rw [ho] at he
   simp only [cond_true,cT] at he
   split at he
   ·cases he
   ·rename_i hround
    have hb:b.roundOf=none:=by
     have:=hs.2.2
     cases hbr:b.roundOf with
     |none=>rfl
     |some l=>rw [hbr] at this;simp at this;exact absurd this hround
    have hv:=BZ hR hs.1 ho
    have henter:=run_enterLoop_outer (P:=P) (w:=w) b.fn ca.tmps ps as bd
    rw [← hb] at henter
    have R1:=hR.alloc .CN 0 (.deferred (some [])) ⟨w.heap.size,0,bz.aY _ _ _,World.alloc_heap_new _ _⟩
    have hle1:=bz.eM (⟨w.heap.size,0,none⟩,0) (hR.fresh h.next (Nat.le_refl _))
    have hn1:(h.alloc .CN).next=h.next+1:=rfl
    have hz1:(w.alloc (.deferred (some []))).heap.size=w.heap.size+1:=World.size_alloc _ _
    generalize hρ1:ρ.lN h.next (⟨w.heap.size,0,none⟩,0)=ρ1 at R1 hle1
    have hle2:=bz.eM (⟨w.heap.size+1,0,none⟩,0) (R1.fresh (h.next+1) (Nat.le_refl _))
    have R2:=R1.alloc (.loop .ready none a.tmps ps.toList (cl P as) (cl P bd)) 0
     (.loop {state:=.ready,pending:=none,fn:=b.fn,tmps:=ca.tmps,params:=ps,assign:=as,body:=bd,defers:=w.heap.size}) (by
       rw [hn1,hz1]
       exact ⟨w.heap.size+1,0,_,bz.aY _ _ _,by rw [← hz1];exact World.alloc_heap_new _ _,rfl,rfl,(hs.1.tmps.mono hle1).mono hle2,rfl,rfl,rfl⟩)
    rw [hn1,hz1] at R2
    have hy2:(ρ1.lN (h.next+1) (⟨w.heap.size+1,0,none⟩,0)) (h.next+1)=some (⟨w.heap.size+1,0,none⟩,0):=bz.aY _ _ _
    generalize hρ2:ρ1.lN (h.next+1) (⟨w.heap.size+1,0,none⟩,0)=ρ2 at R2 hle2 hy2
    have hd2:ρ2 h.next=some (⟨w.heap.size,0,none⟩,0):=by
     refine hle2 _ _ ?_
     rw [← hρ1];exact bz.aY _ _ _
    split at he
    ·rename_i v rcx h2 hcall
     obtain ⟨nx,fr0,hrun,hent,hgo⟩:=hrec.call _ _ _ _ _ _ hcall ρ2 N w0 _ (ca.eval f) #[.func (.yield (w.heap.size+1)) #[] #[]] R2 ((hv.mono hle1).mono hle2)
      (.cons (.yield _ _ _ _ hy2) .nil)
     obtain ⟨ρ3,w3,hle3,R3,u,hu,hst⟩:=hgo (b.atR {ca with defers:=[{target:=.collected w.heap.size,args:=#[]}]++ca.defers} (.inRangeFunc (w.heap.size+1) :: k)) cs
     rw [finish_atR_inRangeFunc] at hst
     have hstep:=Steps.trans (.one (qB (cs:=cs) (k:=k) henter hrun hent)) hst
     split at he
     ·rename_i st pend ts ps' as' bd' hg2
      split at he
      ·cases he
      rename_i hbusy
      have hst':st≠ .busy:=by rintro rfl;exact hbusy rfl
      simp only [Option.some.injEq,Prod.mk.injEq] at he
      obtain ⟨rfl,rfl,rfl⟩:=he
      obtain ⟨B,c,L,hB,hL,hLs,hLp,hLr⟩:=R3.blk _ _ hg2
      rw [hle3 _ _ hy2] at hB
      simp only [Option.some.injEq,Prod.mk.injEq,Addr.mk.injEq,and_true] at hB
      obtain ⟨rfl,rfl⟩:=hB
      have hend:=run_endLoop (P:=P) hL (by rw [hLs];exact hst')
      have hNle:N<=w.heap.size+1:=R3.above _ _ _ hg2 rfl (hle3 _ _ hy2)
      have R4:=R3.update hg2 rfl (.loop .exhausted pend ts ps' as' bd') (hle3 _ _ hy2) (lB N w3 _ (.loop {L with state:=.exhausted}) hNle)
       (fun j hj hne=>World.putObj_heap_other hne)
       ⟨w.heap.size+1,0,_,hle3 _ _ hy2,World.putObj_heap_same (Array.getElem?_eq_some_iff.1 hL).1,rfl,hLp,hLr⟩
      have hle:=bz.le_trans (bz.le_trans hle1 hle2) hle3
      refine ⟨ρ3,_,{ca with defers:={target:=.collected w.heap.size,args:=#[]} :: ca.defers},cs,hle,R4,lZ.OB (a:={a with defers:=fF.coll h.next :: a.defers}) (ca:={ca with defers:={target:=.collected w.heap.size,args:=#[]} :: ca.defers}) ⟨hs.1.tmps.mono hle,.cons (.coll _ _ _ (hle3 _ _ hd2)) (hs.1.defers.mono hle)⟩ _,kQ.refl _ _,rfl,?_⟩
      have hfin:=Steps.trans hstep (.one (stepR_endRangeFunc hend))
      cases pend with
      |none=>
       have e:(L.pending.map Item.code).toList++k=k:=by rw [hLp];rfl
       rw [e] at hfin;exact hfin
      |some j=>cases j with
       |none=>
        have e:(L.pending.map Item.code).toList++k= .code .ret :: k:=by rw [hLp];rfl
        rw [e] at hfin;exact ⟨k,hfin⟩
       |some id=>
        have e:(L.pending.map Item.code).toList++k= .code (.exit id) :: k:=by rw [hLp];rfl
        rw [e] at hfin;exact ⟨k,rfl,hfin⟩
     ·cases he
    ·rename_i v rcx h2 hcall
     obtain ⟨nx,fr0,hrun,hent,hgo⟩:=hrec.call _ _ _ _ _ _ hcall ρ2 N w0 _ (ca.eval f) #[.func (.yield (w.heap.size+1)) #[] #[]] R2 ((hv.mono hle1).mono hle2)
      (.cons (.yield _ _ _ _ hy2) .nil)
     obtain ⟨ρ3,w3,hle3,R3,u,hu,hst⟩:=hgo (b.atR {ca with defers:=[{target:=.collected w.heap.size,args:=#[]}]++ca.defers} (.inRangeFunc (w.heap.size+1) :: k)) cs
     rw [Frame.raise_atR] at hst
     have hstep:=Steps.trans (.one (qB (cs:=cs) (k:=k) henter hrun hent)) hst
     simp only [Option.some.injEq,Prod.mk.injEq] at he
     obtain ⟨rfl,rfl,rfl⟩:=he
     have hle:=bz.le_trans (bz.le_trans hle1 hle2) hle3
     exact ⟨ρ3,_,{ca with defers:={target:=.collected w.heap.size,args:=#[]} :: ca.defers},cs,hle,R3,lZ.OB (a:={a with defers:=fF.coll h.next :: a.defers}) (ca:={ca with defers:={target:=.collected w.heap.size,args:=#[]} :: ca.defers}) ⟨hs.1.tmps.mono hle,.cons (.coll _ _ _ (hle3 _ _ hd2)) (hs.1.defers.mono hle)⟩ _,kQ.refl _ _,rfl,
      .inRangeFunc (w.heap.size+1) :: k,u,trivial,hu,hstep⟩
    ·cases he
 |_=>
  intro ρ N w0 w h a ca b k cs x a' h' hR hs he
  simp [cl,cT] at he
end Go.Ev
