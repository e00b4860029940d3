/- waypostlaw23.EndsHave returns true for all arguments: the program answers as the reference does. Condition: the listed package-level variables hold what the program's text lays, which the card ties. -/
import Derived.Test.YtcajalekkffcjaaDoorT
import Derived.Test.YtcajalekkffcjaaDoorRows
import Derived.Test.YtcajalekkffcjaaDoorTie
import Derived.Test.YtcajalekkffcjaaDoorCards
import Derived.ProofKit
import Derived.LaidMore
import Derived.OpenShut
import Derived.Stop.Joined
import Derived.SevenTiedAt
import Derived.Carry
namespace Go.Proofs.YtcajalekkffcjaaDoor
open Go Go.ChangeShapes Go.WideShapes Go.ChangeAt Go.RowKit Go.Ev
def uU:List (String × DataW Unit):=[("math/bits.deBruijn64tab",Rows.laid_math_bits_deBruijn64tab)]
theorem own:ownKnob Tryd.prog.godebug=none:=by kernel_rfl
theorem GN {H:Type} {enc:TypeId × Value->H} {W:World}:∀cs,gd enc PP W [.int .u64,.int .u64,.int .u64,.int .u64] cs->∃r:TT bG,E.enc bG r=cs.map .v/\cs.all aS=true:=fun cs h=>by
 obtain ⟨_,_,rfl,⟨a,rfl,_⟩,h1⟩:=h.cons
 obtain ⟨_,_,rfl,⟨b,rfl,_⟩,h2⟩:=h1.cons
 obtain ⟨_,_,rfl,⟨c,rfl,_⟩,h3⟩:=h2.cons
 obtain ⟨_,_,rfl,⟨d,rfl,_⟩,h4⟩:=h3.cons
 obtain rfl:=h4.nil
 exact ⟨(⟨a,b,c,d⟩:bR),rfl,rfl⟩
set_option maxRecDepth 100000 in
theorem Kc {H:Type} {enc:TypeId × Value->H} {W:World} {base:Nat} {v:Value} {d:DataW H} {p:List MemPlace} (hok:Value.okWide PP W .any base 27 v) (h:DataW.Trod enc PP W 0 (fun _=>true) true 27 v d p):∃e:aP,tH E W v (cD e):=by
 obtain ⟨cs,rfl,hk,hc⟩:=BD (n:=6) (ks:=[.sl bG,.sl bG,.int .i64,.int .i64]) Tryd.underlying27 (by kernel_rfl) hok h
 obtain ⟨c0,_,rfl,k0,hk1⟩:=hk.cons
 obtain ⟨c1,_,rfl,k1,hk2⟩:=hk1.cons
 obtain ⟨_,_,rfl,⟨n2,rfl,_⟩,hk3⟩:=hk2.cons
 obtain ⟨_,_,rfl,⟨n3,rfl,_⟩,hk4⟩:=hk3.cons
 obtain rfl:=hk4.nil
 obtain ⟨l0,s0⟩:=Ke (E:=E) (P:=PP) (e:=bG) (by kernel_rfl) 6 (by kernel_rfl) GN k0 (hc c0 (by simp))
 obtain ⟨l1,s1⟩:=Ke (E:=E) (P:=PP) (e:=bG) (by kernel_rfl) 6 (by kernel_rfl) GN k1 (hc c1 (by simp))
 exact ⟨⟨l0,l1,n2,n3⟩,(AP.cons s0 (.cons s1 (.cons (.v _ rfl) (.cons (.v _ rfl) .nil)))).agg⟩
set_option maxRecDepth 100000 in
theorem Ia {H:Type} {enc:TypeId × Value->H} {W:World} {base:Nat} {v:Value} {d:DataW H} {p:List MemPlace} (hok:Value.okWide PP W .any base 55 v) (h:DataW.Trod enc PP W 0 (fun _=>true) true 55 v d p):∃e:aK,tH E W v (dZ e):=by
 obtain ⟨cs,rfl,hk,-⟩:=BD (n:=6) (ks:=[.str,.str,.bool,.int .i64,.int .i64]) Tryd.underlying55 (by kernel_rfl) hok h
 obtain ⟨_,_,rfl,⟨a,rfl,_⟩,hk1⟩:=hk.cons
 obtain ⟨_,_,rfl,⟨b,rfl,_⟩,hk2⟩:=hk1.cons
 obtain ⟨_,_,rfl,⟨c,rfl⟩,hk3⟩:=hk2.cons
 obtain ⟨_,_,rfl,⟨n2,rfl,_⟩,hk4⟩:=hk3.cons
 obtain ⟨_,_,rfl,⟨n3,rfl,_⟩,hk5⟩:=hk4.cons
 obtain rfl:=hk5.nil
 exact ⟨⟨a,b,c,n2,n3⟩,(AP.cons (.v _ rfl) (.cons (.v _ rfl) (.cons (.v _ rfl) (.cons (.v _ rfl) (.cons (.v _ rfl) .nil))))).agg⟩
set_option maxRecDepth 100000 in
theorem Kf (os:Os) (args:Array Value):laidMetH Tryd.prog uU ((World.doorLaid Tryd.prog 14 os).forCall (fun _ _=>0) ⟨#[],args,[]⟩).memory:=
 laidMetH_of_parts3 (fuel:=8) (laidMet_of_run' 8 (by kernel_rfl) (by kernel_rfl)) (by kernel_rfl) (by kernel_rfl)
set_option maxRecDepth 100000 in
theorem AQ {W:World} (h:laidMetH Tryd.prog uU W):oV W MY.tabs:=
 Fj NX (by kernel_rfl) (show laidMetH Tryd.prog MY.data W from h)
set_option maxRecDepth 100000 in
theorem FH (os:Os) (started:os.Started) (H:Type) (enc:TypeId × Value->H):
  ReturnsInHanded {} Tryd.checked os 7 .any (fun w args=>(Rows.endsHaveSpec.pre enc Tryd.prog Tryd.f7 [] false w args/\laidMetH Tryd.prog uU w)/\sizedMet enc Tryd.prog Tryd.f7 (OpenSpec.ofChange Rows.endsHaveSpec) false w args)
   (Rows.endsHaveSpec.post enc Tryd.prog Tryd.f7 false true false false):=by
 refine returnsInHanded_of_change_and (C:=Tryd.checked) (X:=fun w _=>laidMetH Tryd.prog uU w) (fun _ _ _ hh h=>h.of_heap hh) own started (by kernel_rfl) Tryd.func7
  (ChangeSpec.witness_shaped (enc:=enc) (C:=Tryd.checked) (os:=os) (X:=fun w _=>laidMetH Tryd.prog uU w) false (World.doorLaid Tryd.prog 14 os) #[.agg #[.slice none 0 0,.slice none 0 0,.int .i64 0,.int .i64 0],.agg #[.string ⟨#[]⟩,.string ⟨#[]⟩,.bool false,.int .i64 0,.int .i64 0],.string ⟨#[]⟩] 8 rfl (World.shaped_of_RefB (by kernel_rfl) (by kernel_rfl)) (by kernel_rfl) (by kernel_rfl) (by kernel_rfl) (Kf os _)) ?_
 intro W base args ds gs before hval0 hW _ _ hL _
 have hval:∀(j:Nat) t v,Tryd.f7.params[j]?=some t->args[j]?=some v->Value.okWide Tryd.prog W .any base t v:=hval0
 have hW':=hW
 obtain ⟨p,q,hA0,hV,rfl,hfz,hnd⟩:=hW
 have hA:DataW.TrodAll enc Tryd.prog W 0 (fun _=>true) true Tryd.f7.params.toList args.toList ds p:=hA0
 rw [Tryd.params7] at hA hval
 obtain ⟨v0,v1,v2,d0,d1,d2,p0,p1,p2,rfl,rfl,rfl,h0,h1,h2⟩:=trodAll_three hA
 obtain ⟨rfl,rfl⟩:=trodVars_none hV
 obtain ⟨e0,s0⟩:=Kc (hval 0 27 v0 rfl rfl) h0
 obtain ⟨e1,s1⟩:=Ia (hval 1 55 v1 rfl rfl) h1
 obtain ⟨e2,rfl,s2⟩:=FI (E:=E) Tryd.underlying9 (hval 2 9 v2 rfl rfl)
 have hlt:=hW'.lt
 have src:tH E W (.agg #[v0,v1,.string e2]) (.agg [cD e0,dZ e1,cn e2]):=AP.agg (.cons s0 (.cons s1 (.cons s2 (.nil))))
 refine (Kg dS NY mixed Mp Ic (by decide) (by decide) (K3 e0 e1 e2) (AQ hL) src).mono fun e W' ⟨he,hb⟩=>?_
 subst he
 have r0:=Below.trod (by kernel_rfl) (by kernel_rfl) (of_decide_eq_true (by kernel_rfl)) h0 hb fun x hx=>hlt x (by simp [hx])
 have r1:=Below.trod (by kernel_rfl) (by kernel_rfl) (of_decide_eq_true (by kernel_rfl)) h1 hb fun x hx=>hlt x (by simp [hx])
 have r2:=Below.trod (by kernel_rfl) (by kernel_rfl) (of_decide_eq_true (by kernel_rfl)) h2 hb fun x hx=>hlt x (by simp [hx])
 exact ⟨_,rfl,_,[],_,[],_,[],hW',trodAll_mk1 (shut_bool Tryd.underlying4 true),trodAll_mk3 r0 r1 r2,rfl,hb.frame _,fun h=>by cases h⟩
theorem LD:Rows.EndsHaveSaid:=
 OpenClaim.holds_of_wide 7 Tryd.f7 rfl rfl rfl rfl rfl rfl rfl ⟨rfl,rfl,rfl,rfl,rfl⟩ rfl rfl rfl rfl rfl (by kernel_rfl) Tryd.func7 (by kernel_rfl)
  (of_decide_eq_true (by kernel_rfl)) (by unfold Func.isWrapper;first |(rw [if_pos (by decide+kernel)];kernel_rfl) |(rw [if_neg (by decide+kernel)];exact ⟨rfl,rfl⟩))
  (fun os started H enc _=>FH os started H enc)
theorem law_card:Rows.EndsHaveCardSaid:=
 Claim7.holds_tied_plain_at .later [] [.data] true (true,"081a64b175be19537bb66306d77a087eade46af76e4b567a3af611a61aedc512") true
  LD (fun _ h=>by cases h) (by kernel_rfl) (fun _ h=>by cases h) endsHave_row_tie rfl ⟨rfl,rfl⟩ (by kernel_rfl) rfl
  (fun f fn hf hfn=>by
   obtain rfl:f=7:=Option.some.inj ((show Tryd.prog.funcNamed "waypost/waypostlaw23.EndsHave"=some 7 by kernel_rfl).symm.trans hf) |>.symm
   obtain rfl:fn=Tryd.f7:=(Option.some.inj (Tryd.func7.symm.trans hfn)).symm
   exact ⟨by kernel_rfl,fun j t ht=>by
    rw [Tryd.params7] at ht
    match j,ht with
    | 0,ht=>
      have k:Tryd.prog.wantsStandIn 27=false:=by kernel_rfl
      have e:t=27:=(Option.some.inj ht).symm
      rw [e]
      exact k
    | 1,ht=>
      have k:Tryd.prog.wantsStandIn 55=false:=by kernel_rfl
      have e:t=55:=(Option.some.inj ht).symm
      rw [e]
      exact k
    | 2,ht=>
      have k:Tryd.prog.wantsStandIn 9=false:=by kernel_rfl
      have e:t=9:=(Option.some.inj ht).symm
      rw [e]
      exact k
    |(j+3),ht=>simp at ht⟩)
  (by kernel_rfl)
#print axioms law_card
end Go.Proofs.YtcajalekkffcjaaDoor
