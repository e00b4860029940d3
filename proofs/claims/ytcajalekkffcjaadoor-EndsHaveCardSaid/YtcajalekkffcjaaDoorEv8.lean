/- The evaluator over a small code, and that what it finds of a call holds of the machine, part 8. -/
import Derived.Test.YtcajalekkffcjaaDoorEv7m
namespace Go.Ev
open Go Go.RowKit
variable {P:Program} {ρ:bz} {N:Nat} {w0 w:World} {h h':H} {ts:List Value} {ce:Operand->Value}
theorem vR {cs:Array SelectCase} {b:Bool} {c:Call}:Op.call c≠ .select cs b:=by intro e;cases e
theorem iH (hR:bW P ρ N w0 h w) {o:Oper} (hs:∀cs b,o.op≠ .select cs b) (hrel:∀x∈o.op.operands,Rv ρ (aj ts x) (ce x)) {v:Value} (hx:af P ts h (.gen o)=some (v,h')):
  bq P ρ N w0 h' w (execOp ce o) v:=by
 simp only [af] at hx
 split at hx
 ·rename_i hcl
  split at hx
  ·rename_i v' hp
   split at hx
   ·rename_i hv
    cases hx
    exact MR hR hs hcl hrel hp hv
   ·cases hx
  ·cases hx
 ·cases hx
theorem FG (hR:bW P ρ N w0 h w) {b:Builtin} {args:List Operand} {argTypes:List TypeId} {dst:Option Tmp} {ty:TypeId} {pos:String} {after:Array Edge} {guard:Option (Nat × Bool)} {ao:j8}
  (hc:gT P {dst,op:=.call ⟨.builtin b,⟨args⟩,⟨argTypes⟩⟩,type:=ty,pos,after,guard} ⟨.builtin b,⟨args⟩,⟨argTypes⟩⟩=some ao)
  (hrel:∀x∈args,Rv ρ (aj ts x) (ce x)) {v:Value} (hx:af P ts h ao=some (v,h')):
  bq P ρ N w0 h' w (execOp ce {dst,op:=.call ⟨.builtin b,⟨args⟩,⟨argTypes⟩⟩,type:=ty,pos,after,guard}) v:=by
 have hops:∀x∈(Op.call ⟨.builtin b,⟨args⟩,⟨argTypes⟩⟩).operands,Rv ρ (aj ts x) (ce x):=by
  intro x hx
  refine hrel x ?_
  simpa [Op.operands,Call.operands] using hx
 simp only [gT] at hc
 split at hc
 ·
  rename_i x t
  split at hc
  ·rename_i e ht
   cases hc
   simp only [af] at hx
   have hxr:=hrel x (by simp)
   split at hx
   ·rename_i a n skip hp
    rw [hp] at hxr
    cases hx
    generalize hcx:ce x=cx at hxr
    refine ⟨ρ,w,.value (.int .i64 n),.int .i64 n,ρ.le_refl,hR,.int _ _,?_,.inl rfl⟩
    cases hxr with
    |AE=>simp [execOp,resolve,invoke,builtin,Builtin.len_,run_underlying ht,hcx,goInt]
    |slice=>simp [execOp,resolve,invoke,builtin,Builtin.len_,run_underlying ht,hcx,goInt]
   ·cases hx
  ·cases hc
   exact iH hR (fun _ _=>vR) hops hx
 ·
  rename_i x t
  split at hc
  ·rename_i e ht
   cases hc
   simp only [af] at hx
   have hxr:=hrel x (by simp)
   split at hx
   ·rename_i n cp hp
    rw [hp] at hxr
    cases hx
    generalize hcx:ce x=cx at hxr
    refine ⟨ρ,w,.value (.int .i64 cp),.int .i64 cp,ρ.le_refl,hR,.int _ _,?_,.inl rfl⟩
    cases hxr
    simp [execOp,resolve,invoke,builtin,Builtin.cap_,run_underlying ht,hcx,goInt]
   ·cases hx
  ·cases hc
 ·
  rename_i s x t u
  split at hc
  ·rename_i e ht
   split at hc
   ·rename_i i du hi hu
    split at hc
    ·rename_i hcond
     simp only [Bool.and_eq_true,decide_eq_true_eq] at hcond
     obtain ⟨⟨hdu,hz⟩,hpos⟩:=hcond
     obtain ⟨z,hz⟩:=Option.isSome_iff_exists.1 hz
     cases hc
     simp only [af] at hx
     split at hx
     ·cases hx
     ·rename_i m new hsrc
      split at hx
      ·rename_i h12
       simp only [Bool.and_eq_true,decide_eq_true_eq] at h12
       exact (HX (ty:=ty) hR ht hi hz hu hdu (hrel s (by simp)) (hrel x (by simp)) hsrc h12.1 h12.2 hx).cj fun w=>by
        simp [execOp,resolve,invoke,builtin]
      ·cases hx
    ·cases hc
   ·cases hc
  ·cases hc
 ·
  rename_i x y t u
  split at hc
  ·rename_i e ht
   split at hc
   ·rename_i hie
    obtain ⟨i,hi⟩:=Option.isSome_iff_exists.1 hie
    cases hc
    simp only [af] at hx
    have hxr:=hrel x (by simp)
    have hyr:=hrel y (by simp)
    split at hx
    ·rename_i a n sk b m sk' hp hq
     rw [hp] at hxr;rw [hq] at hyr
     split at hx
     ·rename_i h0
      cases hx
      have hmin:Nat.min m n=0:=by rcases h0 with h0 |h0<;>simp [h0]
      generalize hcx:ce x=cx at hxr
      generalize hcy:ce y=cy at hyr
      refine ⟨ρ,w,.value (.int .i64 0),.int .i64 0,ρ.le_refl,hR,.int _ _,?_,.inl rfl⟩
      cases hxr<;>cases hyr<;>simp [execOp,resolve,invoke,builtin,Builtin.copy_,run_underlying ht,hcx,hcy,Builtin.lenOf,sizeOf,typeInfo,hi,hmin,Builtin.firstCells,loadCells,loadCellsFrom,storeCells,goInt]
     ·cases hx
    ·cases hx
   ·cases hc
  ·cases hc
 ·
  cases hc;cases hx
 ·
  rename_i x
  cases hc
  simp only [af] at hx
  have hxr:=hrel x (by simp)
  split at hx
  ·rename_i hp
   rw [hp] at hxr
   cases hx
   generalize hcx:ce x=cx at hxr
   refine ⟨ρ,w,.value (.pointer none),.pointer none,ρ.le_refl,hR,.Fk,?_,.inl rfl⟩
   cases hxr
   simp [execOp,resolve,invoke,builtin,hcx,Lib.run_unsafeSliceData_nil]
  ·rename_i a n sk hp
   rw [hp] at hxr
   split at hx
   ·cases hx
   ·rename_i h0
    cases hx
    obtain ⟨i,off,s⟩:=a
    obtain ⟨rfl,B,O,c,hρ,hle,hu⟩:=tj hxr h0
    refine ⟨ρ,w,.value (.pointer (some ⟨B,O+off,none⟩)),_,ρ.le_refl,hR,.ptr i off B O c hρ,?_,.inl rfl⟩
    simp [execOp,resolve,invoke,builtin,hu,Lib.run_unsafeSliceData_row w _ _ _ n (fL c sk) (by omega)]
  ·cases hx
 ·
  rename_i x n t it
  split at hc
  ·rename_i e ht
   split at hc
   ·rename_i he
    split at hc
    ·rename_i hce
     have hce1:P.cellsOf e=1:=by simpa using hce
     cases hc
     simp only [af] at hx
     have hxr:=hrel x (by simp)
     have hnr:=hrel n (by simp)
     split at hx
     ·rename_i k hp hq
      rw [hp] at hxr;rw [hq] at hnr
      cases hx
      have h1:=jr hnr
      generalize hcx:ce x=cx at hxr
      refine ⟨ρ,w,.value (.string ⟨#[]⟩),.string ⟨#[]⟩,ρ.le_refl,hR,.string _,?_,.inl rfl⟩
      cases hxr
      have hdef:Builtin.unsafeString_ #[t,it] ty #[.pointer none,.int k 0]=
        (do
         let n ← asInt (.int k 0)
         if n < 0 then runtimePanic (.error "unsafe.String: len out of range")
         if n > IntKind.i64.max then unsupported (.unsafePointer "String: a length above the largest int")
         if n=0 then pure (.string .empty)
         else runtimePanic (.error "unsafe.String: ptr is nil and len is not zero")):=rfl
      have hmax:IntKind.i64.max=9223372036854775807:=rfl
      simp [execOp,resolve,invoke,builtin,hcx,h1,hdef,asInt,asIntOf,hmax]
      rfl
     ·rename_i p m hp hq
      rw [hp] at hxr;rw [hq] at hnr
      have h1:=jr hnr
      obtain ⟨i,off,s⟩:=p
      split at hx
      ·rename_i hs tight cs e' rows hsp hg
       split at hx
       ·rename_i hcond
        obtain ⟨h0,hle,rfl,hm,hoff⟩:=hcond
        obtain ⟨l,hl,he'⟩:=aa hx
        cases he'
        obtain ⟨rfl,_⟩:=ko hxr
        simp only at hoff
        subst hoff
        obtain ⟨n',rfl⟩:=Int.eq_ofNat_of_zero_le (Int.le_of_lt h0)
        simp only [Int.toNat_natCast,Nat.zero_add,List.drop_zero] at hle hm hl
        have h0':0 < n':=by omega
        refine (FB (it:=it) (ty:=ty) hR ht hce1 hxr hg h0' hle hm hl).cj fun w=>?_
        rw [show ((n':Int))=Int.ofNat n' from rfl] at *
        simp [execOp,resolve,invoke,builtin,h1]
       ·cases hx
      ·cases hx
     ·cases hx
    ·cases hc
   ·cases hc
  ·cases hc
 ·cases hc;exact iH hR (fun _ _=>vR) hops hx
 ·cases hc;exact iH hR (fun _ _=>vR) hops hx
 ·cases hc
theorem MT (hR:bW P ρ N w0 h w) {g:FuncId} {fn:Func} {args:List Operand} {argTypes:Array TypeId} {dst:Option Tmp} {ty:TypeId} {pos:String} {after:Array Edge} {guard:Option (Nat × Bool)} {ao:j8}
  (hfn:P.funcs[g]?=some fn) (hbn:fn.body.isNone=true) (hfe:ce (.func g)= .func (.func g) #[] #[]) (hc:uf P fn args=some ao)
  (hargs:∀x∈args,Rv ρ (aj ts x) (ce x)) {v:Value} (hx:af P ts h ao=some (v,h')):
  bq P ρ N w0 h' w (execOp ce {dst,op:=.call ⟨.value (.func g),⟨args⟩,argTypes⟩,type:=ty,pos,after,guard}) v:=by
 unfold uf at hc
 by_cases hor':fn.origin= ""
 ·rw [if_pos hor'] at hc
  by_cases hn':fn.name= "internal/abi.NoEscape"
  ·rw [if_pos hn'] at hc
   cases hc
   simp only [af] at hx
   have hm:=RL.vt (ce:=ce) hargs
   split at hx
   ·rename_i x hl
    cases hx
    rw [hl] at hm
    generalize hcm:args.map ce=ca at hm
    cases hm with
    |cons hxr ht=>
     rename_i u m
     cases ht
     obtain ⟨f1,f2⟩:=AK fn hn' hor'
     refine ⟨ρ,w,.value u,u,ρ.le_refl,hR,hxr,?_,.inl rfl⟩
     have:=tF (w:=w) (w':=w) (u:=u) (args:=#[u]) hfn hbn (by rw [hn'];rfl) f1 f2 rfl
     simp [execOp,resolve,invoke,Deferred.ofValue,hfe,hcm,this]
   ·cases hx
  ·rw [if_neg hn'] at hc
   by_cases hn2:fn.name= "internal/bytealg.IndexByteString"
   ·rw [if_pos hn2] at hc
    split at hc
    ·rename_i s b
     cases hc
     simp only [af] at hx
     have hsr:=hargs s (by simp)
     have hbr:=hargs b (by simp)
     split at hx
     ·rename_i st c hp hq
      rw [hp] at hsr;rw [hq] at hbr
      have h1:=tG hsr
      have h2:=jr hbr
      cases hx
      obtain ⟨f1,f2⟩:=zI fn hn2 hor'
      have hr:=Lib.run_indexByteString (P:=P) st c w
      have hidx:C3 st.data.toList c.toNat.toUInt8 0=Lib.indexByte st.data.toList c.toNat.toUInt8:=by
       rw [Lv];split<;>omega
      rw [← hidx] at hr
      refine ⟨ρ,w,_,_,ρ.le_refl,hR,.int _ _,?_,.inl rfl⟩
      have:=tF hfn hbn (by rw [hn2];rfl) f1 f2 hr
      simp [execOp,resolve,invoke,Deferred.ofValue,hfe,h1,h2,this]
     ·cases hx
    ·cases hc
   ·rw [if_neg hn2] at hc
    by_cases hn3:fn.name= "internal/bytealg.MakeNoZero"
    ·rw [if_pos hn3] at hc
     split at hc
     ·rename_i n t hrt
      split at hc
      ·rename_i e ht
       by_cases hsz':bl P e=some 1
       ·rw [if_pos hsz'] at hc
        cases hc
        simp only [af] at hx
        have hnr:=hargs n (by simp)
        split at hx
        ·rename_i k hp
         rw [hp] at hnr
         have h1:=jr hnr
         split at hx
         ·rename_i hle
          cases hx
          obtain ⟨k,rfl⟩:=Int.eq_ofNat_of_zero_le hle.1
          simp only [Int.toNat_natCast] at hle ⊢
          have hk:k<=281474976710656:=by have:=hle.2;simp only [cF] at this;omega
          obtain ⟨f1,f2⟩:=xN fn hn3 hor'
          have hrts:fn.resultTypes=#[t]:=by
           rw [← Array.toList_inj,hrt]
          obtain ⟨cs,hrun,hge,hmx⟩:=Lib.run_makeNoZero (P:=P) w fn.params t e ht k hk
          rw [← hrts] at hrun
          have hcm:cs.size<=maxLen:=hmx (by simp only [maxLen];omega)
          have hrep:=vO (hR.drew.drew) (cs:=[]) (olds:=[]) (e:=e) (rows:=0) (size:=1) (cap:=cs.size) (rest:=cs) .nil hsz' (by simp) (Nat.zero_le _) hcm (by simp)
          have he0:(([]:List Value).toArray++cs)=cs:=by simp
          rw [he0] at hrep
          refine ⟨_,_,_,.slice (some ⟨w.heap.size,0,none⟩) k cs.size,bz.eM _ (hR.fresh h.next (Nat.le_refl _)),hrep,?_,?_,.inl rfl⟩
          ·have:=Rv.l9 (ρ:=ρ.lN h.next (⟨w.heap.size,0,none⟩,cs.size)) h.next 0 k w.heap.size 0 cs.size (bz.aY _ _ _) (by omega)
           simpa using this
          ·have:=tF hfn hbn (by rw [hn3];rfl) f1 f2 hrun
           simpa [execOp,resolve,invoke,Deferred.ofValue,hfe,h1] using this
         ·cases hx
        ·cases hx
       ·rw [if_neg hsz'] at hc;cases hc
      ·cases hc
     ·cases hc
    ·rw [if_neg hn3] at hc;cases hc
 ·rw [if_neg hor'] at hc;cases hc
theorem Lx (hR:bW P ρ N w0 h w) {c:Call} {dst:Option Tmp} {ty:TypeId} {pos:String} {after:Array Edge} {guard:Option (Nat × Bool)} {ao:j8}
  (hc:gT P {dst,op:=.call c,type:=ty,pos,after,guard} c=some ao)
  (hrel:∀x∈c.operands,Rv ρ (aj ts x) (ce x)) {v:Value} (hx:af P ts h ao=some (v,h')):
  bq P ρ N w0 h' w (execOp ce {dst,op:=.call c,type:=ty,pos,after,guard}) v:=by
 obtain ⟨callee,⟨args⟩,⟨argTypes⟩⟩:=c
 cases callee with
 |invoke r m=>simp [gT] at hc
 |builtin b=>exact FG hR hc (fun x hx=>hrel x (by simpa [Call.operands] using hx)) hx
 |value f=>
  have hargs:∀x∈args,Rv ρ (aj ts x) (ce x):=fun x hx=>hrel x (by simp [Call.operands,hx])
  simp only [gT] at hc
  split at hc
  ·rename_i g
   split at hc
   ·rename_i fn hfn
    split at hc
    ·split at hc
     ·cases hc
     ·cases hc
      rcases lu P (.func g) args with e |⟨_,_,_,e⟩<;>(rw [e] at hx;cases hx)
    ·rename_i hbody
     have hbn:fn.body.isNone=true:=by rw [hbody];rfl
     have hfe:ce (.func g)= .func (.func g) #[] #[]:=by
      have:=hrel (.func g) (by simp [Call.operands])
      simp only [aj] at this
      generalize ce (.func g)=cf at this ⊢
      cases this with
      |func _ a a' b b' ha hb=>
       have h1:=qH (a:=#[]) (b:=a') (by have:=ha.length;simpa using (List.eq_nil_of_length_eq_zero this.symm))
       have h2:=qH (a:=#[]) (b:=b') (by have:=hb.length;simpa using (List.eq_nil_of_length_eq_zero this.symm))
       rw [h1,h2]
     exact MT hR hfn hbn hfe hc hargs hx
   ·cases hc
  ·rename_i g a b
   split at hc
   ·split at hc
    ·split at hc
     ·cases hc
     ·cases hc;cases hx
    ·cases hc
   ·cases hc
  ·cases hc;cases hx
  ·cases hc
theorem NF (hR:bW P ρ N w0 h w) {o:Oper} {ao:j8} (hc:dQ P o=some ao)
  (hrel:∀x∈o.op.operands,Rv ρ (aj ts x) (ce x)) {v:Value} (hx:af P ts h ao=some (v,h')):bq P ρ N w0 h' w (execOp ce o) v:=by
 obtain ⟨dst,op,ty,pos,after,guard⟩:=o
 cases op<;>simp only [dQ] at hc<;>(try (cases hc;done))<;>simp only [Op.operands] at hrel
 case move x=>
  cases hc
  simp only [af,Option.some.injEq,Prod.mk.injEq] at hx
  obtain ⟨rfl,rfl⟩:=hx
  exact ⟨ρ,w,_,_,ρ.le_refl,hR,hrel x (by simp),rfl,.inl rfl⟩
 case assign x=>
  cases hc
  simp only [af,Option.some.injEq,Prod.mk.injEq] at hx
  obtain ⟨rfl,rfl⟩:=hx
  exact ⟨ρ,w,_,_,ρ.le_refl,hR,hrel x (by simp),rfl,.inl rfl⟩
 case pick c a b=>
  cases hc
  simp only [af] at hx
  split at hx
  ·rename_i t ht
   simp only [Option.some.injEq,Prod.mk.injEq] at hx
   obtain ⟨rfl,rfl⟩:=hx
   have hcr:=hrel c (by simp)
   rw [ht] at hcr
   have hcb:=J4 hcr
   refine ⟨ρ,w,.value (if t then ce a else ce b),if t then ce a else ce b,ρ.le_refl,hR,?_,?_,.inl rfl⟩
   ·cases t
    ·exact hrel b (by simp)
    ·exact hrel a (by simp)
   ·simp [execOp,hcb,asBool]
  ·cases hx
 case alloc e=>
  obtain ⟨z,hz,rfl⟩:=aa hc
  simp only [af,Option.some.injEq,Prod.mk.injEq] at hx
  obtain ⟨rfl,rfl⟩:=hx
  exact (J2 hR hz).cj fun _=>rfl
 case box e x=>
  obtain ⟨n,hn,rfl⟩:=aa hc
  simp only [af] at hx
  split at hx
  ·rename_i hl
   cases hx
   exact (MQ hR (by rw [hl];exact hn) (hrel x (by simp))).cj fun _=>rfl
  ·cases hx
 case build t ps=>
  split at hc
  ·rename_i fs z ht hz
   obtain ⟨it,zv,hi,hzv,hzl,hzs,hzlen⟩:=fU hz
   split at hc
   ·rename_i places hpl
    obtain ⟨aps,haps,rfl⟩:=aa hc
    simp only [af] at hx
    obtain ⟨l,hl,he⟩:=aa hx
    cases he
    obtain ⟨cells',hf,hr⟩:=uh (ρ:=ρ) (ce:=ce) ps.toList aps l z zv.cells haps hl (fun p hp=>hrel p.2 (by simp;exact ⟨p.1,by simpa using hp⟩)) (by rw [hzl];exact cN bX hzs)
    have hb:P.built t (ps.map fun (p:Nat × Operand)=>(p.1,ce p.2)).toList=some cells':=by
     simp only [Program.built,hi,ht,hzv,hpl]
     simpa using hf
    exact (bq.pure (.agg cells') hR (.agg _ _ (by simpa using hr)) (run_build w t _ cells' hb)).cj fun _=>rfl
   ·cases hc
  ·rename_i len e z ht hz
   obtain ⟨it,zv,hi,hzv,hzl,hzs,hzlen⟩:=fU hz
   split at hc
   ·rename_i n hn
    obtain ⟨ie,hie,hien⟩:=mb hn
    obtain ⟨aps,haps,rfl⟩:=aa hc
    simp only [af] at hx
    obtain ⟨l,hl,he⟩:=aa hx
    cases he
    obtain ⟨cells',hf,hr⟩:=uh (ρ:=ρ) (ce:=ce) ps.toList aps l z zv.cells haps hl (fun p hp=>hrel p.2 (by simp;exact ⟨p.1,by simpa using hp⟩)) (by rw [hzl];exact cN bX hzs)
    have hb:P.built t (ps.map fun (p:Nat × Operand)=>(p.1,ce p.2)).toList=some cells':=by
     simp only [Program.built,hi,ht,hzv,hie,hien]
     simpa using hf
    exact (bq.pure (.agg cells') hR (.agg _ _ (by simpa using hr)) (run_build w t _ cells' hb)).cj fun _=>rfl
   ·cases hc
  ·cases hc
 case buildSlice t n ps=>
  split at hc
  ·rename_i e ht
   split at hc
   ·rename_i s z hs hz
    split at hc
    ·rename_i hle
     obtain ⟨aps,haps,rfl⟩:=aa hc
     simp only [af] at hx
     obtain ⟨l,hl,he⟩:=aa hx
     cases he
     exact (AJ hR ht hs hz hle.1 hle.2 haps hl fun p hp=>hrel p.2 (by simp;exact ⟨p.1,by simpa using hp⟩)).cj fun _=>rfl
    ·cases hc
   ·cases hc
  ·cases hc
 case load t a=>
  obtain ⟨⟨agg,n⟩,hl,rfl⟩:=aa hc
  simp only [af] at hx
  split at hx
  ·rename_i p hp
   have har:=hrel a (by simp)
   rw [hp] at har
   split at hx
   ·rename_i cs hcs
    have hv:(if agg then some (Value.agg cs.toArray) else one cs)=some v/\h'=h:=by
     cases agg with
     |true=>simp only [if_true,Option.some.injEq,Prod.mk.injEq] at hx ⊢;exact ⟨hx.1,hx.2.symm⟩
     |false=>
      simp only [Bool.false_eq_true,if_false] at hx ⊢
      obtain ⟨v',hv',he⟩:=aa hx
      simp only [Prod.mk.injEq] at he
      exact ⟨by rw [hv',he.1],he.2.symm⟩
    obtain ⟨hv,rfl⟩:=hv
    obtain ⟨u,hu,hru⟩:=Gh hR hl har hcs hv
    exact (bq.pure u hR hru hu).cj fun _=>rfl
   ·cases hx
  ·cases hx
 case store t a x=>
  obtain ⟨n,hn,rfl⟩:=aa hc
  simp only [af] at hx
  split at hx
  ·rename_i p hp
   have har:=hrel a (by simp)
   rw [hp] at har
   obtain ⟨i,off,s⟩:=p
   split at hx
   ·rename_i hs tight cs e rows hsp hg
    split at hx
    ·rename_i hcond
     simp only [Bool.and_eq_true,decide_eq_true_eq] at hcond
     cases hx
     obtain ⟨rfl,_⟩:=ko har
     obtain ⟨w',hrun,hR'⟩:=J1 hR hn har (hrel x (by simp)) hg hcond.1.1 (Nat.le_of_ble_eq_true hcond.1.2) hcond.2
     exact ⟨ρ,w',.skip,undef,ρ.le_refl,hR',Rv.undef,by simp [execOp,hrun],.inr ⟨rfl,rfl⟩⟩
    ·cases hx
   ·cases hx
  ·cases hx
 case nilCheck x=>
  cases hc
  have hxr:=hrel x (by simp)
  simp only [af] at hx
  split at hx
  ·rename_i p hp
   rw [hp] at hxr
   cases hx
   obtain ⟨i,off,s⟩:=p
   obtain ⟨rfl,B,O,c,hρ,hu⟩:=ko hxr
   exact ⟨ρ,w,_,_,ρ.le_refl,hR,.ptr i off B O c hρ,by simp only [execOp,hu];rfl,.inl rfl⟩
  ·rename_i f a b hp
   rw [hp] at hxr
   cases hx
   generalize hcx:ce x=cx at hxr
   cases hxr with
   |func _ _ a' _ b' ha hb=>exact ⟨ρ,w,_,_,ρ.le_refl,hR,.func f a a' b b' ha hb,by simp only [execOp,hcx];rfl,.inl rfl⟩
  ·rename_i l a b hp
   rw [hp] at hxr
   cases hx
   generalize hcx:ce x=cx at hxr
   cases hxr with
   |yield _ B O c hρ=>exact ⟨ρ,w,_,_,ρ.le_refl,hR,.yield l B O c hρ,by simp only [execOp,hcx];rfl,.inl rfl⟩
  ·cases hx
 case binOp op t x y yt=>
  have hxr:=hrel x (by simp)
  have hyr:=hrel y (by simp)
  have hgen:∀{v:Value},af P ts h (.gen {dst,op:=.binOp op t x y yt,type:=ty,pos,after,guard})=some (v,h')->bq P ρ N w0 h' w (execOp ce {dst,op:=.binOp op t x y yt,type:=ty,pos,after,guard}) v:=fun hx=>
   iH hR (fun _ _ e=>by cases e) (by simpa [Op.operands] using hrel) hx
  split at hc
  ·cases hc
   simp only [af] at hx
   split at hx
   ·rename_i k a k' b hp hq
    rw [hp] at hxr;rw [hq] at hyr
    have h1:=jr hxr
    have h2:=jr hyr
    split at hx
    ·rename_i hk
     obtain ⟨v',hv',he⟩:=aa hx
     cases he
     have hr:=J3 (P:=P) hv' (by simpa [or_assoc] using hk) t w
     have hsc:aS v=true:=by
      unfold lp at hv'
      split at hv'<;>first |(cases hv';rfl) |(split at hv'<;>first |(cases hv';done) |(cases hv';rfl))
     exact ⟨ρ,w,.value v,v,ρ.le_refl,hR,bX hsc,by simp [execOp,h1,h2,eqGuard_at_int,hr],.inl rfl⟩
    ·cases hx
   ·cases hx
  ·rename_i e ht
   split at hc
   ·rename_i hcond
    cases hc
    obtain ⟨sz,hsz,hsz0⟩:∃sz,bl P e=some sz/\sz≠0:=by
     have:=hcond.2
     cases hs:bl P e with
     |none=>simp [hs] at this
     |some sz=>exact ⟨sz,rfl,by simpa [hs] using this⟩
    exact zJ hR hcond.1 ht (kind:=0) ⟨sz,hsz,hsz0⟩ hxr hyr hx dst ty pos after guard
   ·cases hc
  ·rename_i e ht
   split at hc
   ·rename_i hcond
    cases hc
    exact zJ hR hcond ht (kind:=1) trivial hxr hyr hx dst ty pos after guard
   ·cases hc
  ·rename_i ht
   split at hc
   ·rename_i hcond
    cases hc
    exact zJ hR hcond ht (kind:=2) trivial hxr hyr hx dst ty pos after guard
   ·cases hc
  ·cases hc;exact hgen hx
  ·cases hc
 case unOp op t x=>
  cases hc
  exact iH hR (fun _ _ e=>by cases e) (by simpa [Op.operands] using hrel) hx
 case convert s t x=>
  have hxr:=hrel x (by simp)
  split at hc
  ·rename_i e hs hd
   split at hc
   ·rename_i he
    split at hc
    rotate_left
    ·cases hc
    rename_i he1
    cases hc
    simp only [af] at hx
    split at hx
    ·rename_i st hp
     rw [hp] at hxr
     have h1:=tG hxr
     split at hx
     ·rename_i hm
      cases hx
      refine (D1 (src:=s) hR hs hd he he1 hm).cj fun w=>by simp [execOp,h1]
     ·cases hx
    ·cases hx
   ·cases hc
  ·rename_i e hs hd
   split at hc
   ·rename_i he
    cases hc
    simp only [af] at hx
    split at hx
    ·rename_i cs hsrc
     obtain ⟨l,hl,hh⟩:=aa hx
     cases hh
     unfold ep at hsrc
     split at hsrc
     ·rename_i a n c hp
      obtain ⟨⟨m,cs'⟩,hsrc',hcs⟩:=aa hsrc
      simp only at hcs
      subst hcs
      rw [hp] at hxr
      exact (D2 hR hs hd he hxr rfl hsrc' hl).cj fun _=>rfl
     ·cases hsrc
    ·cases hx
   ·cases hc
  ·rename_i e' e hs hd
   split at hc
   ·rename_i he'
    split at hc
    ·rename_i hst
     subst hst
     cases hc
     simp only [af] at hx
     split at hx
     ·rename_i a n skip hp
      rw [hp] at hxr
      obtain ⟨i,off,sp⟩:=a
      split at hx
      ·rename_i cs e2 rows hsp hg
       cases hx
       obtain ⟨rfl,_⟩:=rP hxr
       exact (Lu hR hd he' hxr hg).cj fun _=>rfl
      ·cases hx
     ·cases hx
    ·cases hc
   ·cases hc
  ·rename_i e hs hd
   split at hc
   ·rename_i hcond
    cases hc
    obtain ⟨sz,hsz,hsz0⟩:∃sz,bl P e=some sz/\sz≠0:=by
     cases hss:bl P e with
     |none=>simp [hss] at hcond
     |some sz=>exact ⟨sz,rfl,by simpa [hss] using hcond⟩
    simp only [af] at hx
    split at hx
    ·rename_i hp
     rw [hp] at hxr
     cases hx
     generalize hcx:ce x=cx at hxr
     cases hxr
     exact ⟨ρ,w,.value (.pointer none),.pointer none,ρ.le_refl,hR,.Fk,by simp [execOp,hcx,convert,run_underlying hs,run_underlying hd,Conv.unsafePointer],.inl rfl⟩
    ·rename_i p hp
     rw [hp] at hxr
     obtain ⟨i,off,sp⟩:=p
     split at hx
     ·rename_i cs e2 rows hsp hg
      split at hx
      ·rename_i hlt
       cases hx
       obtain ⟨rfl,_⟩:=ko hxr
       exact (Cs hR hs hd hsz hsz0 hxr hg hlt).cj fun _=>rfl
      ·cases hx
     ·cases hx
    ·cases hx
   ·cases hc
  ·rename_i u hs hd
   split at hc
   ·rename_i hu
    cases hc
    simp only [af] at hx
    split at hx
    ·rename_i hp
     rw [hp] at hxr
     cases hx
     generalize hcx:ce x=cx at hxr
     cases hxr
     exact ⟨ρ,w,.value (.pointer none),.pointer none,ρ.le_refl,hR,.Fk,by simp [execOp,hcx,convert,run_underlying hs,run_underlying hd,Conv.unsafePointer],.inl rfl⟩
    ·rename_i p hp
     rw [hp] at hxr
     obtain ⟨i,off,sp⟩:=p
     split at hx
     ·rename_i cs e2 rows hsp hg
      split at hx
      ·rename_i hlt
       cases hx
       obtain ⟨rfl,_⟩:=ko hxr
       exact (Ct hR hs hd hu hxr hg hlt).cj fun _=>rfl
      ·cases hx
     ·cases hx
    ·cases hx
   ·cases hc
  ·cases hc
   exact iH hR (fun _ _ e=>by cases e) (by simpa [Op.operands] using hrel) hx
  ·cases hc
 case makeInterface t x=>
  split at hc
  ·cases hc
  ·rename_i d hd hne
   cases hc
   simp only [af,Option.some.injEq,Prod.mk.injEq] at hx
   obtain ⟨rfl,rfl⟩:=hx
   refine (bq.pure (.iface t (ce x)) hR (.iface t _ _ (hrel x (by simp))) ?_).cj fun _=>rfl
   cases d<;>first |exact absurd rfl (hd _) |simp [Instr.makeInterface,run_underlying hne]
  ·cases hc
 case makeFunc fn a b=>
  cases fn<;>simp only at hc<;>(try (cases hc;done))
  rename_i f
  cases hc
  simp only [af,Option.some.injEq,Prod.mk.injEq] at hx
  obtain ⟨rfl,rfl⟩:=hx
  have ha:RL ρ (a.toList.map (aj ts)) (a.toList.map ce):=RL.vt fun x hx=>hrel x (by simp at hx ⊢;exact .inl hx)
  have hb:RL ρ (b.toList.map (aj ts)) (b.toList.map ce):=RL.vt fun x hx=>hrel x (by simp at hx ⊢;exact .inr hx)
  refine ⟨ρ,w,.value (.func (.func f) (a.map ce) (b.map ce)),_,ρ.le_refl,hR,.func f _ _ _ _ (by simpa using ha) (by simpa using hb),?_,.inl rfl⟩
  simp [execOp,Instr.makeFunc]
 case makeSlice t l c=>
  split at hc
  ·rename_i e ht
   split at hc
   ·rename_i i z hi hz
    split at hc
    ·rename_i hpos
     cases hc
     simp only [af] at hx
     have hlr:=hrel l (by simp)
     have hcr:=hrel c (by simp)
     split at hx
     ·rename_i k1 n1 k2 n2 hp hq
      rw [hp] at hlr;rw [hq] at hcr
      have h1:=jr hlr
      have h2:=jr hcr
      split at hx
      ·rename_i hcond
       obtain ⟨h0,rfl,hb,hm⟩:=hcond
       cases hx
       exact (Cr (k:=k1) (k':=k2) hR ht hi hz h0 hb hm).cj fun w=>by simp [execOp,h1,h2]
      ·cases hx
     ·cases hx
    ·cases hc
   ·cases hc
  ·cases hc
 case slice t x lo hi mx=>
  have hxr:=hrel x (by simp)
  cases mx with
  |some m=>
   cases hi with
   |none=>simp only at hc;cases hc
   |some hh=>
    simp only at hc
    split at hc
    ·rename_i e ht
     obtain ⟨n,hn,rfl⟩:=aa hc
     exact (H8 (hi:=some hh) hR ht hn (by simp) hxr (fun y hy=>hrel y (by simp at hy;simp [hy])) (fun y hy=>hrel y (by simp at hy;simp [hy])) (hrel m (by simp)) hx).cj fun w=>by simp [execOp]
    ·cases hc
  |none=>
   simp only at hc
   split at hc
   ·rename_i e ht
    obtain ⟨n,hn,rfl⟩:=aa hc
    exact (FC hR ht hn hxr (fun y hy=>hrel y (by simp at hy;simp [hy])) (fun y hy=>hrel y (by simp at hy;simp [hy])) hx).cj fun w=>by simp [execOp]
   ·cases hc
    exact iH hR (fun _ _ e=>by cases e) (by simpa [Op.operands] using hrel) hx
   ·rename_i len e ht
    obtain ⟨n,hn,rfl⟩:=aa hc
    exact (D6 hR ht hn hxr (fun y hy=>hrel y (by simp at hy;simp [hy])) (fun y hy=>hrel y (by simp at hy;simp [hy])) hx).cj fun w=>by simp [execOp]
   ·cases hc
 case makeMap t r=>
  cases r with
  |some r=>simp only at hc;cases hc
  |none=>
   simp only [Option.some.injEq] at hc
   subst hc
   simp only [af,Option.some.injEq,Prod.mk.injEq] at hx
   obtain ⟨rfl,rfl⟩:=hx
   exact (FE hR t).cj fun w=>by simp [execOp]
 case lookup t m k ok=>
  have hmr:=hrel m (by simp)
  have hkr:=hrel k (by simp)
  split at hc
  ·rename_i kt e ht
   split at hc
   ·rename_i z hz
    split at hc
    ·rename_i hzc
     cases hc
     obtain ⟨i,hi,hz⟩:=kj hz
     simp only [af] at hx
     split at hx
     ·rename_i es hes
      obtain ⟨y,hy,he⟩:=aa hx
      simp only [Prod.mk.injEq] at he
      obtain ⟨rfl,rfl⟩:=he
      exact (HY hR ht hi hz hzc hmr hkr hes hy).cj fun w=>by simp [execOp]
     ·cases hx
    ·cases hc
   ·cases hc
  ·cases hc
 case mapUpdate t m k y=>
  have hmr:=hrel m (by simp)
  split at hc
  ·rename_i kt e ht
   cases hc
   simp only [af] at hx
   split at hx
   ·rename_i b hp
    rw [hp] at hmr
    split at hx
    ·rename_i es hg
     obtain ⟨es',hes',he⟩:=aa hx
     simp only [Prod.mk.injEq] at he
     obtain ⟨rfl,rfl⟩:=he
     obtain ⟨w',hrun,hR'⟩:=Cv hR ht hmr (hrel k (by simp)) (hrel y (by simp)) hg hes'
     exact ⟨ρ,w',.skip,undef,ρ.le_refl,hR',Rv.undef,by simp [execOp,hrun],.inr ⟨rfl,rfl⟩⟩
    ·cases hx
   ·cases hx
  ·cases hc
 case range t x=>
  have hxr:=hrel x (by simp)
  split at hc
  ·rename_i ht
   cases hc
   simp only [af] at hx
   split at hx
   ·rename_i s hp
    rw [hp] at hxr
    have h1:=tG hxr
    cases hx
    exact (D5 hR ht s).cj fun w=>by simp [execOp,h1]
   ·cases hx
  ·cases hc
 case next it b=>
  have hxr:=hrel it (by simp)
  cases b with
  |false=>simp only at hc;cases hc
  |true=>
   simp only [Option.some.injEq] at hc
   subst hc
   simp only [af] at hx
   split at hx
   ·rename_i b hp
    rw [hp] at hxr
    split at hx
    ·rename_i s pos hg
     exact (FF hR hxr hg ty hx).cj fun w=>by simp [execOp]
    ·cases hx
   ·cases hx
 case fieldAddr t x f=>
  have hxr:=hrel x (by simp)
  split at hc
  ·rename_i fs ht
   split at hc
   ·rename_i fd hfd
    split at hc
    ·rename_i hcond
     cases hc
     obtain ⟨sz,hsz,hsz0⟩:∃sz,bl P fd.type=some sz/\sz≠0:=by
      cases hss:bl P fd.type with
      |none=>simp [hss] at hcond
      |some sz=>exact ⟨sz,rfl,by simpa [hss] using hcond⟩
     simp only [af] at hx
     split at hx
     ·rename_i p hp
      rw [hp] at hxr
      obtain ⟨i,off,sp⟩:=p
      split at hx
      ·cases hx
       obtain ⟨rfl,_⟩:=ko hxr
       exact (Cu hR ht hfd hsz hsz0 hxr).cj fun _=>rfl
      ·cases hx
     ·cases hx
    ·cases hc
   ·cases hc
  ·cases hc
 case field t x f=>
  have hxr:=hrel x (by simp)
  split at hc
  ·rename_i fs ht
   split at hc
   ·rename_i fd hfd
    obtain ⟨⟨agg,n⟩,hl,rfl⟩:=aa hc
    simp only [af] at hx
    split at hx
    ·rename_i cs hp
     rw [hp] at hxr
     split at hx
     ·rename_i hle
      exact (J5 hR ht hfd hl hxr hle hx).cj fun _=>rfl
     ·cases hx
    ·cases hx
   ·cases hc
  ·cases hc
 case indexAddr t x i=>
  have hxr:=hrel x (by simp)
  have hir:=hrel i (by simp)
  split at hc
  ·rename_i e ht
   obtain ⟨n,hn,rfl⟩:=aa hc
   simp only [af] at hx
   split at hx
   ·rename_i a len skip k m hp hq
    rw [hp] at hxr;rw [hq] at hir
    have h2:=jr hir
    obtain ⟨ib,off,sp⟩:=a
    split at hx
    ·rename_i hcond
     cases hx
     obtain ⟨rfl,B,O,c,hρ,hle,h1⟩:=tj hxr (by omega)
     refine (bq.pure (.pointer (some ⟨B,O+(off+m.toNat * n),none⟩)) hR (.ptr ib _ B O c hρ) ?_).cj fun w=>by rfl
     rw [h1,h2,HW ht hn hcond.1 hcond.2.1]
     simp [Addr.add_lit,Nat.add_assoc]
    ·cases hx
   ·cases hx
  ·rename_i len e ht
   obtain ⟨n,hn,rfl⟩:=aa hc
   simp only [af] at hx
   split at hx
   ·rename_i a k m hp hq
    rw [hp] at hxr;rw [hq] at hir
    have h2:=jr hir
    obtain ⟨ib,off,sp⟩:=a
    split at hx
    ·rename_i hcond
     cases hx
     obtain ⟨rfl,B,O,c,hρ,h1⟩:=ko hxr
     refine (bq.pure (.pointer (some ⟨B,O+(off+m.toNat * n),none⟩)) hR (.ptr ib _ B O c hρ) ?_).cj fun w=>by rfl
     rw [h1,h2,Fz ht hn hcond.1 hcond.2.1]
     simp [Addr.add_lit,Nat.add_assoc]
    ·cases hx
   ·cases hx
  ·cases hc
 case index t x i=>
  split at hc
  ·cases hc;exact iH hR (fun _ _ e=>by cases e) (by simpa [Op.operands] using hrel) hx
  ·rename_i len e ht
   split at hc
   ·rename_i hag
    obtain ⟨n,hn,rfl⟩:=aa hc
    simp only [af] at hx
    split at hx
    ·rename_i cs k j hp hq
     have hxr:=hrel x (by simp)
     have hir:=hrel i (by simp)
     rw [hp] at hxr;rw [hq] at hir
     have hi:=jr hir
     split at hx
     ·rename_i hcond
      cases hx
      exact (H6 (k:=k) hR ht hag hn hxr hcond.1 hcond.2.1 hcond.2.2).cj fun w=>by simp [execOp,hi]
     ·cases hx
    ·cases hx
   ·cases hc;exact iH hR (fun _ _ e=>by cases e) (by simpa [Op.operands] using hrel) hx
  ·cases hc
 case typeAssert x t a ok=>
  split at hc
  ·cases hc;exact iH hR (fun _ _ e=>by cases e) (by simpa [Op.operands] using hrel) hx
  ·rename_i d hd hne
   split at hc
   ·rename_i z hz
    split at hc
    ·rename_i hzc
     cases hc
     obtain ⟨i,hi,hz⟩:=kj hz
     simp only [af] at hx
     obtain ⟨v',hv',he⟩:=aa hx
     simp only [Prod.mk.injEq] at he
     obtain ⟨rfl,rfl⟩:=he
     exact (H7 (xt:=t) hR hne (fun ms e=>hd ms e) hi hz hzc (hrel x (by simp)) hv').cj fun w=>by simp [execOp]
    ·cases hc
   ·cases hc
  ·cases hc
 case extract x i=>
  cases hc
  simp only [af] at hx
  have hxr:=hrel x (by simp)
  split at hx
  ·rename_i vs hp
   rw [hp] at hxr
   obtain ⟨v',hv',he⟩:=aa hx
   cases he
   exact (FD hR hxr hv').cj fun _=>rfl
  ·cases hx
 case call c=>
  exact Lx hR hc hrel hx
 case defer c=>
  split at hc
  ·cases hc;cases hx
  ·cases hc
 case panic x=>cases hc;cases hx
end Go.Ev
