/- The evaluator over a small code, and that what it finds of a call holds of the machine, part 11. -/
import Derived.Test.YtcajalekkffcjaaDoorEv10
namespace Go.Ev
open Go Go.RowKit
variable {P:Program} {rec:Rec}
theorem A4 {a b:Value} (h:MC a b=true):a=b:=by
 unfold MC at h
 split at h
 ·rw [beq_iff_eq.1 h]
 ·simp only [Bool.and_eq_true,beq_iff_eq] at h;rw [h.1,h.2]
 ·rename_i s t
  have:=beq_iff_eq.1 h
  obtain ⟨⟨s⟩⟩:=s;obtain ⟨⟨t⟩⟩:=t
  simp only at this;rw [this]
 ·rw [beq_iff_eq.1 h]
 ·simp only [Bool.and_eq_true,beq_iff_eq] at h;rw [h.1.1,h.1.2,h.2]
 ·rw [beq_iff_eq.1 h]
 ·rfl
 ·rfl
 ·rename_i f a b g c d
  simp only [Bool.and_eq_true,beq_iff_eq,List.isEmpty_iff] at h
  obtain ⟨⟨⟨⟨rfl,h1⟩,h2⟩,h3⟩,h4⟩:=h
  obtain ⟨a⟩:=a;obtain ⟨b⟩:=b;obtain ⟨c⟩:=c;obtain ⟨d⟩:=d
  simp only at h1 h2 h3 h4
  subst h1 h2 h3 h4;rfl
 ·cases h
theorem jN:∀{l m:List Value},Az l m=true->l=m
 | [],[],_=>rfl
 |a :: l,b :: m,h=>by
  simp only [Az,Bool.and_eq_true] at h
  rw [A4 h.1,jN h.2]
 | [],_ :: _,h=>by cases h
 |_ :: _,[],h=>by cases h
section
variable {ts ts':List Value} {h:H}
theorem kg:∀(ps:List (Nat × Nat × Operand)) (len:Nat),(∀x∈ps.map (·.2.2),aj ts x=aj ts' x)->cJ ts len ps=cJ ts' len ps
 | [],_,_=>rfl
 |(off,size,x) :: ps,len,hc=>by
  have h1:aj ts x=aj ts' x:=hc x (by simp)
  simp only [cJ,h1,kg ps len (fun y hy=>hc y (by simp only [List.map_cons,List.mem_cons];exact .inr hy))]
theorem gU {d:Nat}:∀{o:Option Operand},(∀x∈o.toList,aj ts x=aj ts' x)->bound ts d o=bound ts' d o
 |none,_=>rfl
 |some x,hc=>by simp only [bound,hc x (by simp)]
theorem gz {l:List Operand} (hc:∀x∈l,aj ts x=aj ts' x):l.map (aj ts)=l.map (aj ts'):=List.map_congr_left hc
theorem wE {op:j8} (hp:fW op=true) (hc:∀x∈op.vu,aj ts x=aj ts' x):af P ts h op=af P ts' h op:=by
 cases op<;>simp only [j8.vu,List.mem_cons,List.not_mem_nil,or_false,forall_eq_or_imp,forall_eq] at hc<;>
  (try (simp only [af,hc];done))<;>(try rfl)
 case build z ps=>simp only [af,kg ps _ hc]
 case buildSlice e n s z ps=>simp only [af,kg ps _ hc]
 case gen o=>
  simp only [fW] at hp
  have hns:∀cs b,o.op≠ .select cs b:=fun cs b e=>by rw [e] at hp;cases hp
  have he:execOp (aj ts) o=execOp (aj ts') o:=execOp_congr o hns fun x hx=>hc x (by simpa using hx)
  have ha:(o.op.operands.all fun x=>ay (aj ts x))=(o.op.operands.all fun x=>ay (aj ts' x)):=by
   rw [← Array.all_toList,← Array.all_toList]
   have:∀(l:List Operand),(∀x∈l,aj ts x=aj ts' x)->(l.all fun x=>ay (aj ts x))=l.all fun x=>ay (aj ts' x):=by
    intro l
    induction l with
    |nil=>intro _;rfl
    |cons x l ih=>intro hl;simp only [List.all_cons,hl x (by simp),ih fun y hy=>hl y (by simp [hy])]
   exact this _ hc
  simp only [af,he,ha]
 case gI s x lo hi=>
  have h1:=hc.1
  have h2:bound ts 0 lo=bound ts' 0 lo:=gU fun y hy=>hc.2 y (by simp at hy ⊢;exact .inl hy)
  have h3:∀d,bound ts d hi=bound ts' d hi:=fun d=>gU fun y hy=>hc.2 y (by simp at hy ⊢;exact .inr hy)
  simp only [af,h1,h2,h3]
 case slice3 s x lo hi mx=>
  have h1:=hc.1
  have h2:bound ts 0 lo=bound ts' 0 lo:=gU fun y hy=>hc.2 y (by simp at hy ⊢;exact .inl hy)
  have h3:∀d,bound ts d hi=bound ts' d hi:=fun d=>gU fun y hy=>hc.2 y (by simp at hy ⊢;exact .inr (.inl hy))
  have h4:∀d,bound ts d (some mx)=bound ts' d (some mx):=fun d=>gU fun y hy=>hc.2 y (by simp at hy ⊢;exact .inr (.inr hy))
  simp only [af,h1,h2,h3,h4]
 case nM n s x lo hi=>
  have h1:=hc.1
  have h2:bound ts 0 lo=bound ts' 0 lo:=gU fun y hy=>hc.2 y (by simp at hy ⊢;exact .inl hy)
  have h3:∀d,bound ts d hi=bound ts' d hi:=fun d=>gU fun y hy=>hc.2 y (by simp at hy ⊢;exact .inr hy)
  simp only [af,h1,h2,h3]
 case oC f a b=>
  have h1:=gz (l:=a) fun x hx=>hc x (by simp [hx])
  have h2:=gz (l:=b) fun x hx=>hc x (by simp [hx])
  simp only [af,h1,h2]
 case kB args=>
  have h1:=gz (l:=args) hc
  simp only [af,h1]
theorem oI {t:Tmp}:∀{l:List Operand},Operand.tmp t∈l->t∈tmpsOf l
 |x :: l,hm=>by
  rcases List.mem_cons.1 hm with rfl |hm
  ·simp [tmpsOf]
  ·have:=oI hm
   cases x<;>simp [tmpsOf,this]
theorem A5 {o:AO} (hp:fW o.op=true) (hc:∀t∈o.looks,ts[t]?=ts'[t]?):iE P rec o ts h=iE P rec o ts' h:=by
 have hev:∀x∈o.op.vu,aj ts x=aj ts' x:=fun x hx=>by
  cases x with
  |tmp t=>
   have:=hc t (by simp only [AO.looks,List.mem_append];exact .inr (oI hx))
   simp only [aj,List.getD_eq_getElem?_getD,this]
  |_=>rfl
 have hw:aq o.guard ts=aq o.guard ts':=by
  unfold aq
  cases hg:o.guard with
  |none=>rfl
  |some p=>
   obtain ⟨t,b⟩:=p
   have:=hc t (by simp [AO.looks,hg])
   simp only [this]
 unfold iE
 rw [hw]
 split
 ·have hx:=wE (P:=P) (h:=h) hp hev
  cases hop:o.op with
  |call f args=>
   rw [hop] at hev
   have h1:aj ts f=aj ts' f:=hev f (by simp [j8.vu])
   have h2:=gz (l:=args) fun x hx=>hev x (by simp [j8.vu,hx])
   simp only [h1,h2]
  |dA f args=>
   rw [hop] at hev
   have h1:aj ts f=aj ts' f:=hev f (by simp [j8.vu])
   have h2:=gz (l:=args) fun x hx=>hev x (by simp [j8.vu,hx])
   simp only [h1,h2]
  |_=>rw [hop] at hx;simpa using hx
 ·rfl
theorem mW {op:j8} (hl:ew op=false) {v:Value} {h':H} (hx:af P ts h op=some (v,h')):h'=h:=by
 cases op<;>simp only [ew,Bool.true_eq_false] at hl<;>simp only [af] at hx<;>(try (cases hx;done))
 all_goals
  first
  |(simp only [Option.some.injEq,Prod.mk.injEq] at hx;exact hx.2.symm)
  |skip
 all_goals (repeat' (split at hx))<;>first
  |(cases hx;done)
  |(cases hx;rfl)
  |(simp only [Option.some.injEq,Prod.mk.injEq] at hx;exact hx.2.symm)
  |(obtain ⟨_,_,he⟩:=aa hx;simp only [Prod.mk.injEq] at he;exact he.2.symm)
theorem yz {op:j8} (hl:ew op=false) (hn:eJ op=false):∃g:Option Value,∀h,af P ts h op=g.map fun v=>(v,h):=by
 refine ⟨(af P ts ⟨0,.leaf⟩ op).map (·.1),fun h=>?_⟩
 cases op<;>simp only [ew,eJ,Bool.true_eq_false] at hl hn<;>simp only [af]<;>(try (rfl))<;>(repeat' split)<;>first |rfl |(simp [Option.map_map];done) |(simp [Option.map_map,Function.comp_def];done)
theorem rE {op:j8} (hl:ew op=false) (hn:eJ op=false) {v:Value} {h1:H} (hx:af P ts h op=some (v,h1)) (h2:H):af P ts h2 op=some (v,h2):=by
 obtain ⟨g,hg⟩:=yz (P:=P) (ts:=ts) hl hn
 rw [hg] at hx ⊢
 obtain ⟨v',rfl,he⟩:=aa hx
 cases he
 rfl
end
end Go.Ev
