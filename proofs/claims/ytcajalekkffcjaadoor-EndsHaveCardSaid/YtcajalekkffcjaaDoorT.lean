/- The contracts of the functions that the statement reaches. -/
import Derived.Test.YtcajalekkffcjaaDoorRunA
import Derived.Test.YtcajalekkffcjaaDoorXC
import Derived.Test.YtcajalekkffcjaaDoorV
import Derived.Test.YtcajalekkffcjaaDoorOwn
namespace Go.Proofs.YtcajalekkffcjaaDoor
open Go Go.Ev Go.RowKit
noncomputable def W0:Rec:=JE PP (kU PP) MY.tabs FJ
theorem O9:JY PP (kU PP) (w5 FJ) W0:=Lr
theorem Ec:∀{l:List Nat} {cs:jl} {g:Nat},cs.map (·.g)=l->kI l g=false->w5 cs g=true
 | [],[],_,_,_=>rfl
 | [],_ :: _,_,h,_=>by cases h
 |_ :: _,[],_,h,_=>by cases h
 |x :: l,c :: cs,g,h,hm=>by
  obtain ⟨rfl,h2⟩:=List.cons.inj h
  simp only [kI] at hm
  unfold w5
  rw [List.all_cons]
  cases hb:Nat.beq c.g g with
  |true=>rw [hb] at hm;cases hm
  |false=>rw [hb] at hm;exact Ec h2 hm
theorem wk:WK W0:=⟨_,O9,fun _ h=>Ec (by kernel_rfl) h⟩
theorem LF {g:Nat} {t:Nat} {k cs:List (X TT)} (h:Nt [(t,k)] g=some cs):g=t/\cs=k:=by
 simp only [Nt] at h
 cases hb:Nat.beq t g with
 |true=>rw [hb] at h;cases h;exact ⟨(Nat.eq_of_beq_eq_true hb).symm,rfl⟩
 |false=>rw [hb] at h;cases h
theorem NY:Kl E PP MY.tabs where
 ok:=Ki
 nodup:=by decide
 dU:=fun g cs h=>by
  obtain ⟨rfl,rfl⟩:=LF h
  exact ⟨_,List.mem_cons_self ..,rfl⟩
 all:=fun p hp=>by
  rcases List.mem_cons.1 hp with rfl |hp
  ·rfl
  ·cases hp
set_option maxRecDepth 100000 in
theorem Hh:cC E W0 (.fn aR [] []) [] [] (bg true) [] []:=Ig NY (xs:=[]) (by kernel_rfl) (fun _=>rfl) (by kernel_rfl)
end Go.Proofs.YtcajalekkffcjaaDoor
namespace Go.Proofs.YtcajalekkffcjaaDoor
open Go Go.Ev
theorem K1 (e:aP) (h1:e.lead.length<=80) (h2:e.trail.length<=80):cC E W0 (.fn fh [] []) [] [cD e] (cD e) [] []:=NC O9 (by decide) e h1 h2
theorem K3 (e:aP) (x:aK) (s:ByteArray):cC E W0 (.fn aT [] []) [] [cD e,dZ x,cn s] (bg true) [] []:=nI wk Hh K1 e x s
end Go.Proofs.YtcajalekkffcjaaDoor
