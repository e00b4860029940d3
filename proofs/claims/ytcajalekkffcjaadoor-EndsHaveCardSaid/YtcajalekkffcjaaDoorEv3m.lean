/- The evaluator over a small code, and that what it finds of a call holds of the machine, part 3m. -/
import Derived.Test.YtcajalekkffcjaaDoorEv3
namespace Go.Ev
open Go
structure XD where
 f:Nat->Option eo
 d:Nat->Prop
 n:Nat
def bS (X:XD) (h h2:H):Prop:=
 h2.next=h.next/\(∀i,match X.f i with
  |some b=>h.get i=none/\h2.get i=some b/\i < h.next
  |none=>h2.get i=h.get i)/\(∀i,X.d i->h.get i≠none)/\X.n<=h.next
structure A2 (G:Nat) (rec:Rec):Prop where
 call:∀(X:XD) f args rc h r rc' h' h2,(∀i,i < G->X.f i=none)->bS X h h2->rec.call f args rc h=some (r,rc',h')->∃h2',rec.call f args rc h2=some (r,rc',h2')/\bS X h' h2'
 loop:∀(X:XD) c a h x a' h' h2,(∀i,i < G->X.f i=none)->bS X h h2->rec.loop c a h=some (x,a',h')->∃h2',rec.loop c a h2=some (x,a',h2')/\bS X h' h2'
section
variable {X:XD} {h h2:H} (p:bS X h h2)
include p
theorem bS.get {i:Nat} {b:eo} (hg:h.get i=some b):h2.get i=some b:=by
 have:=p.2.1 i
 split at this
 ·rw [this.1] at hg;cases hg
 ·rw [this];exact hg
theorem bS.no {i:Nat} (hi:h.next<=i):X.f i=none:=by
 have:=p.2.1 i
 split at this
 ·omega
 ·assumption
theorem bS.HV {i:Nat} {b:eo} (hg:h.get i=some b):X.f i=none:=by
 have:=p.2.1 i
 split at this
 ·rw [this.1] at hg;cases hg
 ·assumption
theorem bS.cells {a:Addr} {n:Nat} {cs:List Value} (hc:h.cells a n=some cs):h2.cells a n=some cs:=by
 unfold H.cells at hc ⊢
 split at hc
 ·rename_i xs hs hb
  obtain ⟨b,hb1,hb2⟩:=Option.bind_eq_some_iff.1 hb
  rw [hs,p.get hb1]
  simp only [Option.bind_some,hb2]
  exact hc
 ·cases hc
theorem bS.alloc (b:eo):bS X (h.alloc b) (h2.alloc b):=by
 refine ⟨by simp only [H.bx,p.1],fun i=>?_,fun i hd=>?_,Nat.le_succ_of_le p.2.2.2⟩
 case refine_2=>
  by_cases e:i=h.next
  ·subst e;rw [H.aH];simp
  ·rw [H.aI h b e];exact p.2.2.1 i hd
 have hi:=p.2.1 i
 by_cases e:i=h.next
 ·subst e
  rw [p.no (Nat.le_refl _)]
  simp only
  rw [H.aH,← p.1,H.aH]
 ·rw [H.aI h b e,H.aI h2 b (by rw [p.1];exact e),H.bx]
  split at hi
  ·exact ⟨hi.1,hi.2.1,by omega⟩
  ·exact hi
theorem bS.set {i:Nat} {c:eo} (hg:h.get i=some c) (b:eo):bS X (h.set i b) (h2.set i b):=by
 refine ⟨by simp only [H.ey,p.1],fun j=>?_,fun j hd=>?_,p.2.2.2⟩
 case refine_2=>
  by_cases e:j=i
  ·subst e;rw [H.an];simp
  ·rw [H.ah h b (Ne.symm e)];exact p.2.2.1 j hd
 have hj:=p.2.1 j
 by_cases e:j=i
 ·subst e
  rw [p.HV hg]
  simp only
  rw [H.an,H.an]
 ·rw [H.ah h b (Ne.symm e),H.ah h2 b (Ne.symm e),H.ey]
  exact hj
end
end Go.Ev
