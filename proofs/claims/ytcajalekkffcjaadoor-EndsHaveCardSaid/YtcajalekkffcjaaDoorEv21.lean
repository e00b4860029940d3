/- The evaluator over a small code, and that what it finds of a call holds of the machine, part 21. -/
import Derived.Test.YtcajalekkffcjaaDoorEv20
namespace Go.Ev
open Go Go.RowKit
def JA (P:Program) (t:TypeId) (k:IntKind):Bool:=(match P.underlying t with |some (.int l)=>decide (l=k) |_=>false) && Nat.beq (P.cellsOf t) 1
theorem Cl {P:Program} {t:TypeId} {k:IntKind} (h:JA P t k=true):P.underlying t=some (.int k)/\P.cellsOf t=1:=by
 simp only [JA,Bool.and_eq_true] at h
 obtain ⟨h1,h2⟩:=h
 split at h1
 ·rename_i l hl
  exact ⟨by rw [hl,of_decide_eq_true h1],Nat.eq_of_beq_eq_true h2⟩
 ·cases h1
def MI (P:Program) (t:TypeId):Bool:=(match P.underlying t with |some .string=>true |_=>false) && Nat.beq (P.cellsOf t) 1
theorem Lc {P:Program} {t:TypeId} (h:MI P t=true):P.underlying t=some .string/\P.cellsOf t=1:=by
 simp only [MI,Bool.and_eq_true] at h
 obtain ⟨h1,h2⟩:=h
 split at h1
 ·rename_i hl
  exact ⟨hl,Nat.eq_of_beq_eq_true h2⟩
 ·cases h1
theorem HI {P:Program} {W:World} {gi t e:Nat} {ls:List (List UInt8)} {cs:Array Value} {fuel:Nat} {p:List MemPlace} {name:String} (hg:P.globalNamed name=some gi)
  (hu:P.underlying t=some (.array ls.length e)) (he:P.underlying e=some .string) (hc:P.cellsOf e=1) (hv:W.var? P name=some cs)
  (hd:DataW.trod (fun _=>()) P W 0 (fun _=>true) false fuel t cs.toList=some (.agg (ls.map fun b=>.lit (.string b)),p)):
  ∀j u,(ls.map fun b=>Value.string ⟨b.toArray⟩)[j]?=some u->W.cell? ⟨gi,j,none⟩=some u:=by
 obtain ⟨xs,m,rfl,hx,hlen,hn,hel⟩:=DataW.trod_array hu hd
 intro j u hj
 rw [List.getElem?_map] at hj
 obtain ⟨n,hnj,rfl⟩:=aa hj
 have hjl:j < ls.length:=(List.getElem?_eq_some_iff.1 hnj).1
 have h1:=hel j hjl
 rw [hc,Nat.mul_one] at h1
 have hxj:j < xs.length:=by omega
 rw [List.getElem?_eq_getElem hxj] at h1
 obtain ⟨i,e1,e2,_⟩:=DataW.trod_string he h1
 simp only [Prod.mk.injEq,DataW.agg.injEq] at hx
 have h2:=congrArg (fun l=>l[j]?) hx.1
 simp only [List.getElem?_map,hnj,List.getElem?_eq_getElem hxj,Option.map_some,Option.some.injEq] at h2
 rw [e2] at h2
 simp only [DataW.lit.injEq,Lit.string.injEq] at h2
 subst h2
 rw [World.var?_cell hg hv j]
 have h3:cs.toList[j]?=some (.string i):=by
  have:=congrArg (fun l=>l[0]?) e1
  simpa using this
 simpa using h3
def laidB (P:Program) (name:String) (gi:Nat) (k:IntKind) (ns:List Int):Bool:=
 match P.globalNamed name,P.globals[gi]? with
 |some g,some gl=>Nat.beq g gi && (match P.underlying gl.type with
  |some (.array n e)=>Nat.beq n ns.length && JA P e k
  |some (.struct fs)=>(match fs.toList,ns with
   | [f0,f1],[_,_]=>JA P f0.type k && JA P f1.type k && Nat.beq f0.offset 0 && Nat.beq f1.offset 1
   |_,_=>false)
  |_=>false)
 |_,_=>false
theorem za {P:Program} {W:World} {name:String} {gi t:Nat} {k:IntKind} {ns:List Int} {cs:Array Value} {fuel:Nat} {p:List MemPlace} {g:Nat} (hB:laidB P name gi k ns=true)
  (hg:P.globalNamed name=some g) (ht:(P.globals[g]?).map (·.type)=some t) (hv:W.var? P name=some cs)
  (hd:DataW.trod (fun _=>()) P W 0 (fun _=>true) false fuel t cs.toList=some (.agg (ns.map fun n=>.lit (.int k n)),p)):
  ∀j u,(ns.map (Value.int k))[j]?=some u->W.cell? ⟨gi,j,none⟩=some u:=by
 unfold laidB at hB
 split at hB
 ·rename_i g' gl h1 h2
  simp only [Bool.and_eq_true] at hB
  obtain ⟨e1,hB⟩:=hB
  have e1:=Nat.eq_of_beq_eq_true e1
  subst e1
  have e2:g'=g:=Option.some.inj (h1.symm.trans hg)
  subst e2
  rw [h2] at ht
  simp only [Option.map_some,Option.some.injEq] at ht
  subst ht
  split at hB
  ·rename_i n e hu
   simp only [Bool.and_eq_true] at hB
   have en:=Nat.eq_of_beq_eq_true hB.1
   subst en
   obtain ⟨he,hc⟩:=Cl hB.2
   exact Fe hg hu he hc hv hd
  ·rename_i fs hu
   split at hB
   ·rename_i f0 f1 x y hfs
    simp only [Bool.and_eq_true] at hB
    obtain ⟨⟨⟨b0,b1⟩,o0⟩,o1⟩:=hB
    have efs:fs=#[f0,f1]:=by rw [← Array.toArray_toList (xs:=fs),hfs]
    subst efs
    obtain ⟨i0,c0⟩:=Cl b0
    obtain ⟨i1,c1⟩:=Cl b1
    exact HD hg hu i0 i1 (Nat.eq_of_beq_eq_true o0) (Nat.eq_of_beq_eq_true o1) c0 c1 hv hd
   ·cases hB
  ·cases hB
 ·cases hB
inductive LC where
 |ints (k:IntKind) (ns:List Int)
 |strs (l:List (List UInt8))
def LC.data:LC->DataW Unit
 | .ints k ns=>.agg (ns.map fun n=>.lit (.int k n))
 | .strs l=>.agg (l.map fun b=>.lit (.string b))
def LC.cells:LC->List Value
 | .ints k ns=>ns.map (Value.int k)
 | .strs l=>l.map fun b=>.string ⟨b.toArray⟩
def LC.laidB (P:Program) (name:String) (gi:Nat):LC->Bool
 | .ints k ns=>Ev.laidB P name gi k ns
 | .strs l=>match P.globalNamed name,P.globals[gi]? with
   |some g,some gl=>Nat.beq g gi && (match P.underlying gl.type with
    |some (.array n e)=>Nat.beq n l.length && MI P e
    |_=>false)
   |_,_=>false
abbrev sL:=List (String × Nat × LC)
def sL.data (l:sL):List (String × DataW Unit):=l.map fun x=>(x.1,x.2.2.data)
def sL.tabs (l:sL):fY:=l.map fun x=>(x.2.1,x.2.2.cells)
def sL.ok (P:Program) (l:sL):Bool:=l.all fun x=>x.2.2.laidB P x.1 x.2.1
theorem LC.za {P:Program} {W:World} {name:String} {gi t:Nat} {c:LC} {cs:Array Value} {fuel:Nat} {p:List MemPlace} {g:Nat} (hB:c.laidB P name gi=true)
  (hg:P.globalNamed name=some g) (ht:(P.globals[g]?).map (·.type)=some t) (hv:W.var? P name=some cs)
  (hd:DataW.trod (fun _=>()) P W 0 (fun _=>true) false fuel t cs.toList=some (c.data,p)):
  ∀j u,c.cells[j]?=some u->W.cell? ⟨gi,j,none⟩=some u:=by
 cases c with
 |ints k ns=>exact Ev.za hB hg ht hv hd
 |strs l=>
  simp only [LC.laidB] at hB
  split at hB
  ·rename_i g' gl h1 h2
   simp only [Bool.and_eq_true] at hB
   obtain ⟨e1,hB⟩:=hB
   have e1:=Nat.eq_of_beq_eq_true e1
   subst e1
   have e2:g'=g:=Option.some.inj (h1.symm.trans hg)
   subst e2
   rw [h2] at ht
   simp only [Option.map_some,Option.some.injEq] at ht
   subst ht
   split at hB
   ·rename_i n e hu
    simp only [Bool.and_eq_true] at hB
    have en:=Nat.eq_of_beq_eq_true hB.1
    subst en
    obtain ⟨he,hc⟩:=Lc hB.2
    exact HI hg hu he hc hv hd
   ·cases hB
  ·cases hB
theorem zb {P:Program} {W:World}:∀(l:sL) (ps:List MemPlace),l.ok P=true->DataW.LaidVars P W l.data ps->oV W l.tabs
 | [],_,_,_=>fun p hp=>by cases hp
 |x :: r,ps,hB,h=>by
  simp only [sL.ok,List.all_cons,Bool.and_eq_true] at hB
  obtain ⟨g,t,cs,fuel,p,q,hg,ht,hv,hd,hr,_⟩:=h
  intro y hy
  rcases List.mem_cons.1 hy with rfl |hy
  ·exact LC.za hB.1 hg ht hv hd
  ·exact zb r q hB.2 hr y hy
theorem Fj {P:Program} {W:World} {l:sL} (hB:l.ok P=true) (hp:(l.data.all fun x=>x.2.handleName?.isNone)=true) (h:laidMetH P l.data W):oV W l.tabs:=by
 rw [MakeChecks.laidMetH_plain _ _ _ hp] at h
 obtain ⟨ps,hv,_⟩:=h
 exact zb l ps hB hv
end Go.Ev
