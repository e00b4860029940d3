/- The evaluator over a small code, and that what it finds of a call holds of the machine, part 12c. -/
import Derived.Test.YtcajalekkffcjaaDoorEv12
namespace Go.Ev
open Go Go.RowKit
variable {P:Program}
theorem fX {r:Rec} {o:AO} {a:aD} {h:H} {v:Value} {a1:aD} {h1:H} (he:cG P r o a h=some (.panic v a1 h1)):iE P r o a.tmps h=none:=by
 unfold cG at he
 unfold iE
 split at he
 ·rename_i hw
  rw [if_pos hw]
  cases hop:o.op<;>rw [hop] at he<;>simp only at he ⊢<;>try (split at he<;>cases he;done)
  case call f args=>
   split at he
   ·cases he
   ·rename_i hc;rw [hc]
   ·cases he
  case dA f args=>
   split at he
   ·cases he
   ·rename_i hc;rw [hc]
   ·cases he
  case panic x=>simp [af]
 ·cases he
theorem gV {r:Rec}:∀{l:List AO} {ts:List Value} {h:H} {G:List (List Value × H)} (m:Nat),trace P r l ts h=some G->trace P r (l.take m) ts h=some (G.take (m+1))
 | [],ts,h,G,m,he=>by
   simp only [trace,Option.some.injEq] at he
   subst he
   simp [trace]
 |o :: l,ts,h,G,0,he=>by
  simp only [trace] at he
  split at he
  ·obtain ⟨G',hG',rfl⟩:=aa he
   simp [trace]
  ·cases he
 |o :: l,ts,h,G,m+1,he=>by
  simp only [trace] at he
  split at he
  ·rename_i v h1 hv
   obtain ⟨G',hG',rfl⟩:=aa he
   simp only [List.take_succ_cons,trace,hv,gV m hG',Option.map_some]
  ·cases he
theorem lO {r:Rec} {ops:List AO} {a:aD} {h:H}:∀{cs:oD} {x:aM × aD × H},dV P r ops a h cs=some x->
  ∃(p:Nat) (G:List (List Value × H)) (o:AO) (ts:List Value) (h1:H) (v:Value) (a1:aD) (h2:H),trace P r (ops.take p) a.tmps h=some G/\ops[p]?=some o/\G[p]?=some (ts,h1)/\
   cG P r o {a with tmps:=ts} h1=some (.panic v a1 h2)
 | [],x,he=>by cases he
 |c :: cs,x,he=>by
  simp only [dV] at he
  split at he
  ·rename_i G hG
   split at he
   ·rename_i o ts h1 ho hp
    split at he
    ·rename_i v a' h' hev
     exact ⟨c.1,G,o,ts,h1,v,a',h',hG,ho,hp,hev⟩
    ·exact lO he
   ·exact lO he
  ·exact lO he
theorem gJ {r:Rec} {ops:List AO} {a:aD} {h:H} {p:Nat} {G:List (List Value × H)} {o:AO} {ts:List Value} {h1:H} {v:Value} {a1:aD} {h2:H}
  (hG:trace P r (ops.take p) a.tmps h=some G) (ho:ops[p]?=some o) (hp:G[p]?=some (ts,h1)) (he:cG P r o {a with tmps:=ts} h1=some (.panic v a1 h2)):trace P r ops a.tmps h=none:=by
 cases ht:trace P r ops a.tmps h with
 |none=>rfl
 |some G2=>
  have h3:=gV p ht
  rw [hG] at h3
  have hplt:p < ops.length:=(List.getElem?_eq_some_iff.1 ho).1
  obtain ⟨vs,g1,g2,g3,g4⟩:=cZ _ _ _ _ ht
  have hvlt:p < vs.length:=by rw [g1];exact hplt
  obtain ⟨tsi,hi,h',f1,f2,f3⟩:=g4 p o _ ho (List.getElem?_eq_getElem hvlt)
  have:G[p]?=some (tsi,hi):=by
   rw [Option.some.inj h3,List.getElem?_take_of_lt (by omega)];exact f1
  rw [hp] at this
  cases this
  have:=fX he
  simp only at this
  rw [f2] at this
  cases this
end Go.Ev
