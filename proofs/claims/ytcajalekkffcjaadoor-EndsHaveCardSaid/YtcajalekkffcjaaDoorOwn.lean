/- The tables of the seat; ends in new memory. -/
import Derived.Test.YtcajalekkffcjaaDoorProg
import Derived.KernelRfl
import Derived.Test.YtcajalekkffcjaaDoorXC
import Derived.Test.YtcajalekkffcjaaDoorXB
namespace Go.Proofs.YtcajalekkffcjaaDoor
open Go Go.Ev
noncomputable abbrev PP:Program:=Tryd.prog
abbrev bG:Nat:=45
abbrev OR:Nat:=3
abbrev OS:Nat:=9
abbrev NZ:Nat:=4
abbrev BX:Nat:=5
abbrev N0:Nat:=157
abbrev zM:Nat:=122
abbrev OT:Nat:=49
abbrev qR:Nat:=900001
abbrev AN:Nat:=900002
abbrev o4:Nat:=4
abbrev aT:Nat:=7
abbrev aR:Nat:=10
abbrev bp:Nat:=14
abbrev dM:Nat:=15
abbrev bh:Nat:=16
abbrev Ea:Nat:=17
abbrev fh:Nat:=18
abbrev sw:Nat:=19
abbrev fS:Nat:=21
abbrev p6:Nat:=22
abbrev uV:Nat:=23
abbrev bJ:Nat:=30
abbrev dN:Nat:=31
abbrev bn:Nat:=32
abbrev cX:Nat:=33
abbrev aQ:Nat:=34
abbrev fT:Nat:=35
abbrev bK:Nat:=36
abbrev cY:Nat:=37
abbrev bf:Nat:=38
abbrev xO:Nat:=39
abbrev aW:Nat:=50
abbrev bD:Nat:=51
abbrev aN:Nat:=52
abbrev kW:Nat:=53
abbrev AS:Nat:=54
abbrev p7:Nat:=55
abbrev bA:Nat:=56
abbrev dP:Nat:=57
abbrev sy:Nat:=58
abbrev aJ:Nat:=59
abbrev aO:Nat:=60
abbrev bB:Nat:=61
abbrev bC:Nat:=62
abbrev qT:Nat:=63
abbrev nZ:Nat:=64
abbrev qU:Nat:=65
abbrev zN:Nat:=74
abbrev sA:Nat:=77
abbrev vS:Nat:=78
abbrev p8:Nat:=79
abbrev aG:Nat:=80
abbrev bF:Nat:=81
abbrev ff:Nat:=82
abbrev bw:Nat:=83
abbrev az:Nat:=84
abbrev aA:Nat:=85
abbrev p9:Nat:=86
abbrev qa:Nat:=87
abbrev mN:Nat:=88
abbrev qb:Nat:=89
abbrev xQ:Nat:=95
abbrev vT:Nat:=96
abbrev xR:Nat:=97
abbrev Cw:Nat:=98
abbrev AT:Nat:=101
abbrev tI:Nat:=102
abbrev aL:Nat:=103
abbrev o5:Nat:=104
abbrev gb:Nat:=106
abbrev m9:Nat:=115
abbrev lH:Nat:=116
abbrev qc:Nat:=119
abbrev o6:Nat:=120
abbrev qd:Nat:=121
abbrev qV:Nat:=127
abbrev xS:Nat:=128
abbrev o7:Nat:=129
abbrev xT:Nat:=130
abbrev sB:Nat:=131
abbrev hH:Nat:=133
abbrev nC:Nat:=134
abbrev vU:Nat:=135
abbrev uW:Nat:=136
abbrev js:Nat:=137
abbrev qW:Nat:=140
abbrev vV:Nat:=141
abbrev iY:Nat:=144
inductive Kd where
 |span |set |node |N1 |int |u8 |bool |str |Kj |N2 |none
def Kd.T:Kd->Type
 | .span=>Kh | .set=>bR | .node=>qS | .N1=>MZ | .int=>Int | .u8=>Int | .bool=>Bool | .str=>ByteArray | .Kj=>D8 | .N2=>MW | .none=>Empty
def Kb:List (Nat × Kd)->Nat->Kd
 | [],_=>.none
 |(t,k) :: r,d=>bif Nat.beq t d then k else Kb r d
def sP:List (Nat × Kd):=[(bG,.set),(OR,.int),(OS,.str),(NZ,.bool),(BX,.u8),(N0,.span),(zM,.node),(OT,.N1),(qR,.Kj),(AN,.N2)]
def TT (e:TypeId):Type:=(Kb sP e).T
def eL (n:Int):X TT:=.v (.int .i64 n)
def G6 (n:Int):X TT:=.v (.int .u8 n)
def Eb (n:Int):X TT:=.v (.int .u64 n)
def bg (b:Bool):X TT:=.v (.bool b)
def cn (s:ByteArray):X TT:=.v (.string s)
def N3 (s:Kh):List (X TT):=[eL s.f,eL s.t]
def M0 (s:bR):List (X TT):=[Eb s.a,Eb s.b,Eb s.c,Eb s.d]
def cNode (n:qS):List (X TT):=[eL n.kind,eL n.times,Eb n.set.a,Eb n.set.b,Eb n.set.c,Eb n.set.d,eL n.group,eL n.first,eL n.next]
def OU (s:MZ):List (X TT):=[G6 s.low,G6 s.high]
def Kd.enc:(k:Kd)->k.T->List (X TT)
 | .span,s=>N3 s
 | .set,s=>M0 s
 | .node,s=>cNode s
 | .N1,s=>OU s
 | .int,n=>[eL n]
 | .u8,n=>[G6 n]
 | .bool,b=>[bg b]
 | .str,s=>[cn s]
 | .Kj,_=>[]
 | .N2,_=>[]
def Kd.sz:Kd->Nat
 | .span=>2 | .set=>4 | .node=>9 | .N1=>2 | .int=>1 | .u8=>1 | .bool=>1 | .str=>1 | .Kj=>0 | .N2=>0 | .none=>0
def Kd.dec:(k:Kd)->List (X TT)->Option k.T
 | .span,[.v (.int .i64 a),.v (.int .i64 b)]=>some (Kh.mk a b)
 | .set,[.v (.int .u64 a),.v (.int .u64 b),.v (.int .u64 c),.v (.int .u64 d)]=>some (bR.mk a b c d)
 | .node,[.v (.int .i64 k),.v (.int .i64 t),.v (.int .u64 a),.v (.int .u64 b),.v (.int .u64 c),.v (.int .u64 d),.v (.int .i64 g),.v (.int .i64 f),.v (.int .i64 n)]=>some (qS.mk k t ⟨a,b,c,d⟩ g f n)
 | .N1,[.v (.int .u8 a),.v (.int .u8 b)]=>some (MZ.mk a b)
 | .int,[.v (.int .i64 a)]=>some a
 | .u8,[.v (.int .u8 a)]=>some a
 | .bool,[.v (.bool a)]=>some a
 | .str,[.v (.string a)]=>some a
 |_,_=>Option.none
def Kd.byte:(k:Kd)->Option ((Int->k.T) × (k.T->Int))
 | .u8=>some (fun n=>n,fun n=>n)
 |_=>Option.none
def Nt:List (Nat × List (X TT))->Nat->Option (List (X TT))
 | [],_=>Option.none
 |(t,k) :: r,d=>bif Nat.beq t d then some k else Nt r d
structure ua where
 env:List (Ob TT)
 fst:List (X TT)
 args:List (X TT)
 cap:List (X TT)
def uT (b:Nat):Value:=.pointer (some ⟨b,0,Option.none⟩)
def jD (h:H) (O:Nat->Prop) (c:Nat) (cs:List Value):Prop:=c < h.next/\¬O c/\∃t e r,h.get c=some (.cells t cs e r)
def Mn (x:qS):List Value:=[.int .i64 x.kind,.int .i64 x.times,.int .u64 x.set.a,.int .u64 x.set.b,.int .u64 x.set.c,.int .u64 x.set.d,.int .i64 x.group,.int .i64 x.first,.int .i64 x.next]
def Kt (b:Nat) (h:H) (O:Nat->Prop):D8->Value->Prop
 | .top p,w=>∃c1 c2,w= .func (.func gb) ⟨[]⟩ ⟨[uT c1,uT c2]⟩/\jD h O c1 [uT b]/\jD h O c2 [.int .i64 p]
 | .seq n k,w=>∃c1 c2 c3 w',w= .func (.func hH) ⟨[]⟩ ⟨[uT c1,uT c2,uT c3]⟩/\jD h O c1 [uT b]/\jD h O c2 [.int .i64 n]/\jD h O c3 [w']/\Kt b h O k w'
 | .Pc x p k,w=>∃c1 c2 c3 c4 w',w= .func (.func iY) ⟨[]⟩ ⟨[uT c1,uT c2,uT c3,uT c4]⟩/\jD h O c1 [uT b]/\jD h O c2 (Mn x)/\jD h O c3 [.int .i64 p]/\jD h O c4 [w']/\Kt b h O k w'
def Nx (h:H) (O:Nat->Prop):MW->Value->Prop
 | .nil,w=>w= .pointer Option.none
 | .cons n g f k,w=>∃c w',w=uT c/\jD h O c [.int .i64 n,.int .i64 g,.int .i64 f,w']/\Nx h O k w'
def Kd.ab:(k:Kd)->k.T->Value->Option Nat->H->(Nat->Prop)->Prop
 | .Kj,r,w,some b,h,O=>Kt b h O r w
 | .N2,r,w,Option.none,h,O=>Nx h O r w
 |_,_,_,_,_,_=>False
def Ka (n g f:Int):X TT->Option (OV TT)
 | .ab Option.none e k=>(match D7 e AN k with |some k=>some (.mk Option.none AN (MW.cons n g f k)) |_=>Option.none)
 | .v (.pointer Option.none)=>some (.mk Option.none AN (MW.cons n g f .nil))
 |_=>Option.none
def D9:Ov TT->Option (OV TT)
 | .fn g css=>(match css with
   | [[.ptr m 0],[.v (.int .i64 p)]]=>bif Nat.beq g gb then some (.mk (some m) qR (D8.top p)) else Option.none
   | [[.ptr m 0],[.v (.int .i64 n)],[.ab (some m') e k]]=>(match Nat.beq g hH && Nat.beq m m',D7 e qR k with
     |true,some k=>some (.mk (some m) qR (D8.seq n k))
     |_,_=>Option.none)
   | [[.ptr m 0],[.v (.int .i64 a),.v (.int .i64 b),.v (.int .u64 c),.v (.int .u64 d),.v (.int .u64 i),.v (.int .u64 j),.v (.int .i64 q),.v (.int .i64 s),.v (.int .i64 t)],[.v (.int .i64 p)],[.ab (some m') e k]]=>(match Nat.beq g iY && Nat.beq m m',D7 e qR k with
     |true,some k=>some (.mk (some m) qR (D8.Pc ⟨a,b,⟨c,d,i,j⟩,q,s,t⟩ p k))
     |_,_=>Option.none)
   |_=>Option.none)
 | .ptr cs=>(match cs with
   | [.v (.int .i64 n),.v (.int .i64 g),.v (.int .i64 f),y]=>Ka n g f y
   |_=>Option.none)
 | .v (.pointer Option.none)=>some (.mk Option.none AN MW.nil)
 |_=>Option.none
def Mo:List (Nat × List (X TT)):=[(0,[0,1,56,2,57,49,28,3,61,58,42,50,38,29,17,4,62,47,59,36,45,43,51,22,53,39,33,30,24,18,12,5,63,55,48,27,60,41,37,16,46,35,44,21,52,32,23,11,54,26,40,15,34,20,31,10,25,14,19,9,13,8,7,6].map fun n=>.v (.int .u8 n))]
def E:gR TT:=⟨fun e r=>(Kb sP e).enc r,fun e=>(Kb sP e).sz,fun e xs=>(Kb sP e).dec xs,Nt Mo,fun e=>(Kb sP e).byte,fun e r=>(Kb sP e).ab r,D9⟩
def kO (s:bR):X TT:=.agg (M0 s)
def cD (e:aP):X TT:=.agg [.ro bG e.lead,.ro bG e.trail,eL e.least,eL e.most]
def N4 (t:Mq):X TT:=.agg [.ro zM t.nodes,bg t.OQ,bg t.fin,eL t.groups]
def dZ (s:aK):X TT:=.agg [cn s.first,cn s.last,bg s.exact,eL s.least,eL s.most]
def iI (t:Tmp):An:=.slot t (.at (.int .i64))
def Mr (r:bR × Int):X TT:=.gD [kO r.1,eL r.2]
def xP (p:GP) (nd:X TT):List (X TT):=[cn p.s,eL p.pos,eL p.e,eL p.f,nd,bg p.OQ,bg p.fin,eL p.groups]
def M1 (e f:Int):X TT:=.agg [eL e,eL f]
def iR (r:Bool × Int):X TT:=.gD [bg r.1,eL r.2]
def pM (r:Int × Int):X TT:=.agg [eL r.1,eL r.2]
def vp (r:aK × Int):X TT:=.gD [dZ r.1,eL r.2]
def sigs:List (Nat × IK TT):=[
 (bF,{R:=Bool,res:=fun r=>bg r,out:=fun _=>[],new:=fun _=>[],keep:=false,fe:=false,conv:=[],eY:=none}),
 (bw,{R:=Bool,res:=fun r=>bg r,out:=fun _=>[],new:=fun _=>[],keep:=false,fe:=false,conv:=[],eY:=none}),
 (AT,{R:=bR,res:=fun r=>kO r,out:=fun _=>[],new:=fun _=>[],keep:=false,fe:=false,conv:=[],eY:=none}),
 (tI,{R:=bR,res:=fun r=>kO r,out:=fun _=>[],new:=fun _=>[],keep:=false,fe:=false,conv:=[],eY:=none}),
 (vS,{R:=bR,res:=fun r=>kO r,out:=fun _=>[],new:=fun _=>[],keep:=false,fe:=false,conv:=[],eY:=none}),
 (p8,{R:=bR,res:=fun r=>kO r,out:=fun _=>[],new:=fun _=>[],keep:=false,fe:=false,conv:=[],eY:=none}),
 (xR,{R:=bR,res:=fun r=>kO r,out:=fun _=>[],new:=fun _=>[],keep:=false,fe:=false,conv:=[],eY:=none}),
 (Cw,{R:=bR,res:=fun r=>kO r,out:=fun _=>[],new:=fun _=>[],keep:=false,fe:=false,conv:=[],eY:=none}),
 (uV,{R:=bR,res:=fun r=>kO r,out:=fun _=>[],new:=fun _=>[],keep:=false,fe:=false,conv:=[],eY:=none}),
 (sy,{R:=bR,res:=fun r=>kO r,out:=fun _=>[],new:=fun _=>[],keep:=false,fe:=false,conv:=[],eY:=none}),
 (vV,{R:=bR × Int,res:=fun r=>Mr r,out:=fun _=>[],new:=fun _=>[],keep:=false,fe:=false,conv:=[],eY:=none}),
 (p6,{R:=bR × Int,res:=fun r=>Mr r,out:=fun _=>[],new:=fun _=>[],keep:=false,fe:=false,conv:=[],eY:=none}),
 (vT,{R:=Bool,res:=fun r=>bg r,out:=fun _=>[],new:=fun _=>[],keep:=false,fe:=false,conv:=[],eY:=none}),
 (xQ,{R:=bR,res:=fun _=>.fn m9 [] [.ptr 0 0],out:=fun _=>[],new:=fun r=>[.box (M0 r)],keep:=false,fe:=false,conv:=[],eY:=none}),
 (zN,{R:=bR,res:=fun r=>kO r,out:=fun _=>[],new:=fun _=>[],keep:=false,fe:=false,conv:=[],eY:=none}),
 (sA,{R:=bR,res:=fun r=>kO r,out:=fun _=>[],new:=fun _=>[],keep:=false,fe:=false,conv:=[],eY:=none}),
 (lH,{R:=Int,res:=fun r=>eL r,out:=fun _=>[],new:=fun _=>[],keep:=false,fe:=false,conv:=[],eY:=none}),
 (xS,{R:=bR,res:=fun r=>kO r,out:=fun _=>[],new:=fun _=>[],keep:=false,fe:=false,conv:=[],eY:=none}),
 (vU,{R:=bR,res:=fun r=>kO r,out:=fun _=>[],new:=fun _=>[],keep:=false,fe:=false,conv:=[],eY:=none}),
 (uW,{R:=bR,res:=fun r=>kO r,out:=fun _=>[],new:=fun _=>[],keep:=false,fe:=false,conv:=[],eY:=none}),
 (xT,{R:=bR × Bool,res:=fun r=>.gD [kO r.1,bg r.2],out:=fun _=>[],new:=fun _=>[],keep:=false,fe:=false,conv:=[],eY:=none}),
 (sB,{R:=Int,res:=fun r=>eL r,out:=fun _=>[],new:=fun _=>[],keep:=false,fe:=false,conv:=[],eY:=none}),
 (js,{R:=Int,res:=fun r=>eL r,out:=fun _=>[],new:=fun _=>[],keep:=false,fe:=false,conv:=[],eY:=none}),
 (p9,{R:=Int × Bool,res:=fun r=>.gD [G6 r.1,bg r.2],out:=fun _=>[],new:=fun _=>[],keep:=true,fe:=false,conv:=[],eY:=none}),
 (qT,{R:=Bool × GP,res:=fun r=>bg r.1,out:=fun r=>[.gP (.box (xP r.2 (.os 1 1)))],new:=fun _=>[],keep:=true,fe:=false,conv:=[],eY:=none}),
 (qU,{R:=GP,res:=fun _=>.gD [],out:=fun r=>[.gP (.box (xP r (.os 1 1)))],new:=fun _=>[],keep:=true,fe:=false,conv:=[],eY:=none}),
 (qV,{R:=Int × GP,res:=fun r=>G6 r.1,out:=fun r=>[.gP (.box (xP r.2 (.os 1 1)))],new:=fun _=>[],keep:=true,fe:=false,conv:=[],eY:=none}),
 (qd,{R:=GP,res:=fun _=>.gD [],out:=fun r=>[.gP (.box (xP r (.os 1 1)))],new:=fun _=>[],keep:=true,fe:=false,conv:=[],eY:=none}),
 (qW,{R:=Int × bR × Bool × GP,res:=fun r=>.gD [G6 r.1,kO r.2.1,bg r.2.2.1],out:=fun r=>[.gP (.box (xP r.2.2.2 (.os 1 1)))],new:=fun _=>[],keep:=true,fe:=false,conv:=[],eY:=none}),
 (nC,{R:=bR × GP,res:=fun r=>kO r.1,out:=fun r=>[.gP (.box (xP r.2 (.os 1 1)))],new:=fun _=>[],keep:=true,fe:=false,conv:=[],eY:=none}),
 (o7,{R:=bR × GP,res:=fun r=>kO r.1,out:=fun r=>[.gP (.box (xP r.2 (.os 1 1)))],new:=fun _=>[],keep:=true,fe:=false,conv:=[],eY:=none}),
 (qc,{R:=bR × GP,res:=fun r=>kO r.1,out:=fun r=>[.gP (.box (xP r.2 (.os 1 1)))],new:=fun _=>[],keep:=true,fe:=false,conv:=[],eY:=none}),
 (qa,{R:=Int × GP × List qS,res:=fun r=>eL r.1,out:=fun r=>[.gP (.box (xP r.2.1 (.os 1 2))),.gP (.os 2 zM r.2.2)],new:=fun _=>[],keep:=true,fe:=false,conv:=[],eY:=none}),
 (qb,{R:=List qS,res:=fun _=>.gD [],out:=fun r=>[.same,.gP (.os 1 zM r)],new:=fun _=>[],keep:=true,fe:=false,conv:=[],eY:=none}),
 (o6,{R:=Int × GP,res:=fun r=>eL r.1,out:=fun r=>[.gP (.box (xP r.2 (.os 1 1)))],new:=fun _=>[],keep:=true,fe:=false,conv:=[],eY:=none}),
 (o5,{R:=Int × GP × List qS,res:=fun r=>eL r.1,out:=fun r=>[.gP (.box (xP r.2.1 (.os 1 2))),.gP (.os 2 zM r.2.2)],new:=fun _=>[],keep:=true,fe:=false,conv:=[],eY:=none}),
 (mN,{R:=Int × GP × List qS,res:=fun r=>eL r.1,out:=fun r=>[.gP (.box (xP r.2.1 (.os 1 2))),.gP (.os 2 zM r.2.2)],new:=fun _=>[],keep:=true,fe:=false,conv:=[],eY:=none}),
 (nZ,{R:=Int × GP × List qS,res:=fun r=>eL r.1,out:=fun r=>[.gP (.box (xP r.2.1 (.os 1 2))),.gP (.os 2 zM r.2.2)],new:=fun _=>[],keep:=true,fe:=false,conv:=[],eY:=none}),
 (xO,{R:=Mq × Int × Int,res:=fun r=>.gD [N4 r.1,M1 r.2.1 r.2.2],out:=fun _=>[],new:=fun _=>[],keep:=false,fe:=false,conv:=[],eY:=none}),
 (dM,{R:=Int,res:=fun r=>eL r,out:=fun _=>[],new:=fun _=>[],keep:=false,fe:=false,conv:=[],eY:=none}),
 (bh,{R:=Int,res:=fun r=>eL r,out:=fun _=>[],new:=fun _=>[],keep:=false,fe:=false,conv:=[],eY:=none}),
 (Ea,{R:=Bool × Int,res:=fun r=>iR r,out:=fun _=>[],new:=fun _=>[],keep:=false,fe:=false,conv:=[],eY:=none}),
 (sw,{R:=Bool × Int,res:=fun r=>iR r,out:=fun _=>[],new:=fun _=>[],keep:=false,fe:=false,conv:=[],eY:=none}),
 (bD,{R:=Int × Int,res:=fun r=>pM r,out:=fun _=>[],new:=fun _=>[],keep:=false,fe:=false,conv:=[],eY:=none}),
 (aN,{R:=Bool,res:=fun r=>bg r,out:=fun _=>[],new:=fun _=>[],keep:=false,fe:=false,conv:=[],eY:=none}),
 (bA,{R:=Bool,res:=fun r=>bg r,out:=fun _=>[],new:=fun _=>[],keep:=false,fe:=false,conv:=[],eY:=none}),
 (kW,{R:=Bool,res:=fun r=>bg r,out:=fun _=>[],new:=fun _=>[],keep:=false,fe:=false,conv:=[],eY:=none}),
 (aG,{R:=Bool,res:=fun r=>bg r,out:=fun _=>[],new:=fun _=>[],keep:=false,fe:=false,conv:=[],eY:=none}),
 (AS,{R:=Bool,res:=fun r=>bg r,out:=fun _=>[],new:=fun _=>[],keep:=false,fe:=false,conv:=[],eY:=none}),
 (p7,{R:=Bool,res:=fun r=>bg r,out:=fun _=>[],new:=fun _=>[],keep:=false,fe:=false,conv:=[],eY:=none}),
 (bp,{R:=Bool,res:=fun r=>bg r,out:=fun _=>[],new:=fun _=>[],keep:=false,fe:=false,conv:=[],eY:=none}),
 (aW,{R:=Bool,res:=fun r=>bg r,out:=fun _=>[],new:=fun _=>[],keep:=false,fe:=false,conv:=[],eY:=none}),
 (fh,{R:=aP,res:=fun r=>cD r,out:=fun _=>[],new:=fun _=>[],keep:=false,fe:=true,conv:=[],eY:=none}),
 (fS,{R:=Bool × Int,res:=fun r=>iR r,out:=fun _=>[],new:=fun _=>[],keep:=false,fe:=false,conv:=[],eY:=none}),
 (bJ,{R:=Bool × Int,res:=fun r=>iR r,out:=fun _=>[],new:=fun _=>[],keep:=false,fe:=false,conv:=[],eY:=none}),
 (dN,{R:=Bool × Int,res:=fun r=>iR r,out:=fun _=>[],new:=fun _=>[],keep:=false,fe:=false,conv:=[],eY:=none}),
 (bn,{R:=Bool × Int,res:=fun r=>iR r,out:=fun _=>[],new:=fun _=>[],keep:=false,fe:=false,conv:=[],eY:=none}),
 (cX,{R:=Int,res:=fun r=>eL r,out:=fun _=>[],new:=fun _=>[],keep:=false,fe:=false,conv:=[],eY:=none}),
 (aQ,{R:=Int,res:=fun r=>eL r,out:=fun _=>[],new:=fun _=>[],keep:=false,fe:=false,conv:=[],eY:=none}),
 (fT,{R:=Bool × Int,res:=fun r=>iR r,out:=fun _=>[],new:=fun _=>[],keep:=false,fe:=false,conv:=[],eY:=none}),
 (bK,{R:=Bool × Int,res:=fun r=>iR r,out:=fun _=>[],new:=fun _=>[],keep:=false,fe:=false,conv:=[],eY:=none}),
 (cY,{R:=aK × Int,res:=fun r=>vp r,out:=fun _=>[],new:=fun _=>[],keep:=false,fe:=false,conv:=[],eY:=none}),
 (bf,{R:=aK × Int,res:=fun r=>vp r,out:=fun _=>[],new:=fun _=>[],keep:=false,fe:=false,conv:=[],eY:=none}),
 (dP,{R:=Bool,res:=fun r=>bg r,out:=fun _=>[],new:=fun _=>[],keep:=false,fe:=false,conv:=[],eY:=none}),
 (aJ,{R:=Bool,res:=fun r=>bg r,out:=fun _=>[],new:=fun _=>[],keep:=false,fe:=false,conv:=[],eY:=none}),
 (aO,{R:=Bool,res:=fun r=>bg r,out:=fun _=>[],new:=fun _=>[],keep:=false,fe:=false,conv:=[],eY:=none}),
 (bB,{R:=Bool,res:=fun r=>bg r,out:=fun _=>[],new:=fun _=>[],keep:=false,fe:=false,conv:=[],eY:=none}),
 (bC,{R:=Bool,res:=fun r=>bg r,out:=fun _=>[],new:=fun _=>[],keep:=false,fe:=false,conv:=[],eY:=none}),
 (az,{R:=Bool,res:=fun r=>bg r,out:=fun _=>[],new:=fun _=>[],keep:=false,fe:=false,conv:=[],eY:=none}),
 (aA,{R:=Bool,res:=fun r=>bg r,out:=fun _=>[],new:=fun _=>[],keep:=false,fe:=false,conv:=[],eY:=none}),
 (ff,{R:=List Int,res:=fun _=>.os 0 1,out:=fun _=>[],new:=fun r=>[.os 1 BX r],keep:=false,fe:=false,conv:=[],eY:=none}),
 (aL,{R:=List Int,res:=fun _=>.gD [],out:=fun r=>[.gP (.os 1 BX r)],new:=fun _=>[],keep:=true,fe:=false,conv:=[],eY:=none}),
 (o4,{R:=Bool,res:=fun r=>bg r,out:=fun _=>[],new:=fun _=>[],keep:=false,fe:=false,conv:=[],eY:=none}),
 (aT,{R:=Bool,res:=fun r=>bg r,out:=fun _=>[],new:=fun _=>[],keep:=false,fe:=false,conv:=[],eY:=none}),
 (aR,{R:=Bool,res:=fun r=>bg r,out:=fun _=>[],new:=fun _=>[],keep:=false,fe:=false,conv:=[],eY:=none})]
def its:List (Nat × Ow TT):=[(m9,⟨Int,fun n=>[G6 n]⟩)]
def N5:List (Nat × IK TT):=[]
def M3:List Nat:=[]
def Pd:List (Nat × IK TT)->Nat->IK TT
 | [],_=>{R:=Unit,res:=fun _=>.bad,out:=fun _=>[],new:=fun _=>[],keep:=false,fe:=false}
 |(t,k) :: r,d=>bif Nat.beq t d then k else Pd r d
def Pe:List (Nat × IK TT)->Nat->Option (IK TT)
 | [],_=>Option.none
 |(t,k) :: r,d=>bif Nat.beq t d then some k else Pe r d
def Pf:List (Nat × Ow TT)->Nat->Ow TT
 | [],_=>⟨Unit,fun _=>[]⟩
 |(t,k) :: r,d=>bif Nat.beq t d then k else Pf r d
def Γ0 (loops Kk:List (Tmp × List An)):Hi TT:={sig:=Pd sigs,N6:=Pe N5,N7:=kI M3,Kk:=Kk,it:=Pf its,loops:=loops,y:=Option.none,yv:=undef}
def gA:Hi TT:=Γ0 [] []
def jt (a:bR) (b:Int):ua:=⟨[],[],[kO a,G6 b],[]⟩
def dH:Hi TT:=Γ0 [] []
def fH (a:bR) (b:Int):ua:=⟨[],[],[kO a,G6 b],[]⟩
def iu:Hi TT:=Γ0 [(28,[iI 27])] []
def kr (a:aP):ua:=⟨[],[],[cD a],[]⟩
def cP:Hi TT:=Γ0 [] []
def eU (a:aP):ua:=⟨[],[],[cD a],[]⟩
def eK:Hi TT:=Γ0 [] []
def gM (a:aP):ua:=⟨[],[],[cD a],[]⟩
def cq:Hi TT:=Γ0 [] []
def eD (a b:Int × Int):ua:=⟨[],[],[pM a,pM b],[]⟩
def c9:Hi TT:=Γ0 [] []
def fl (a:Int × Int) (n:Int):ua:=⟨[],[],[pM a,eL n],[]⟩
def bI:Hi TT:=Γ0 [(14,[iI 13])] []
def c7 (a:List bR) (b:List Int):ua:=⟨[],[],[.ro bG a,.ro BX b,.fn bF [] []],[]⟩
def ct:Hi TT:=Γ0 [] []
def eF (a b:aP):ua:=⟨[],[],[cD a,cD b],[]⟩
def cw:Hi TT:=Γ0 [(11,[iI 5])] []
def eG (a b:List bR):ua:=⟨[],[],[.ro bG a,.ro bG b],[]⟩
def jY:Hi TT:=Γ0 [] []
def nc (e:aP) (s:ByteArray):ua:=⟨[],[],[cD e,cn s],[]⟩
def dI:Hi TT:=Γ0 [] []
def fI (e:aP) (s:ByteArray):ua:=⟨[],[],[cD e,cn s],[]⟩
def gB:Hi TT:=Γ0 [] []
def ju (x:aK) (s:ByteArray):ua:=⟨[],[],[dZ x,cn s],[]⟩
def cz:Hi TT:=Γ0 [] []
def eH (x:aK) (s:ByteArray):ua:=⟨[],[],[dZ x,cn s],[]⟩
def iw:Hi TT:=Γ0 [] []
def ku (x:aK):ua:=⟨[],[],[dZ x],[]⟩
def cQ:Hi TT:=Γ0 [] []
def eV (x:aK):ua:=⟨[],[],[dZ x],[]⟩
def jZ:Hi TT:=Γ0 [] []
def ng (e:aP) (x:aK):ua:=⟨[],[],[cD e,dZ x],[]⟩
def dJ:Hi TT:=Γ0 [] []
def fJ (e:aP) (x:aK):ua:=⟨[],[],[cD e,dZ x],[]⟩
def fP:Hi TT:=Γ0 [] []
def iM (s:ByteArray):ua:=⟨[],[],[cn s],[]⟩
def bZ:Hi TT:=Γ0 [] []
def dX (s:ByteArray):ua:=⟨[],[],[cn s],[]⟩
def iZ:Hi TT:=Γ0 [] []
def lI (e:aP) (a b:ByteArray):ua:=⟨[],[],[cD e,cn a,cn b],[]⟩
def cA:Hi TT:=Γ0 [(6,[iI 5])] []
def eI (l:List bR) (s:ByteArray):ua:=⟨[],[],[.ro bG l,cn s],[]⟩
def de:Hi TT:=Γ0 [(6,[iI 5])] []
def fm (l:List bR) (s:ByteArray):ua:=⟨[],[],[.ro bG l,cn s],[]⟩
def dg:Hi TT:=Γ0 [] []
def fo (a b:ByteArray):ua:=⟨[],[],[cn a,cn b],[]⟩
def dj:Hi TT:=Γ0 [] []
def fq (a b:ByteArray):ua:=⟨[],[],[cn a,cn b],[]⟩
def aU:Hi TT:=Γ0 [] []
def bN (a b:ByteArray):ua:=⟨[],[],[cn a,cn b],[]⟩
def aV:Hi TT:=Γ0 [] []
def bO (a b:ByteArray):ua:=⟨[],[],[cn a,cn b],[]⟩
def ja:Hi TT:=Γ0 [] []
def lJ (s:ByteArray):ua:=⟨[],[],[cn s],[]⟩
def bE:Hi TT:=Γ0 [(7,[iI 2,iI 3,.cont 0 BX])] []
def cS (l:List Int):ua:=⟨[.os 1 BX l],[],[.os 0 1],[]⟩
def bT:Hi TT:=Γ0 [] []
def dO (e:aP) (x:aK) (s:ByteArray):ua:=⟨[],[],[cD e,dZ x,cn s],[]⟩
def kn:List Nat:=[aR]
end Go.Proofs.YtcajalekkffcjaaDoor
namespace Go.Proofs.YtcajalekkffcjaaDoor
open Go Go.Ev
theorem Kd.Ly (k:Kd) (r:k.T):(k.enc r).length=k.sz:=by
 cases k<;>first |rfl |exact r.elim
theorem Kd.MU (k:Kd) (xs:List (X TT)) (r:k.T) (h:k.dec xs=some r):k.enc r=xs:=by
 revert h
 unfold Kd.dec
 split
 all_goals first |(intro h;cases h;rfl) |(intro h;cases h;done)
theorem Kd.Lz (k:Kd) (r:k.T):∀x∈k.enc r,x.row=true:=by
 have key:(k.enc r).all (·.row)=true:=by cases k<;>first |exact r.elim |rfl
 exact List.all_eq_true.1 key
theorem Kd.LA (k:Kd) (f:Int->k.T) (g:k.T->Int) (h:k.byte=some (f,g)):(∀n,k.enc (f n)=[.v (.int .u8 n)])/\∀r,k.enc r=[.v (.int .u8 (g r))]:=by
 cases k<;>simp only [Kd.byte] at h<;>cases h
 exact ⟨fun _=>rfl,fun _=>rfl⟩
theorem GL:∀{l:List (Nat × List (X TT))} {g:Nat} {cs:List (X TT)},(l.all fun p=>p.2.all (·.row))=true->Nt l g=some cs->∀x∈cs,x.row=true
 | [],_,_,_,h=>by cases h
 |(t,k) :: r,g,cs,ha,h=>by
  simp only [List.all_cons,Bool.and_eq_true] at ha
  simp only [Nt] at h
  cases hb:Nat.beq t g with
  |true=>rw [hb] at h;cases h;exact List.all_eq_true.1 ha.1
  |false=>rw [hb] at h;exact GL ha.2 h
theorem jD.H9 {h h':H} {O O':Nat->Prop} (f:J7 h O h' O') {c:Nat} {cs:List Value} (b:jD h O c cs):jD h' O' c cs:=by
 obtain ⟨h1,h2,t,e,r,h3⟩:=b
 exact ⟨Nat.lt_of_lt_of_le h1 f.1,fun hc=>h2 (f.2.2 c h1 hc),t,e,r,by rw [f.2.1 c h1 h2];exact h3⟩
theorem J8 {h:H} {O:Nat->Prop} {ρ:Ev.Loc} {c:Nat} {w:Value} (b:AM E h O ρ [.v w] c):jD h O c [w]:=by
 obtain ⟨h1,h2,t,vs,e,r,h3,d⟩:=b
 obtain ⟨w',us,rfl,d1,d2⟩:=d.cM
 obtain rfl:=uS d1
 have:us=[]:=List.length_eq_zero_iff.1 d2.1.symm
 subst this
 exact ⟨h1,h2,t,e,r,h3⟩
theorem J9 {h:H} {O:Nat->Prop} {ρ:Ev.Loc} {c m:Nat} (b:AM E h O ρ [.ptr m 0] c):∃q b',ρ m=some (q,0)/\q.p=some ⟨b',0,none⟩/\jD h O c [uT b']:=by
 obtain ⟨h1,h2,t,vs,e,r,h3,d⟩:=b
 obtain ⟨w',us,rfl,d1,d2⟩:=d.cM
 have:us=[]:=List.length_eq_zero_iff.1 d2.1.symm
 subst this
 cases d1 with
 |ptr _ _ b' q hq hb=>exact ⟨q,b',hq,hb,h1,h2,t,e,r,h3⟩
theorem Mm {h:H} {O:Nat->Prop} {ρ:Ev.Loc} {c:Nat} {x:X TT} (b:AM E h O ρ [x] c):∃w,D E h O ρ x w/\jD h O c [w]:=by
 obtain ⟨h1,h2,t,vs,e,r,h3,d⟩:=b
 obtain ⟨w',us,rfl,d1,d2⟩:=d.cM
 have:us=[]:=List.length_eq_zero_iff.1 d2.1.symm
 subst this
 exact ⟨w',d1,h1,h2,t,e,r,h3⟩
theorem DL.vals {h:H} {O:Nat->Prop} {ρ:Ev.Loc}:∀{ws vs:List Value},DL E h O ρ (ws.map X.v) vs->vs=ws
 | [],vs,d=>List.length_eq_zero_iff.1 d.1.symm
 |w :: ws,vs,d=>by
  obtain ⟨w',us,rfl,d1,d2⟩:=DL.cM (x:=X.v w) (l:=ws.map X.v) d
  rw [uS d1,DL.vals d2]
theorem zK {e e':TypeId} {r:TT e} {r':TT e'} (hc:D7 e e' r=some r'):∃he:e=e',he▸r=r':=by
 unfold D7 at hc
 split at hc
 ·rename_i he;cases hc;exact ⟨he,rfl⟩
 ·cases hc
theorem zL {bs:List Nat} {n:Nat} (h:n=bs.length):(n=2->∃a b,bs=[a,b])/\(n=3->∃a b c,bs=[a,b,c])/\(n=4->∃a b c d,bs=[a,b,c,d]):=by
 refine ⟨fun hn=>?_,fun hn=>?_,fun hn=>?_⟩
 ·match bs,h with
  | [a,b],_=>exact ⟨a,b,rfl⟩
  | [],h=>simp at h;omega
  | [_],h=>simp at h;omega
  |_ :: _ :: _ :: _,h=>simp at h;omega
 ·match bs,h with
  | [a,b,c],_=>exact ⟨a,b,c,rfl⟩
  | [],h=>simp at h;omega
  | [_],h=>simp at h;omega
  | [_,_],h=>simp at h;omega
  |_ :: _ :: _ :: _ :: _,h=>simp at h;omega
 ·match bs,h with
  | [a,b,c,d],_=>exact ⟨a,b,c,d,rfl⟩
  | [],h=>simp at h;omega
  | [_],h=>simp at h;omega
  | [_,_],h=>simp at h;omega
  | [_,_,_],h=>simp at h;omega
  |_ :: _ :: _ :: _ :: _ :: _,h=>simp at h;omega
theorem GM {h:H} {O:Nat->Prop} {ρ:Ev.Loc} {m:Nat} {k:D8} {w:Value} (d:D E h O ρ (.ab (some m) qR (show TT qR from k)) w):∃q b,ρ m=some (q,0)/\q.p=some ⟨b,0,none⟩/\∀h' O',J7 h O h' O'->Kt b h' O' k w:=by
 cases d with
 |ab _ _ _ _ b hw hb hr=>
  cases b with
  |none=>exact hb.elim
  |some b=>
   obtain ⟨q,h1,h2⟩:=hb
   exact ⟨q,b,h1,h2,fun h' O' f=>hr h' O' f⟩
theorem MV {h:H} {O:Nat->Prop} {ρ:Ev.Loc} {k:MW} {w:Value} (d:D E h O ρ (.ab none AN (show TT AN from k)) w):∀h' O',J7 h O h' O'->Nx h' O' k w:=by
 cases d with
 |ab _ _ _ _ b hw hb hr=>
  cases b with
  |none=>exact fun h' O' f=>hr h' O' f
  |some b=>exact hb.elim
theorem w9 {ρ:Ev.Loc} {m:Nat} {q q':SV} {b b':Nat} (h1:ρ m=some (q,0)) (h2:q.p=some ⟨b,0,none⟩) (h3:ρ m=some (q',0)) (h4:q'.p=some ⟨b',0,none⟩):b=b':=by
 rw [h1] at h3;cases h3
 rw [h2] at h4;cases h4;rfl
theorem LB (f:Ov TT) (id:Option Nat) (e:TypeId) (r:TT e) (hf:D9 f=some ⟨id,e,r⟩) (h:H) (O:Nat->Prop) (ρ:Ev.Loc) (w:Value) (d:NW E h O ρ f w):D E h O ρ (.ab id e r) w:=by
 cases f with
 |fn g css=>
  obtain ⟨bs,rfl,hl,hb⟩:=d
  simp only [D9] at hf
  split at hf
  ·rename_i m p
   cases hg:Nat.beq g gb with
   |false=>rw [hg] at hf;cases hf
   |true=>
    rw [hg] at hf
    cases hf
    obtain rfl:=Nat.eq_of_beq_eq_true hg
    obtain ⟨c1,c2,rfl⟩:=(zL hl).1 rfl
    obtain ⟨q,b,k1,k2,k3⟩:=J9 (hb 0 _ c1 rfl rfl)
    have k4:=J8 (hb 1 _ c2 rfl rfl)
    exact .ab (some m) qR _ _ (some b) rfl ⟨q,k1,k2⟩ fun h' O' f=>⟨c1,c2,rfl,k3.H9 f,k4.H9 f⟩
  ·rename_i m n m' e' k
   split at hf
   ·rename_i k' hg hk
    cases hf
    simp only [Bool.and_eq_true] at hg
    obtain rfl:=Nat.eq_of_beq_eq_true hg.1
    obtain rfl:=Nat.eq_of_beq_eq_true hg.2
    obtain ⟨rfl,rfl⟩:=zK hk
    obtain ⟨c1,c2,c3,rfl⟩:=(zL hl).2.1 rfl
    obtain ⟨q,b,k1,k2,k3⟩:=J9 (hb 0 _ c1 rfl rfl)
    have k4:=J8 (hb 1 _ c2 rfl rfl)
    obtain ⟨w',k5,k6⟩:=Mm (hb 2 _ c3 rfl rfl)
    obtain ⟨q',b',k7,k8,k9⟩:=GM (k:=k) k5
    obtain rfl:=w9 k1 k2 k7 k8
    exact .ab (some m) qR _ _ (some b) rfl ⟨q,k1,k2⟩ fun h' O' f=>⟨c1,c2,c3,w',rfl,k3.H9 f,k4.H9 f,k6.H9 f,k9 h' O' f⟩
   ·cases hf
  ·rename_i m x1 x2 x3 x4 x5 x6 x7 x8 x9 p m' e' k
   split at hf
   ·rename_i k' hg hk
    cases hf
    simp only [Bool.and_eq_true] at hg
    obtain rfl:=Nat.eq_of_beq_eq_true hg.1
    obtain rfl:=Nat.eq_of_beq_eq_true hg.2
    obtain ⟨rfl,rfl⟩:=zK hk
    obtain ⟨c1,c2,c3,c4,rfl⟩:=(zL hl).2.2 rfl
    obtain ⟨q,b,k1,k2,k3⟩:=J9 (hb 0 _ c1 rfl rfl)
    obtain ⟨i1,i2,t,vs,e,r,i3,i4⟩:=hb 1 _ c2 rfl rfl
    have i5:=DL.vals (ws:=Mn ⟨x1,x2,⟨x3,x4,x5,x6⟩,x7,x8,x9⟩) i4
    subst i5
    have k4:=J8 (hb 2 _ c3 rfl rfl)
    obtain ⟨w',k5,k6⟩:=Mm (hb 3 _ c4 rfl rfl)
    obtain ⟨q',b',k7,k8,k9⟩:=GM (k:=k) k5
    obtain rfl:=w9 k1 k2 k7 k8
    exact .ab (some m) qR _ _ (some b) rfl ⟨q,k1,k2⟩ fun h' O' f=>⟨c1,c2,c3,c4,w',rfl,k3.H9 f,jD.H9 f ⟨i1,i2,t,e,r,i3⟩,k4.H9 f,k6.H9 f,k9 h' O' f⟩
   ·cases hf
  ·cases hf
 |ptr cs=>
  obtain ⟨c,rfl,b1,b2,t,vs,e1,r1,b3,b4⟩:=d
  simp only [D9] at hf
  split at hf
  ·rename_i n g f y
   obtain ⟨v1,us1,rfl,d1,b5⟩:=b4.cM
   obtain ⟨v2,us2,rfl,d2,b6⟩:=b5.cM
   obtain ⟨v3,us3,rfl,d3,b7⟩:=b6.cM
   obtain ⟨w',us4,rfl,d4,b8⟩:=b7.cM
   have:us4=[]:=List.length_eq_zero_iff.1 b8.1.symm
   subst this
   clear b4 b5 b6 b7 b8
   obtain rfl:=uS d1
   obtain rfl:=uS d2
   obtain rfl:=uS d3
   have hbx:jD h O c [.int .i64 n,.int .i64 g,.int .i64 f,w']:=⟨b1,b2,t,e1,r1,b3⟩
   unfold Ka at hf
   split at hf
   ·rename_i e' k
    split at hf
    ·rename_i k' hk
     cases hf
     obtain ⟨rfl,rfl⟩:=zK hk
     have k9:=MV (k:=k) d4
     exact .ab none AN _ _ none rfl trivial fun h' O' f=>⟨c,w',rfl,hbx.H9 f,k9 h' O' f⟩
    ·cases hf
   ·cases hf
    have:=uS d4
    subst this
    exact .ab none AN _ _ none rfl trivial fun h' O' f=>⟨c,_,rfl,hbx.H9 f,rfl⟩
   ·cases hf
  ·cases hf
 |v u=>
  cases d
  simp only [D9] at hf
  split at hf
  ·rename_i heq;cases heq
  ·rename_i heq;cases heq
  ·rename_i heq
   cases heq
   cases hf
   exact .ab none AN _ _ none rfl trivial fun h' O' f=>rfl
  ·cases hf
theorem dS:bM E where
 len:=fun e r=>Kd.Ly (Kb sP e) r
 dec:=fun e xs r h=>Kd.MU (Kb sP e) xs r h
 row:=fun e r=>Kd.Lz (Kb sP e) r
 byte:=fun e f g h=>Kd.LA (Kb sP e) f g h
 dU:=fun g cs h=>GL (l:=Mo) (by decide) h
 fold:=LB
structure WK (W:Rec):Prop where
 ok:∃nk,JY PP (kU PP) nk W/\∀g,kI kn g=false->nk g=true
end Go.Proofs.YtcajalekkffcjaaDoor
namespace Go.Proofs.YtcajalekkffcjaaDoor
open Go Go.Ev
def OP:Hints:={sh:=[(5,.one (.at (.sl))),(6,.one (.at (.sl))),(9,.one (.at (.sl))),(10,.one (.at (.sl))),(13,.one (.agg [.sl,.sl,.int .i64,.int .i64]))],loops:=[],res:=[.agg [.sl,.sl,.int .i64,.int .i64]],eY:=false}
def Pz (_W:Rec) (a0:SV) (a1:SV) (a2:Int) (a3:Int) (h:H) (R:fR->H->Prop):Prop:=
 ∀h1,h1=H.alloc h (.cells true [.slice a0.p a0.n a0.c,.slice a1.p a1.n a1.c,.int .i64 a2,.int .i64 a3] 27 1)->
 ∀h2,h2=H.alloc h1 (.cells true [.slice none 0 0,.slice none 0 0,.int .i64 0,.int .i64 0] 27 1)->
 ∀h3,h3=H.res h2 12->
 ∃q4:SV,H.cells h3 ⟨h.next,0,none⟩ 1=some [.slice q4.p q4.n q4.c]/\
 ∀h5,h5=jc h3 (h2.next+0) (.cells true [] 45 0)->
 ∃q6:SV,∃h7,AG PP h5 45 4 32 (.slice (some ⟨(h2.next+0),0,none⟩) 0 0) (.slice q4.p q4.n q4.c)=some (.slice q6.p q6.n q6.c,h7)/\
 ∃q8:SV,H.cells h7 ⟨h.next,1,none⟩ 1=some [.slice q8.p q8.n q8.c]/\
 ∀h9,h9=jc h7 (h2.next+0) (.cells true [] 45 0)->
 ∀h10,h10=jc h9 (h2.next+4) (.cells true [] 45 0)->
 ∃q11:SV,∃h12,AG PP h10 45 4 32 (.slice (some ⟨(h2.next+4),0,none⟩) 0 0) (.slice q8.p q8.n q8.c)=some (.slice q11.p q11.n q11.c,h12)/\
 ∀h13,h13=jc h12 (h2.next+0) (.cells true [] 45 0)->
 ∀h14,h14=jc h13 (h2.next+4) (.cells true [] 45 0)->
 ∃(t15:Bool) (cs16:List Value) (e17 r18:Nat),H.get h14 h.next=some (.cells t15 cs16 e17 r18)/\0+1<=cs16.length/\
 ∀h19,h19=H.set h14 h.next (.cells t15 (wr 0 [.slice q6.p q6.n q6.c] cs16) e17 r18)->
 ∀h20,h20=jc h19 (h2.next+0) (.cells true [] 45 0)->
 ∀h21,h21=jc h20 (h2.next+4) (.cells true [] 45 0)->
 ∃(t22:Bool) (cs23:List Value) (e24 r25:Nat),H.get h21 h.next=some (.cells t22 cs23 e24 r25)/\1+1<=cs23.length/\
 ∀h26,h26=H.set h21 h.next (.cells t22 (wr 1 [.slice q11.p q11.n q11.c] cs23) e24 r25)->
 (c8 h7 h3 ⟨h.next,1,none⟩ 1=true)/\∀h27,h27=jc h26 (h2.next+0) (.cells true [] 45 0)->
 ∀h28,h28=jc h27 (h2.next+4) (.cells true [] 45 0)->
 ∃q29:SV,∃q30:SV,∃x31:Int,∃x32:Int,H.cells h28 ⟨h.next,0,none⟩ 4=some [.slice q29.p q29.n q29.c,.slice q30.p q30.n q30.c,.int .i64 x31,.int .i64 x32]/\
 ∃(t33:Bool) (cs34:List Value) (e35 r36:Nat),H.get h28 h1.next=some (.cells t33 cs34 e35 r36)/\0+4<=cs34.length/\
 ∀h37,h37=H.set h28 h1.next (.cells t33 (wr 0 [.slice q29.p q29.n q29.c,.slice q30.p q30.n q30.c,.int .i64 x31,.int .i64 x32] cs34) e35 r36)->
 ∃q38:SV,∃q39:SV,∃x40:Int,∃x41:Int,H.cells h37 ⟨h1.next,0,none⟩ 4=some [.slice q38.p q38.n q38.c,.slice q39.p q39.n q39.c,.int .i64 x40,.int .i64 x41]/\
 R (.ret (.agg ⟨[.slice q38.p q38.n q38.c,.slice q39.p q39.n q39.c,.int .i64 x40,.int .i64 x41]⟩)) h37
set_option maxRecDepth 100000 in
theorem Py (W:Rec) (a0:SV) (a1:SV) (a2:Int) (a3:Int) (h:H) (R:fR->H->Prop):Ou PP W OP (kU PP) 18 [.agg ⟨[.slice a0.p a0.n a0.c,.slice a1.p a1.n a1.c,.int .i64 a2,.int .i64 a3]⟩] h R=Pz W a0 a1 a2 a3 h R:=by kernel_rfl
end Go.Proofs.YtcajalekkffcjaaDoor
namespace Go.Proofs.YtcajalekkffcjaaDoor
open Go Go.Ev
theorem lT {h:H} {r:Nat} {b:eo} (t:nB h) (hr:r < h.next):cI [r] h (jc h r b):=by
 cases hg:h.get r with
 |none=>rw [vN hg];exact (cI.refl t _).set hr (.inr (by simp)) _
 |some c=>rw [HU hg];exact .refl t _
theorem GO {P:Program} {h:H} (t:nB h) {b e:Nat} (hb:b < h.next) (hg:h.get b=some (.cells true [] e 0)) {q:SV} {sz bytes:Nat} {rows:List (List Value)} (s:xJ h q sz rows)
  (hone:(rows.flatten.all (·.oneCell'))=true) (hbd:rows.length * bytes<=cF) (hm:rows.length<=maxLen):
  ∃(q':SV) (h':H),AG P h e sz bytes (.slice (some ⟨b,0,none⟩) 0 0) (.slice q.p q.n q.c)=some (.slice q'.p q'.n q'.c,h')/\cI [b] h h'/\xJ h' q' sz rows/\∃b',q'.p=some ⟨b',0,none⟩/\(b'=b/\rows=[]\/h.next<=b'):=by
 have hsrc:=s.src
 cases hr:rows with
 |nil=>
  subst hr
  refine ⟨⟨some ⟨b,0,none⟩,0,0⟩,h,?_,.refl t _,⟨rfl,by simp,fun h=>by simp at h⟩,b,rfl,.inl ⟨rfl,rfl⟩⟩
  simp only [AG,af,aj,hsrc]
  rw [if_pos (by simp)]
  rfl
 |cons r0 rs=>
  have hne:rows≠[]:=by rw [hr];simp
  have g:Gr h ⟨some ⟨b,0,none⟩,0,0⟩ e sz []:=⟨by simp,.inr ⟨b,true,rfl,hb,hg⟩⟩
  obtain ⟨h',k1,k2,k3,k4⟩:=g.app (P:=P) (bytes:=bytes) t s.all hsrc hone hne (by simpa using hbd) (by simpa using hm)
  rw [← hr]
  refine ⟨⟨some ⟨h.next,0,none⟩,0+rows.length,0⟩,h',k1,k3,?_,h.next,rfl,.inr (Nat.le_refl _)⟩
  have:=k2.MP
  simpa using this
theorem Ie {W:Rec} {nk:Nat->Bool} (hW:JY PP (kU PP) nk W) (hg:nk 18=true) {h:H} (t:nB h) {q1 q2:SV} {r1 r2:List (List Value)} (a2 a3:Int) (s1:xJ h q1 4 r1) (s2:xJ h q2 4 r2)
  (o1:(r1.flatten.all (·.oneCell'))=true) (o2:(r2.flatten.all (·.oneCell'))=true) (l1:r1.length<=80) (l2:r2.length<=80):
  Mk W (.func (.func 18) #[] #[]) [.agg ⟨[.slice q1.p q1.n q1.c,.slice q2.p q2.n q2.c,.int .i64 a2,.int .i64 a3]⟩] h fun r h'=>∃(p1 p2:SV),r= .ret (.agg ⟨[.slice p1.p p1.n p1.c,.slice p2.p p2.n p2.c,.int .i64 a2,.int .i64 a3]⟩)/\cI [] h h'/\xJ h' p1 4 r1/\xJ h' p2 4 r2/\
   (∃b,p1.p=some ⟨b,0,none⟩/\h.next<=b)/\∃b,p2.p=some ⟨b,0,none⟩/\h.next<=b:=by
 refine HS hW (Γ:=OP) hg (a:=#[]) (b:=#[]) ?_
 show Ou PP W OP (kU PP) 18 [.agg ⟨[.slice q1.p q1.n q1.c,.slice q2.p q2.n q2.c,.int .i64 a2,.int .i64 a3]⟩] h _
 rw [Py]
 have hmx:∀n:Nat,n<=80->n * 32<=cF/\n<=maxLen:=fun n hn=>⟨Nat.le_trans (Nat.mul_le_mul_right 32 hn) (by decide),Nat.le_trans hn (by decide)⟩
 intro h1 e1 h2 e2 h3 e3
 have n1:h1.next=h.next+1:=by rw [e1];rfl
 have n2:h2.next=h.next+2:=by rw [e2];show h1.next+1=_;omega
 have n3:h3.next=h.next+14:=by rw [e3,H.JZ];omega
 have t1:nB h1:=by rw [e1];exact t.alloc _
 have t2:nB h2:=by rw [e2];exact t1.alloc _
 have t3:nB h3:=by rw [e3];exact t2.res _
 have k03:cI [] h h3:=by rw [e3,e2,e1];exact (((cI.refl t _).alloc _).alloc _).res _
 have b3:h3.get h.next=some (.cells true [.slice q1.p q1.n q1.c,.slice q2.p q2.n q2.c,.int .i64 a2,.int .i64 a3] 27 1):=by
  rw [e3,H.yf,e2,H.aI h1 _ (by omega),e1];exact H.aH _ _
 have c3:h3.get (h.next+1)=some (.cells true [.slice none 0 0,.slice none 0 0,.int .i64 0,.int .i64 0] 27 1):=by
  rw [e3,H.yf,e2,← n1];exact H.aH _ _
 refine ⟨q1,?_,?_⟩
 ·exact dG b3 rfl (show 0+1<=4 by decide)
 intro h5 e5
 have i5:h3.get (h.next+2)=none:=by rw [e3,H.yf];exact t2 _ (by omega)
 have j5:h3.get (h.next+6)=none:=by rw [e3,H.yf];exact t2 _ (by omega)
 have hp5:h5=h3.set (h.next+2) (.cells true [] 45 0):=by rw [e5,n2,Nat.add_zero];exact vN i5
 have t5:nB h5:=by rw [hp5];exact t3.set (by omega) _
 have n5:h5.next=h.next+14:=by rw [hp5];exact n3
 have k35:cI [h.next+2,h.next+6] h3 h5:=by rw [hp5];exact (cI.refl t3 _).set (by omega) (.inr (by simp)) _
 have s5:∀{q:SV} {r:List (List Value)},xJ h q 4 r->xJ h5 q 4 r:=fun s=>s.Ml (k03.from k35 (by simp))
 obtain ⟨p1,h7,f1,f2,f3,b1,f4,f5⟩:=GO (P:=PP) (b:=h.next+2) (e:=bG) (bytes:=32) t5 (by omega) (by rw [hp5];exact H.an _ _ _) (s5 s1) o1 (hmx _ l1).1 (hmx _ l1).2
 rw [n2,Nat.add_zero]
 refine ⟨p1,h7,f1,q2,?_,?_⟩
 ·have:h7.get h.next=some (.cells true [.slice q1.p q1.n q1.c,.slice q2.p q2.n q2.c,.int .i64 a2,.int .i64 a3] 27 1):=by
   rw [f2.get _ (by omega) (by simp),k35.get _ (by omega) (by simp)];exact b3
  exact dG this rfl (show 1+1<=4 by decide)
 intro h9 e9 h10 e10
 have n7:h.next+14<=h7.next:=by have:=f2.next;omega
 have k57:cI [h.next+2,h.next+6] h5 h7:=f2.mono fun i hi _=>by simp at hi;simp [hi]
 have k79:cI [h.next+2,h.next+6] h7 h9:=by rw [e9];exact (lT f2.top (by omega)).mono fun i hi _=>by simp at hi;simp [hi]
 have g9:h9.get (h.next+6)=none:=by
  have a1:h9.get (h.next+6)=h7.get (h.next+6):=by rw [e9];exact (lT f2.top (by omega)).get _ (by omega) (by simp)
  have a2:h7.get (h.next+6)=h5.get (h.next+6):=f2.get _ (by omega) (by simp)
  rw [a1,a2,hp5,H.ah _ _ (by omega)];exact j5
 have n9:h.next+14<=h9.next:=by have:=k79.next;omega
 have hp10:h10=h9.set (h.next+6) (.cells true [] 45 0):=by rw [e10];exact vN g9
 have k910:cI [h.next+2,h.next+6] h9 h10:=by rw [hp10];exact (cI.refl k79.top _).set (by omega) (.inr (by simp)) _
 have k310:cI [h.next+2,h.next+6] h3 h10:=((k35.trans k57).trans k79).trans k910
 have s10:∀{q:SV} {r:List (List Value)},xJ h q 4 r->xJ h10 q 4 r:=fun s=>s.Ml (k03.from k310 (by simp))
 have n10:h.next+14<=h10.next:=by have:=k910.next;omega
 obtain ⟨p2,h12,g1,g2,g3,b2,g4,g5⟩:=GO (P:=PP) (b:=h.next+6) (e:=bG) (bytes:=32) k310.top (by omega) (by rw [hp10];exact H.an _ _ _) (s10 s2) o2 (hmx _ l2).1 (hmx _ l2).2
 refine ⟨p2,h12,g1,?_⟩
 intro h13 e13 h14 e14
 have k1012:cI [h.next+2,h.next+6] h10 h12:=g2.mono fun i hi _=>by simp at hi;simp [hi]
 have pk:∀{ha hb hc:H},cI [h.next+2,h.next+6] h3 ha->hb=jc ha (h.next+2) (.cells true [] 45 0)->hc=jc hb (h.next+2+4) (.cells true [] 45 0)->cI [h.next+2,h.next+6] ha hc:=fun {ha hb hc} k eb ec=>by
  have n0:h.next+14<=ha.next:=by have:=k.next;omega
  have k1:cI [h.next+2,h.next+6] ha hb:=by rw [eb];exact (lT k.top (by omega)).mono fun i hi _=>by simp at hi;simp [hi]
  have n1:h.next+14<=hb.next:=by have:=k1.next;omega
  exact k1.trans (by rw [ec];exact (lT k1.top (by omega)).mono fun i hi _=>by simp at hi;simp [hi])
 have k312:=k310.trans k1012
 have k1214:=pk k312 e13 e14
 have k314:=k312.trans k1214
 have b14:h14.get h.next=some (.cells true [.slice q1.p q1.n q1.c,.slice q2.p q2.n q2.c,.int .i64 a2,.int .i64 a3] 27 1):=by rw [k314.get _ (by omega) (by simp)];exact b3
 refine ⟨_,_,_,_,b14,(by decide:(1:Nat)<=4),?_⟩
 intro h19 e19 h20 e20 h21 e21
 have n14:h.next+14<=h14.next:=by have:=k314.next;omega
 have k319:cI [h.next+2,h.next+6,h.next] h3 h19:=by
  rw [e19];exact (k314.mono fun i hi _=>by simp at hi;rcases hi with h |h<;>simp [h]).set (by omega) (.inr (by simp)) _
 have pk2:∀{ha hb hc:H},cI [h.next+2,h.next+6,h.next] h3 ha->hb=jc ha (h.next+2) (.cells true [] 45 0)->hc=jc hb (h.next+2+4) (.cells true [] 45 0)->cI [h.next+2,h.next+6] ha hc:=fun {ha hb hc} k eb ec=>by
  have n0:h.next+14<=ha.next:=by have:=k.next;omega
  have k1:cI [h.next+2,h.next+6] ha hb:=by rw [eb];exact (lT k.top (by omega)).mono fun i hi _=>by simp at hi;simp [hi]
  have n1:h.next+14<=hb.next:=by have:=k1.next;omega
  exact k1.trans (by rw [ec];exact (lT k1.top (by omega)).mono fun i hi _=>by simp at hi;simp [hi])
 have up:∀{ha hb:H},cI [h.next+2,h.next+6] ha hb->cI [h.next+2,h.next+6,h.next] ha hb:=fun k=>k.mono fun i hi _=>by simp at hi;rcases hi with h |h<;>simp [h]
 have k1921:=pk2 k319 e20 e21
 have k321:=k319.trans (up k1921)
 have n19:h.next+14<=h19.next:=by have:=k319.next;omega
 have b21:h21.get h.next=some (.cells true [.slice p1.p p1.n p1.c,.slice q2.p q2.n q2.c,.int .i64 a2,.int .i64 a3] 27 1):=by
  rw [k1921.get _ (by omega) (by simp),e19];exact H.an _ _ _
 refine ⟨_,_,_,_,b21,(by decide:(2:Nat)<=4),?_⟩
 intro h26 e26
 have n21:h.next+14<=h21.next:=by have:=k321.next;omega
 refine ⟨?_,?_⟩
 ·refine gZ (blk:=.cells true [.slice q1.p q1.n q1.c,.slice q2.p q2.n q2.c,.int .i64 a2,.int .i64 a3] 27 1) ?_ ?_ rfl (by decide:(2:Nat)<=4) rfl
  ·rw [f2.get _ (by omega) (by simp),k35.get _ (by omega) (by simp)];exact b3
  ·rw [f2.get _ (by omega) (by simp),k35.get _ (by omega) (by simp)]
 intro h27 e27 h28 e28
 have k326:cI [h.next+2,h.next+6,h.next] h3 h26:=by rw [e26];exact k321.set (by omega) (.inr (by simp)) _
 have k2628:=pk2 k326 e27 e28
 have k328:=k326.trans (up k2628)
 have n26:h.next+14<=h26.next:=by have:=k326.next;omega
 have n28:h.next+14<=h28.next:=by have:=k328.next;omega
 have b28:h28.get h.next=some (.cells true [.slice p1.p p1.n p1.c,.slice p2.p p2.n p2.c,.int .i64 a2,.int .i64 a3] 27 1):=by
  rw [k2628.get _ (by omega) (by simp),e26];exact H.an _ _ _
 refine ⟨p1,p2,a2,a3,dG b28 rfl (show 0+4<=4 by decide),?_⟩
 have c28:h28.get h1.next=some (.cells true [.slice none 0 0,.slice none 0 0,.int .i64 0,.int .i64 0] 27 1):=by
  rw [n1,k328.get _ (by omega) (by simp)];exact c3
 refine ⟨_,_,_,_,c28,(by decide:(4:Nat)<=4),?_⟩
 intro h37 e37
 have k0_37:cI [] h h37:=by
  rw [e37]
  exact (k03.from k328 (by simp)).set (by omega) (.inl (by omega)) _
 have b37:h37.get h1.next=some (.cells true [.slice p1.p p1.n p1.c,.slice p2.p p2.n p2.c,.int .i64 a2,.int .i64 a3] 27 1):=by rw [e37];exact H.an _ _ _
 have up2:∀{ha hb:H} {L:List Nat},cI L ha hb->(∀i∈L,i∈[h.next+2,h.next+6,h.next])->cI [h.next+2,h.next+6,h.next,h.next+1] ha hb:=fun k hL=>k.mono fun i hi _=>by
  have:=hL i hi
  simp at this
  rcases this with h |h |h<;>simp [h]
 have k12_37:cI [h.next+2,h.next+6,h.next,h.next+1] h12 h37:=by
  have a1:cI [h.next+2,h.next+6,h.next,h.next+1] h14 h19:=by rw [e19];exact (cI.refl k314.top _).set (by omega) (.inr (by simp)) _
  have a2:cI [h.next+2,h.next+6,h.next,h.next+1] h21 h26:=by rw [e26];exact (cI.refl k321.top _).set (by omega) (.inr (by simp)) _
  have a3:cI [h.next+2,h.next+6,h.next,h.next+1] h28 h37:=by rw [e37];exact (cI.refl k328.top _).set (by omega) (.inr (by simp [n1])) _
  exact ((((((up2 k1214 (by simp)).trans a1).trans (up2 k1921 (by simp))).trans a2).trans (up2 k2628 (by simp))).trans a3)
 have k7_37:cI [h.next+2,h.next+6,h.next,h.next+1] h7 h37:=(((up2 k79 (by simp)).trans (up2 k910 (by simp))).trans (up2 k1012 (by simp))).trans k12_37
 have fin:∀{p:SV} {r:List (List Value)} {ha hb:H} {b c:Nat},xJ ha p 4 r->p.p=some ⟨b,0,none⟩->(b=c/\r=[]\/hb.next<=b)->h.next+14<=hb.next->h.next<=c->cI [h.next+2,h.next+6,h.next,h.next+1] ha h37->xJ h37 p 4 r/\∃b,p.p=some ⟨b,0,none⟩/\h.next<=b:=fun {p r ha hb b c} s e hc hn hcn k=>by
  rcases hc with ⟨rfl,rfl⟩ |hb'
  ·exact ⟨⟨s.len,s.all,fun h=>by simp at h⟩,b,e,hcn⟩
  ·refine ⟨s.keep k fun b0 o e0=>?_,b,e,by omega⟩
   rw [e] at e0
   cases e0
   simp
   omega
 have fA:=fin f3 f4 f5 (by omega) (by omega) k7_37
 have fB:=fin g3 g4 g5 (by omega) (by omega) k12_37
 exact ⟨p1,p2,a2,a3,dG b37 rfl (show 0+4<=4 by decide),p1,p2,rfl,k0_37,fA.1,fB.1,fA.2,fB.2⟩
theorem NC {W:Rec} {nk:Nat->Bool} (hW:JY PP (kU PP) nk W) (hg:nk 18=true) (e:aP) (l1:e.lead.length<=80) (l2:e.trail.length<=80):cC E W (.fn 18 [] []) [] [cD e] (cD e) [] []:=by
 intro h B ρ vf vs I _ df da
 obtain ⟨v,vs',rfl,dv,dn⟩:=da.cM
 have:vs'=[]:=by have:=dn.1;cases vs' with |nil=>rfl |cons=>simp at this
 subst this
 cases df with
 |fn _ _ _ va vb ha hb _ _=>
  have hva:va=[]:=List.length_eq_zero_iff.1 ha.symm
  have hvb:vb=[]:=List.length_eq_zero_iff.1 hb.symm
  subst hva hvb
  cases dv with
  |agg _ us hl hd=>
   obtain ⟨w1,u1,rfl,d1,du1⟩:=DL.cM (E:=E) (h:=h) (O:=ak B ρ (cO ([]:List (Ob TT))).env) (ρ:=ρ) ⟨hl,hd⟩
   obtain ⟨w2,u2,rfl,d2,du2⟩:=du1.cM
   obtain ⟨w3,u3,rfl,d3,du3⟩:=du2.cM
   obtain ⟨w4,u4,rfl,d4,du4⟩:=du3.cM
   have:u4=[]:=by have:=du4.1;cases u4 with |nil=>rfl |cons=>simp at this
   subst this
   have e3:=uS d3
   have e4:=uS d4
   subst e3 e4
   obtain ⟨q1,r1,rfl,s1,rd1,m1,_,_⟩:=kq dS d1
   obtain ⟨q2,r2,rfl,s2,rd2,m2,_,_⟩:=kq dS d2
   obtain ⟨r,rc,h',g1,p1,p2,rfl,k,f1,f2,⟨b1,c1,c2⟩,b2,c3,c4⟩:=Ie hW hg I.top e.least e.most s1 s2 (rd1.one dS) (rd2.one dS) (by rw [rd1.len];exact l1) (by rw [rd2.len];exact l2)
   obtain ⟨I2,x2⟩:=I.yield (B2:=B) (h2:=h') (k:=0) (fin:=false) k.top k.next (fun i hi _=>k.get i hi (by simp)) fun i hi=>⟨Nat.lt_of_lt_of_le (I.base i hi) k.next,fun _=>hi⟩
   have hO:∀b,ak B ρ (cO ([]:List (Ob TT))).env b->b < h.next:=fun b hb=>I.jX hb
   have mkro:∀{l:List (TT bG)} {p:SV} {rr:List (List Value)} {b:Nat},iz E h (ak B ρ (cO ([]:List (Ob TT))).env) ρ bG l rr->l.length<=maxLen->xJ h' p 4 rr->p.p=some ⟨b,0,none⟩->h.next<=b->D E h' (ak B ρ (cO ([]:List (Ob TT))).env) ρ (.ro bG l) (.slice p.p p.n p.c):=fun {l p rr b} rd m s e1 hb=>by
    refine D.ro (T:=TT) (E:=E) bG l p rr s rd.len m (.inr ⟨b,0,e1⟩) ?_ fun i a r hi hr j x w hx hw=>?_
    ·intro b' o e2 _ hc
     rw [e1] at e2
     cases e2
     have:=hO _ hc
     omega
    ·exact ((rd.mv x2.mv).row i a r hi hr).2 j x w hx hw
   refine ⟨_,rc,h',ρ,g1,?_,⟨I2.top,fun id hid=>I2.dom id (Nat.le_of_succ_le hid),Nat.succ_pos _,fun id q n hq=>Nat.lt_succ_of_lt (I2.lG id q n hq),I2.base,I2.jA,I2.AR,fun id s o hf=>?_,I2.dU⟩,k.next,fun b hb _=>k.get b hb (by simp),fun b _ hb=>hb,fun k q m hk=>absurd hk (Nat.not_lt_zero _)⟩
   ·refine .agg _ _ rfl ?_
    exact (DL.cons (mkro rd1 m1 f1 c1 c2) (DL.cons (mkro rd2 m2 f2 c3 c4) (DL.cons (.v _) (DL.cons (.v _) .nil)))).2
   ·cases hf
end Go.Proofs.YtcajalekkffcjaaDoor
