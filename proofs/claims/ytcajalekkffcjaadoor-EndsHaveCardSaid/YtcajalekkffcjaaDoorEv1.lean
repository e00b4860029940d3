/- The evaluator over a small code, and that what it finds of a call holds of the machine, part 1. -/
import Derived.AtR
import Derived.Defers
import Derived.Below
import Derived.Laws.AppendOwn
import Derived.Orders
namespace Go.Ev
open Go
inductive Trie (β:Type) where
 |leaf
 |node (l:Trie β) (v:Option β) (r:Trie β)
def path:Nat->Nat->List Bool
 | 0,_=>[]
 |_+1,0=>[]
 |f+1,m+1=>Nat.beq (m % 2) 0 :: path f (m / 2)
def Trie.get {β:Type}:Trie β->List Bool->Option β
 | .leaf,_=>none
 | .node _ v _,[]=>v
 | .node l _ r,b :: p=>match b with |true=>l.get p |false=>r.get p
def Trie.set {β:Type} (x:β):List Bool->Trie β->Trie β
 | [],.leaf=>.node .leaf (some x) .leaf
 | [],.node l _ r=>.node l (some x) r
 |b :: p,.leaf=>match b with |true=>.node (Trie.set x p .leaf) none .leaf |false=>.node .leaf none (Trie.set x p .leaf)
 |b :: p,.node l v r=>match b with |true=>.node (Trie.set x p l) v r |false=>.node l v (Trie.set x p r)
inductive j8 where
 |move (x:Operand)
 |pick (c a b:Operand)
 |alloc (e:TypeId) (zero:List Value)
 |box (e:TypeId) (size:Nat) (x:Operand)
 |build (zero:List Value) (parts:List (Nat × Nat × Operand))
 |buildSlice (e:TypeId) (n size:Nat) (zero:List Value) (parts:List (Nat × Nat × Operand))
 |load (agg:Bool) (n:Nat) (a:Operand)
 |store (n:Nat) (a x:Operand)
 |nilCheck (x:Operand)
 |lp (op:BinOp) (x y:Operand)
 |gen (o:Oper)
 |fieldAddr (off:Nat) (x:Operand)
 |field (agg:Bool) (n off:Nat) (x:Operand)
 |qo (size:Nat) (x i:Operand)
 |gF (len size:Nat) (x i:Operand)
 |gI (size:Nat) (x:Operand) (lo hi:Option Operand)
 |oC (fn:FuncId) (first captured:List Operand)
 |mR (t:TypeId) (x:Operand)
 |extract (x:Operand) (i:Nat)
 |qp (x:Operand)
 |vr (x:Operand)
 |nK (kind:Nat) (neg:Bool) (x y:Operand)
 |append (e:TypeId) (size bytes:Nat) (s x:Operand)
 |makeSlice (e:TypeId) (bytes:Nat) (zero:List Value) (len cap:Operand)
 |gm (e:TypeId) (x:Operand)
 |fK (x:Operand)
 |Au (x:Operand)
 |jK (x:Operand)
 |jL (u:TypeId) (x:Operand)
 |rz (x:Operand)
 |rA (e:TypeId) (x n:Operand)
 |nL (x y:Operand)
 |call (f:Operand) (args:List Operand)
 |dA (f:Operand) (args:List Operand)
 |defer (f:Operand) (args:List Operand)
 |recover
 |panic (x:Operand)
 |kB (args:List Operand)
 |indexByte (s c:Operand)
 |makeNoZero (e:TypeId) (n:Operand)
 |makeMap
 |lookup (kt:TypeId) (zero:Value) (ok:Bool) (m k:Operand)
 |mapUpdate (kt:TypeId) (m k v:Operand)
 |slice3 (size:Nat) (x:Operand) (lo hi:Option Operand) (max:Operand)
 |nM (len size:Nat) (x:Operand) (lo hi:Option Operand)
 |nN (x:Operand)
 |rB (x:Operand)
 |qq (n len:Nat) (x i:Operand)
 |assert (ty:TypeId) (ok:Bool) (zero:Value) (x:Operand)
structure AO where
 dst:Option Tmp
 guard:Option (Tmp × Bool)
 op:j8
abbrev oD:=List (Nat × List (Nat × Nat) × List Tmp)
inductive AC where
 |skip
 |IJ (ops:List AO)
 |yq (ops:List AO) (aC:List (Nat × Nat)) (cuts:oD)
 |yu (b:List Nat) (ops:List AO) (aC:List (Nat × Nat))
 |seq (a b:AC)
 |cond (c:Operand) (a b:AC)
 |block (id:Nat) (a:AC)
 |loop (a:AC)
 |rangeFunc (f:Operand) (params:List Tmp) (assign body:AC)
 |exit (id:Nat)
 |ret
 |stuck
inductive eo where
 |cells (tight:Bool) (cs:List Value) (e:TypeId) (rows:Nat)
 |ro (cs:List Value)
 |loop (st:LoopState) (pend:Option (Option Nat)) (tmps:List Value) (params:List Tmp) (assign body:AC)
 |CN
 |map (es:List (Value × Value))
 |iter (s:ByteArray) (pos:Nat)
 |dead
structure H where
 next:Nat
 t:Trie eo
def H.get (h:H) (i:Nat):Option eo:=h.t.get (path i i)
def H.set (h:H) (i:Nat) (b:eo):H:={next:=h.next,t:=h.t.set b (path i i)}
def H.alloc (h:H) (b:eo):H:={next:=h.next+1,t:=h.t.set b (path h.next h.next)}
def aS:Value->Bool
 | .bool _ | .int _ _ | .string _ | .nilFunc | .nilIface | .pointer none | .slice none _ _ | .map none=>true
 |_=>false
def dD:Value->Bool
 | .agg cs=>cs.toList.all aS
 |v=>aS v
def ay:Value->Bool
 | .tuple vs=>vs.toList.all dD
 | .func (.func _) first captured=>first.toList.all aS && captured.toList.all aS
 | .iface _ v=>dD v
 |v=>dD v
def aX:Value->List Value
 | .agg cs=>cs.toList
 |v=>[v]
def aj (ts:List Value):Operand->Value
 | .tmp t=>ts.getD t undef
 | .const v=>v
 | .global g=>.pointer (some ⟨g,0,none⟩)
 | .func f=>.func (.func f) #[] #[]
def av (P:Program) {α:Type}:Sem α->Option α
 | .pure a=>some a
 | .program k=>av P (k P)
 | .mark _ k=>av P k
 |_=>none
def lp (op:BinOp) (k:IntKind) (x y:Int):Option Value:=
 match op with
 | .add=>some (.int k (k.wrap (x+y)))
 | .sub=>some (.int k (k.wrap (x - y)))
 | .mul=>some (.int k (k.wrap (x * y)))
 | .eql=>some (.bool (x == y))
 | .neq=>some (.bool (x != y))
 | .lss=>some (.bool (decide (x < y)))
 | .leq=>some (.bool (decide (x<=y)))
 | .gtr=>some (.bool (decide (x > y)))
 | .geq=>some (.bool (decide (x ≥ y)))
 | .quo=>if y=0 then none else some (.int k (k.wrap (x.tdiv y)))
 | .rem=>if y=0 then none else some (.int k (x.tmod y))
 | .shl=>if y < 0 then none else some (.int k (k.wrap (x * 2 ^ min y.toNat k.bits)))
 | .shr=>if y < 0 then none else some (.int k (x.fdiv (2 ^ min y.toNat k.bits)))
 | .and=>some (.int k (k.wrap ((BitVec.ofInt k.bits x &&& BitVec.ofInt k.bits y).toNat:Int)))
 | .or=>some (.int k (k.wrap ((BitVec.ofInt k.bits x |||BitVec.ofInt k.bits y).toNat:Int)))
 | .xor=>some (.int k (k.wrap ((BitVec.ofInt k.bits x ^^^ BitVec.ofInt k.bits y).toNat:Int)))
 | .andNot=>some (.int k (k.wrap ((BitVec.ofInt k.bits x &&& ~~~(BitVec.ofInt k.bits y)).toNat:Int)))
def eo.read:eo->Option (List Value)
 | .cells _ cs _ _=>some cs
 | .ro cs=>some cs
 |_=>none
def H.cells (h:H) (a:Addr) (n:Nat):Option (List Value):=
 match a.spot,(h.get a.block).bind eo.read with
 |none,some cs=>if a.off+n<=cs.length then some ((cs.drop a.off).take n) else none
 |_,_=>none
def one:List Value->Option Value
 | [v]=>some v
 |_=>none
def fj:List Value->List (Nat × List Value)->List Value
 |cs,[]=>cs
 |cs,(off,xs) :: r=>fj (cs.take off++xs++cs.drop (off+xs.length)) r
def cJ (ts:List Value) (len:Nat):List (Nat × Nat × Operand)->Option (List (Nat × List Value))
 | []=>some []
 |(off,size,x) :: r=>
  let xs:=aX (aj ts x)
  if xs.length=size && Nat.ble (off+size) len then (cJ ts len r).map ((off,xs) :: ·) else none
def cE (zero:List Value):Nat->List Value
 | 0=>[]
 |n+1=>zero++cE zero n
def cg (h:H) (size:Nat):Value->Option (Nat × List Value)
 | .slice none n _=>if n=0 then some (0,[]) else none
 | .slice (some a) n _=>if n=0 then some (0,[]) else (h.cells a (n * size)).map fun cs=>(n,cs)
 | .string s=>some (s.size,s.data.toList.map fun b=>.int .u8 b.toNat)
 |_=>none
def ep (h:H):Value->Option (List Value)
 | .slice a n c=>(cg h 1 (.slice a n c)).map (·.2)
 |_=>none
def cK:List Value->Option (List UInt8)
 | []=>some []
 | .int .u8 n :: r=>(cK r).map (UInt8.ofNat n.toNat :: ·)
 |_=>none
def C3:List UInt8->UInt8->Nat->Int
 | [],_,_=>-1
 |b :: l,c,k=>if b == c then (k:Int) else C3 l c (k+1)
def fL (c sk:Nat):Nat:=if sk % 2=0 then c - sk / 2 else sk / 2
def qs (sk l:Nat):Nat:=if sk % 2=0 then sk+2 * l else sk - 2 * l
def ND (x:Value × Value):MapEntry:={key:=x.1,val:=x.2,born:=0}
def F9 (P:Program) (kt:TypeId) (em:Bool) (k:Value):Bool:=(av P (Instr.checkKey em 10000 kt k)).isSome
def ue (P:Program) (kt:TypeId) (k:Value):List (Value × Value)->Nat->Option (Option (Nat × Value))
 | [],_=>some none
 |(k',v) :: r,i=>match av P (Op.equal kt k k') with
  |some true=>some (some (i,v))
  |some false=>ue P kt k r (i+1)
  |none=>none
def C4 (P:Program) (kt:TypeId) (k:Value) (es:List (Value × Value)):Option (Option (Nat × Value)):=
 match P.underlying kt with
 |some kd=>match Instr.findNow kd k (es.map ND) 0 with
  |some r=>some r
  |none=>ue P kt k es 0
 |none=>none
def yw (P:Program) (kt:TypeId) (zero key:Value) (es:List (Value × Value)):Option (Value × Bool):=
 if ay key && F9 P kt es.isEmpty key then
  match C4 P kt key es with
  |some (some (_,v))=>some (v,true)
  |some none=>some (zero,false)
  |none=>none
 else none
def IT (P:Program) (kt:TypeId) (key val:Value) (es:List (Value × Value)):Option (List (Value × Value)):=
 if ay key && F9 P kt false key then
  match C4 P kt key es with
  |some (some (i,_))=>match es[i]? with
   |some (k',_)=>if Instr.sameBits 10000 k' key then some (es.set i (key,val)) else none
   |none=>none
  |some none=>some (es++[(key,val)])
  |none=>none
 else none
def H.mS (h:H):Value->Option (List (Value × Value))
 | .map none=>some []
 | .map (some b)=>match h.get b with
   |some (.map es)=>some es
   |_=>none
 |_=>none
def oE (ty:TypeId) (ok:Bool) (zero:Value):Value->Option Value
 | .iface t v=>if t=ty then some (if ok then .tuple #[v,.bool true] else v) else if ok then some (.tuple #[zero,.bool false]) else none
 | .nilIface=>if ok then some (.tuple #[zero,.bool false]) else none
 |_=>none
def cF:Nat:=140737488355328
def bound (ts:List Value) (d:Nat):Option Operand->Option Nat
 |none=>some d
 |some x=>match aj ts x with
  | .int _ i=>if 0<=i then some i.toNat else none
  |_=>none
def eS (h:H) (e:TypeId) (size bytes m:Nat) (new:List Value) (s:Value):Option (Value × H):=
 match s with
 | .slice none 0 0=>
   if m=0 then some (Value.slice none 0 0,h)
   else if m * bytes<=cF/\m<=maxLen then some (.slice (some ⟨h.next,0,none⟩) m 0,h.alloc (.cells false new e m)) else none
 | .slice (some a) n skip=>
   if m=0 then some (.slice (some a) n skip,h)
   else match h.get a.block with
    |some (.cells tight cs e' rows)=>
     if a.spot=none/\a.off=0/\skip=0/\rows=n/\e'=e/\cs.length=n * size/\(n+m) * bytes<=cF/\n+m<=maxLen then
      some (.slice (some ⟨h.next,0,none⟩) (n+m) 0,
       (bif tight then h else h.set a.block .dead).alloc (.cells false (cs++new) e (n+m)))
     else if a.spot=none/\skip % 2=0/\a.off=skip / 2 * size/\rows=skip / 2+n/\e'=e/\cs.length=rows * size/\(n+m) * bytes<=cF/\n+m<=maxLen then
      some (.slice (some ⟨h.next,0,none⟩) (n+m) 0,
       (bif tight then h else h.set a.block .dead).alloc (.cells false (cs.drop a.off++new) e (n+m)))
     else none
    |_=>none
 |_=>none
def af (P:Program) (ts:List Value) (h:H):j8->Option (Value × H)
 | .move x=>some (aj ts x,h)
 | .pick c a b=>match aj ts c with
   | .bool t=>some (bif t then aj ts a else aj ts b,h)
   |_=>none
 | .alloc e zero=>some (.pointer (some ⟨h.next,0,none⟩),h.alloc (.cells true zero e 1))
 | .box e size x=>
   let cs:=aX (aj ts x)
   if cs.length=size then some (.pointer (some ⟨h.next,0,none⟩),h.alloc (.cells true cs e 1)) else none
 | .build zero ps=>(cJ ts zero.length ps).map fun l=>(.agg (fj zero l).toArray,h)
 | .buildSlice e n size zero ps=>
   (cJ ts (n * size) ps).map fun l=>(.slice (some ⟨h.next,0,none⟩) n 0,h.alloc (.cells true (fj (cE zero n) l) e n))
 | .load agg n a=>match aj ts a with
   | .pointer (some p)=>match h.cells p n with
     |some cs=>if agg then some (.agg cs.toArray,h) else (one cs).map fun v=>(v,h)
     |none=>none
   |_=>none
 | .store n a x=>match aj ts a with
   | .pointer (some p)=>
     let xs:=aX (aj ts x)
     match p.spot,h.get p.block with
     |none,some (.cells tight cs e rows)=>
      if xs.length=n && Nat.ble (p.off+n) cs.length && xs.all (·.oneCell') then
       some (undef,h.set p.block (.cells tight (cs.take p.off++xs++cs.drop (p.off+n)) e rows))
      else none
     |_,_=>none
   |_=>none
 | .nilCheck x=>match aj ts x with
   | .pointer (some p)=>some (.pointer (some p),h)
   | .func (.func f) a b=>some (.func (.func f) a b,h)
   | .func (.yield l) a b=>some (.func (.yield l) a b,h)
   |_=>none
 | .lp op x y=>match aj ts x,aj ts y with
   | .int k a,.int k' b=>if k=k' || op= .shl || op= .shr then (lp op k a b).map fun v=>(v,h) else none
   |_,_=>none
 | .gen o=>
   if o.op.operands.all (fun x=>ay (aj ts x)) then
    match av P (execOp (aj ts) o) with
    |some (.value v)=>if ay v then some (v,h) else none
    |_=>none
   else none
 | .fieldAddr off x=>match aj ts x with
   | .pointer (some p)=>if p.spot=none then some (.pointer (some ⟨p.block,p.off+off,none⟩),h) else none
   |_=>none
 | .field agg n off x=>match aj ts x with
   | .agg cs=>if off+n<=cs.toList.length then
     if agg then some (.agg ((cs.toList.drop off).take n).toArray,h) else (one ((cs.toList.drop off).take n)).map fun v=>(v,h)
     else none
   |_=>none
 | .qo size x i=>match aj ts x,aj ts i with
   | .slice (some a) len _,.int _ n=>if 0<=n/\n < (len:Int)/\a.spot=none then some (.pointer (some ⟨a.block,a.off+n.toNat * size,none⟩),h) else none
   |_,_=>none
 | .gF len size x i=>match aj ts x,aj ts i with
   | .pointer (some a),.int _ n=>if 0<=n/\n < (len:Int)/\a.spot=none then some (.pointer (some ⟨a.block,a.off+n.toNat * size,none⟩),h) else none
   |_,_=>none
 | .gI size x lo hi=>match aj ts x with
   | .slice none 0 0=>match bound ts 0 lo,bound ts 0 hi with
     |some 0,some 0=>some (.slice none 0 0,h)
     |_,_=>none
   | .slice (some a) len skip=>match bound ts 0 lo,bound ts len hi with
     |some l,some u=>
      if l<=u/\u<=len/\a.spot=none then some (.slice (some ⟨a.block,a.off+l * size,none⟩) (u - l) (qs skip l),h)
      else none
     |_,_=>none
   |_=>none
 | .oC f first captured=>some (.func (.func f) (first.map (aj ts)).toArray (captured.map (aj ts)).toArray,h)
 | .mR t x=>some (.iface t (aj ts x),h)
 | .extract x i=>match aj ts x with
   | .tuple vs=>(vs.toList[i]?).map fun v=>(v,h)
   |_=>none
 | .qp x=>match aj ts x with
   | .slice _ n _=>some (.int .i64 n,h)
   |_=>none
 | .vr x=>match aj ts x with
   | .slice none _ c=>some (.int .i64 c,h)
   |_=>none
 | .nK kind neg x y=>match kind,aj ts x,aj ts y with
   | 0,.pointer none,.pointer b=>some (.bool (neg != b.isNone),h)
   | 0,.pointer (some _),.pointer none=>some (.bool (neg != false),h)
   | 0,.pointer (some a),.pointer (some b)=>if a=b then some (.bool (neg != true),h) else none
   | 1,.slice none _ _,.slice b _ _=>some (.bool (neg != b.isNone),h)
   | 1,.slice (some _) _ _,.slice none _ _=>some (.bool (neg != false),h)
   | 2,.nilFunc,.nilFunc=>some (.bool (neg != true),h)
   | 2,.func _ _ _,.nilFunc=>some (.bool (neg != false),h)
   | 2,.nilFunc,.func _ _ _=>some (.bool (neg != false),h)
   |_,_,_=>none
 | .append e size bytes s x=>match cg h size (aj ts x) with
   |none=>none
   |some (m,new)=>
    if new.length=m * size && new.all (·.oneCell') then eS h e size bytes m new (aj ts s) else none
 | .makeSlice e bytes zero l c=>match aj ts l,aj ts c with
   | .int _ l,.int _ c=>
     if 0<=l/\l=c/\l.toNat * bytes<=cF/\l.toNat<=maxLen then
      some (.slice (some ⟨h.next,0,none⟩) l.toNat 0,h.alloc (.cells true (cE zero l.toNat) e l.toNat))
     else none
   |_,_=>none
 | .gm e x=>match aj ts x with
   | .string s=>if s.size<=maxLen then some (.slice (some ⟨h.next,0,none⟩) s.size 0,h.alloc (.cells false (s.data.toList.map fun b=>.int .u8 b.toNat) e s.size)) else none
   |_=>none
 | .fK x=>match ep h (aj ts x) with
   |some cs=>(cK cs).map fun l=>(.string ⟨l.toArray⟩,h)
   |none=>none
 | .Au x=>match aj ts x with
   | .slice (some a) n skip=>match a.spot,h.get a.block with
     |none,some (.cells true cs _ _)=>some (.slice (some a) n skip,h.set a.block (.ro cs))
     |_,_=>none
   |_=>none
 | .jK x=>match aj ts x with
   | .pointer none=>some (.pointer none,h)
   | .pointer (some p)=>match p.spot,h.get p.block with
     |none,some (.cells true cs _ _)=>if p.off < cs.length then some (.pointer (some p),h) else none
     |_,_=>none
   |_=>none
 | .jL u x=>match aj ts x with
   | .pointer none=>some (.pointer none,h)
   | .pointer (some p)=>match p.spot,h.get p.block with
     |none,some (.cells true cs e _)=>if liesAt P P.depth e (cs.length / P.cellsOf e) p.off u 1 then some (.pointer (some p),h) else none
     |_,_=>none
   |_=>none
 | .rz x=>match aj ts x with
   | .slice none _ _=>some (.pointer none,h)
   | .slice (some a) n _=>if n=0 then none else some (.pointer (some a),h)
   |_=>none
 | .rA e x n=>match aj ts x,aj ts n with
   | .pointer none,.int _ 0=>some (.string ⟨#[]⟩,h)
   | .pointer (some p),.int .i64 n=>match p.spot,h.get p.block with
     |none,some (.cells _ cs e' _)=>
      if 0 < n/\p.off+n.toNat<=cs.length/\e'=e/\n.toNat<=maxLen/\p.off=0 then
       (cK ((cs.drop p.off).take n.toNat)).map fun l=>(.string ⟨l.toArray⟩,h.set p.block .dead)
      else none
     |_,_=>none
   |_,_=>none
 | .nL x y=>match aj ts x,aj ts y with
   | .slice _ n _,.slice _ m _=>if n=0\/m=0 then some (.int .i64 0,h) else none
   |_,_=>none
 | .call _ _ | .dA _ _ | .defer _ _ | .recover | .panic _=>none
 | .kB args=>match args.map (aj ts) with
   | [x]=>some (x,h)
   |_=>none
 | .indexByte s c=>match aj ts s,aj ts c with
   | .string s,.int .u8 c=>some (.int .i64 (C3 s.data.toList c.toNat.toUInt8 0),h)
   |_,_=>none
 | .makeNoZero e n=>match aj ts n with
   | .int .i64 n=>if 0<=n/\n.toNat<=cF then some (.slice (some ⟨h.next,0,none⟩) n.toNat 0,h.alloc (.cells false [] e 0)) else none
   |_=>none
 | .makeMap=>some (.map (some h.next),h.alloc (.map []))
 | .lookup kt zero ok m k=>match h.mS (aj ts m) with
   |some es=>(yw P kt zero (aj ts k) es).map fun x=>(if ok then .tuple #[x.1,.bool x.2] else x.1,h)
   |none=>none
 | .mapUpdate kt m k v=>match aj ts m with
   | .map (some b)=>match h.get b with
     |some (.map es)=>(IT P kt (aj ts k) (aj ts v) es).map fun es'=>(undef,h.set b (.map es'))
     |_=>none
   |_=>none
 | .slice3 size x lo hi mx=>match aj ts x with
   | .slice (some a) len _=>match bound ts 0 lo,bound ts len hi,bound ts len (some mx) with
     |some l,some u,some m=>
      if l<=u/\u<=m/\m<=len/\a.spot=none then
       some (.slice (some (if m=l then a else ⟨a.block,a.off+l * size,none⟩)) (u - l) (2 * (m - l)+1),h)
      else none
     |_,_,_=>none
   |_=>none
 | .nM len size x lo hi=>match aj ts x with
   | .pointer (some a)=>match bound ts 0 lo,bound ts len hi with
     |some l,some u=>
      if l<=u/\u<=len/\a.spot=none then
       some (.slice (some (if len=l then a else ⟨a.block,a.off+l * size,none⟩)) (u - l) (2 * (len - l)+1),h)
      else none
     |_,_=>none
   |_=>none
 | .qq n len x i=>match aj ts x,aj ts i with
   | .agg cs,.int _ j=>if 0<=j/\j < (len:Int)/\j.toNat * n+n<=cs.toList.length then some (.agg ((cs.toList.drop (j.toNat * n)).take n).toArray,h) else none
   |_,_=>none
 | .assert ty ok zero x=>(oE ty ok zero (aj ts x)).map fun v=>(v,h)
 | .nN x=>match aj ts x with
   | .string s=>some (.pointer (some ⟨h.next,0,none⟩),h.alloc (.iter s 0))
   |_=>none
 | .rB x=>match aj ts x with
   | .pointer (some ⟨b,0,none⟩)=>match h.get b with
     |some (.iter s pos)=>
      if pos < s.size then some (.tuple #[.bool true,.int .i64 pos,.int .i32 (Utf8.decode s pos).1],h.set b (.iter s (pos+(Utf8.decode s pos).2)))
      else some (.tuple #[.bool false],h)
     |_=>none
   |_=>none
end Go.Ev
