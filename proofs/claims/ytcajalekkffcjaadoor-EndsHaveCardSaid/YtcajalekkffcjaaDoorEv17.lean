/- The evaluator over a small code, and that what it finds of a call holds of the machine, part 17. -/
import Derived.Test.YtcajalekkffcjaaDoorEv16
namespace Go.Ev
open Go
noncomputable def NI:Nat->List Value->Value:=fun n=>Nat.rec (fun l=>List.casesOn l undef (fun v _=>v)) (fun _ ih l=>List.casesOn l undef (fun _ t=>ih t)) n
theorem uw:∀(n:Nat) (l:List Value),NI n l=l.getD n undef
 | 0,[]=>rfl
 | 0,_ :: _=>rfl
 |_+1,[]=>rfl
 |n+1,_ :: t=>uw n t
noncomputable def Trie.p5 {β:Type} (p:List Bool):Trie β->Option β:=
 List.rec (fun t=>Trie.casesOn t none (fun _ v _=>v)) (fun b _ ih t=>Trie.casesOn t none (fun l _ r=>ih (Bool.casesOn b r l))) p
theorem Trie.ir {β:Type}:∀(p:List Bool) (t:Trie β),t.p5 p=t.get p
 | [],.leaf=>rfl
 | [],.node _ _ _=>rfl
 |_ :: _,.leaf=>rfl
 |true :: p,.node l _ _=>Trie.ir p l
 |false :: p,.node _ _ r=>Trie.ir p r
noncomputable def Trie.mM {β:Type} (x:β) (p:List Bool):Trie β->Trie β:=
 List.rec (fun t=>Trie.casesOn t (.node .leaf (some x) .leaf) (fun l _ r=>.node l (some x) r))
  (fun b _ ih t=>Trie.casesOn t (Bool.casesOn b (.node .leaf none (ih .leaf)) (.node (ih .leaf) none .leaf)) (fun l v r=>Bool.casesOn b (.node l v (ih r)) (.node (ih l) v r))) p
theorem Trie.jj {β:Type} (x:β):∀(p:List Bool) (t:Trie β),t.mM x p=t.set x p
 | [],.leaf=>rfl
 | [],.node _ _ _=>rfl
 |true :: p,.leaf=>congrArg (fun y=>Trie.node y none .leaf) (Trie.jj x p .leaf)
 |false :: p,.leaf=>congrArg (fun y=>Trie.node .leaf none y) (Trie.jj x p .leaf)
 |true :: p,.node l v r=>congrArg (fun y=>Trie.node y v r) (Trie.jj x p l)
 |false :: p,.node l v r=>congrArg (fun y=>Trie.node l v y) (Trie.jj x p r)
noncomputable def H.p5 (h:H) (i:Nat):Option eo:=h.t.p5 (path i i)
noncomputable def H.mM (h:H) (i:Nat) (b:eo):H:=H.casesOn h (fun n t=>⟨n,t.mM b (path i i)⟩)
noncomputable def H.kT (h:H) (b:eo):H:=H.casesOn h (fun n t=>⟨n+1,t.mM b (path n n)⟩)
theorem ir (h:H) (i:Nat):h.p5 i=h.get i:=Trie.ir _ _
theorem jj (h:H) (i:Nat) (b:eo):h.mM i b=h.set i b:=by
 show (⟨h.next,h.t.mM b (path i i)⟩:H)=_
 rw [Trie.jj];rfl
theorem Bc (h:H) (b:eo):h.kT b=h.alloc b:=by
 show (⟨h.next+1,h.t.mM b (path h.next h.next)⟩:H)=_
 rw [Trie.jj];rfl
noncomputable def H.s8 (h:H) (a:Addr) (n:Nat):Option (List Value):=
 match a.spot,(h.p5 a.block).bind eo.read with
 |none,some cs=>if a.off+n<=cs.length then some ((cs.drop a.off).take n) else none
 |_,_=>none
theorem nU (h:H) (a:Addr) (n:Nat):h.s8 a n=h.cells a n:=by
 unfold H.s8 H.cells
 rw [ir]
 rfl
noncomputable def qC (en:Operand->Value) (len:Nat):List (Nat × Nat × Operand)->Option (List (Nat × List Value))
 | []=>some []
 |(off,size,x) :: r=>
  let xs:=aX (en x)
  if xs.length=size && Nat.ble (off+size) len then (qC en len r).map ((off,xs) :: ·) else none
noncomputable def rH (h:H) (size:Nat):Value->Option (Nat × List Value)
 | .slice none n _=>if n=0 then some (0,[]) else none
 | .slice (some a) n _=>if n=0 then some (0,[]) else (h.s8 a (n * size)).map fun cs=>(n,cs)
 | .string s=>some (s.size,s.data.toList.map fun b=>.int .u8 b.toNat)
 |_=>none
noncomputable def qD (h:H):Value->Option (List Value)
 | .slice a n c=>(rH h 1 (.slice a n c)).map (·.2)
 |_=>none
noncomputable def nr (en:Operand->Value) (d:Nat):Option Operand->Option Nat
 |none=>some d
 |some x=>match en x with
  | .int _ i=>if 0<=i then some i.toNat else none
  |_=>none
noncomputable def yH (h:H) (e:TypeId) (size bytes m:Nat) (new:List Value) (s:Value):Option (Value × H):=
 match s with
 | .slice none 0 0=>
   if m=0 then some (Value.slice none 0 0,h)
   else if m * bytes<=cF/\m<=maxLen then some (.slice (some ⟨h.next,0,none⟩) m 0,h.kT (.cells false new e m)) else none
 | .slice (some a) n skip=>
   if m=0 then some (.slice (some a) n skip,h)
   else match h.p5 a.block with
    |some (.cells tight cs e' rows)=>
     if a.spot=none/\a.off=0/\skip=0/\rows=n/\e'=e/\cs.length=n * size/\(n+m) * bytes<=cF/\n+m<=maxLen then
      some (.slice (some ⟨h.next,0,none⟩) (n+m) 0,
       (bif tight then h else h.mM a.block .dead).kT (.cells false (cs++new) e (n+m)))
     else if a.spot=none/\skip % 2=0/\a.off=skip / 2 * size/\rows=skip / 2+n/\e'=e/\cs.length=rows * size/\(n+m) * bytes<=cF/\n+m<=maxLen then
      some (.slice (some ⟨h.next,0,none⟩) (n+m) 0,
       (bif tight then h else h.mM a.block .dead).kT (.cells false (cs.drop a.off++new) e (n+m)))
     else none
    |_=>none
 |_=>none
theorem wN (ts:List Value) (len:Nat):∀ps,qC (aj ts) len ps=cJ ts len ps
 | []=>rfl
 |(off,size,x) :: r=>by simp only [qC,cJ,wN ts len r]
theorem ux (h:H) (size:Nat) (v:Value):rH h size v=cg h size v:=by
 unfold rH cg;simp only [nU];rfl
theorem yI (h:H) (v:Value):qD h v=ep h v:=by
 unfold qD ep;simp only [ux];rfl
theorem Hw (ts:List Value) (d:Nat) (x:Option Operand):nr (aj ts) d x=bound ts d x:=by
 cases x with
 |none=>rfl
 |some x=>rfl
theorem Dq (h:H) (e:TypeId) (size bytes m:Nat) (new:List Value) (s:Value):yH h e size bytes m new s=eS h e size bytes m new s:=by
 unfold yH eS;simp only [ir,jj,Bc];rfl
noncomputable def Ja (en:Operand->Value) (h:H) (x:Operand):Option (Value × H):=some (en x,h)
noncomputable def Jb (en:Operand->Value) (h:H) (c:Operand) (a:Operand) (b:Operand):Option (Value × H):=
  match en c with
   | .bool t=>some (bif t then en a else en b,h)
   |_=>none
noncomputable def Gj (h:H) (e:TypeId) (zero:List Value):Option (Value × H):=some (.pointer (some ⟨h.next,0,none⟩),h.kT (.cells true zero e 1))
noncomputable def Mb (en:Operand->Value) (h:H) (e:TypeId) (size:Nat) (x:Operand):Option (Value × H):=
   let cs:=aX (en x)
  if cs.length=size then some (.pointer (some ⟨h.next,0,none⟩),h.kT (.cells true cs e 1)) else none
noncomputable def Gk (en:Operand->Value) (h:H) (zero:List Value) (ps:List (Nat × Nat × Operand)):Option (Value × H):=(qC en zero.length ps).map fun l=>(.agg (fj zero l).toArray,h)
noncomputable def uy (en:Operand->Value) (h:H) (e:TypeId) (n:Nat) (size:Nat) (zero:List Value) (ps:List (Nat × Nat × Operand)):Option (Value × H):=(qC en (n * size) ps).map fun l=>(.slice (some ⟨h.next,0,none⟩) n 0,h.kT (.cells true (fj (cE zero n) l) e n))
noncomputable def Jc (en:Operand->Value) (h:H) (agg:Bool) (n:Nat) (a:Operand):Option (Value × H):=
  match en a with
   | .pointer (some p)=>match h.s8 p n with
     |some cs=>if agg then some (.agg cs.toArray,h) else (one cs).map fun v=>(v,h)
     |none=>none
   |_=>none
noncomputable def Gl (en:Operand->Value) (h:H) (n:Nat) (a:Operand) (x:Operand):Option (Value × H):=
  match en a with
   | .pointer (some p)=>
     let xs:=aX (en x)
     match p.spot,h.p5 p.block with
     |none,some (.cells tight cs e rows)=>
      if xs.length=n && Nat.ble (p.off+n) cs.length && xs.all (·.oneCell') then
       some (undef,h.mM p.block (.cells tight (cs.take p.off++xs++cs.drop (p.off+n)) e rows))
      else none
     |_,_=>none
   |_=>none
noncomputable def yJ (en:Operand->Value) (h:H) (x:Operand):Option (Value × H):=
  match en x with
   | .pointer (some p)=>some (.pointer (some p),h)
   | .func (.func f) a b=>some (.func (.func f) a b,h)
   | .func (.yield l) a b=>some (.func (.yield l) a b,h)
   |_=>none
noncomputable def Jd (en:Operand->Value) (h:H) (op:BinOp) (x:Operand) (y:Operand):Option (Value × H):=
  match en x,en y with
   | .int k a,.int k' b=>if k=k' || op= .shl || op= .shr then (lp op k a b).map fun v=>(v,h) else none
   |_,_=>none
noncomputable def Mc (P:Program) (en:Operand->Value) (h:H) (o:Oper):Option (Value × H):=
   if o.op.operands.all (fun x=>ay (en x)) then
   match av P (execOp (en) o) with
   |some (.value v)=>if ay v then some (v,h) else none
   |_=>none
  else none
noncomputable def wO (en:Operand->Value) (h:H) (off:Nat) (x:Operand):Option (Value × H):=
  match en x with
   | .pointer (some p)=>if p.spot=none then some (.pointer (some ⟨p.block,p.off+off,none⟩),h) else none
   |_=>none
noncomputable def Gm (en:Operand->Value) (h:H) (agg:Bool) (n:Nat) (off:Nat) (x:Operand):Option (Value × H):=
  match en x with
   | .agg cs=>if off+n<=cs.toList.length then
     if agg then some (.agg ((cs.toList.drop off).take n).toArray,h) else (one ((cs.toList.drop off).take n)).map fun v=>(v,h)
     else none
   |_=>none
noncomputable def Gn (en:Operand->Value) (h:H) (size:Nat) (x:Operand) (i:Operand):Option (Value × H):=
  match en x,en i with
   | .slice (some a) len _,.int _ n=>if 0<=n/\n < (len:Int)/\a.spot=none then some (.pointer (some ⟨a.block,a.off+n.toNat * size,none⟩),h) else none
   |_,_=>none
noncomputable def Dr (en:Operand->Value) (h:H) (len:Nat) (size:Nat) (x:Operand) (i:Operand):Option (Value × H):=
  match en x,en i with
   | .pointer (some a),.int _ n=>if 0<=n/\n < (len:Int)/\a.spot=none then some (.pointer (some ⟨a.block,a.off+n.toNat * size,none⟩),h) else none
   |_,_=>none
noncomputable def Bd (en:Operand->Value) (h:H) (size:Nat) (x:Operand) (lo:Option Operand) (hi:Option Operand):Option (Value × H):=
  match en x with
   | .slice none 0 0=>match nr en 0 lo,nr en 0 hi with
     |some 0,some 0=>some (.slice none 0 0,h)
     |_,_=>none
   | .slice (some a) len skip=>match nr en 0 lo,nr en len hi with
     |some l,some u=>
      if l<=u/\u<=len/\a.spot=none then some (.slice (some ⟨a.block,a.off+l * size,none⟩) (u - l) (qs skip l),h)
      else none
     |_,_=>none
   |_=>none
noncomputable def Ds (en:Operand->Value) (h:H) (f:FuncId) (first:List Operand) (captured:List Operand):Option (Value × H):=some (.func (.func f) (first.map (en)).toArray (captured.map (en)).toArray,h)
noncomputable def Be (en:Operand->Value) (h:H) (t:TypeId) (x:Operand):Option (Value × H):=some (.iface t (en x),h)
noncomputable def Bf (en:Operand->Value) (h:H) (x:Operand) (i:Nat):Option (Value × H):=
  match en x with
   | .tuple vs=>(vs.toList[i]?).map fun v=>(v,h)
   |_=>none
noncomputable def Gp (en:Operand->Value) (h:H) (x:Operand):Option (Value × H):=
  match en x with
   | .slice _ n _=>some (.int .i64 n,h)
   |_=>none
noncomputable def Dt (en:Operand->Value) (h:H) (x:Operand):Option (Value × H):=
  match en x with
   | .slice none _ c=>some (.int .i64 c,h)
   |_=>none
noncomputable def Gq (en:Operand->Value) (h:H) (kind:Nat) (neg:Bool) (x:Operand) (y:Operand):Option (Value × H):=
  match kind,en x,en y with
   | 0,.pointer none,.pointer b=>some (.bool (neg != b.isNone),h)
   | 0,.pointer (some _),.pointer none=>some (.bool (neg != false),h)
   | 0,.pointer (some a),.pointer (some b)=>if a=b then some (.bool (neg != true),h) else none
   | 1,.slice none _ _,.slice b _ _=>some (.bool (neg != b.isNone),h)
   | 1,.slice (some _) _ _,.slice none _ _=>some (.bool (neg != false),h)
   | 2,.nilFunc,.nilFunc=>some (.bool (neg != true),h)
   | 2,.func _ _ _,.nilFunc=>some (.bool (neg != false),h)
   | 2,.nilFunc,.func _ _ _=>some (.bool (neg != false),h)
   |_,_,_=>none
noncomputable def Du (en:Operand->Value) (h:H) (e:TypeId) (size:Nat) (bytes:Nat) (s:Operand) (x:Operand):Option (Value × H):=
  match rH h size (en x) with
   |none=>none
   |some (m,new)=>
    if new.length=m * size && new.all (·.oneCell') then yH h e size bytes m new (en s) else none
noncomputable def wP (en:Operand->Value) (h:H) (e:TypeId) (bytes:Nat) (zero:List Value) (l:Operand) (c:Operand):Option (Value × H):=
  match en l,en c with
   | .int _ l,.int _ c=>
     if 0<=l/\l=c/\l.toNat * bytes<=cF/\l.toNat<=maxLen then
      some (.slice (some ⟨h.next,0,none⟩) l.toNat 0,h.kT (.cells true (cE zero l.toNat) e l.toNat))
     else none
   |_,_=>none
noncomputable def yK (en:Operand->Value) (h:H) (e:TypeId) (x:Operand):Option (Value × H):=
  match en x with
   | .string s=>if s.size<=maxLen then some (.slice (some ⟨h.next,0,none⟩) s.size 0,h.kT (.cells false (s.data.toList.map fun b=>.int .u8 b.toNat) e s.size)) else none
   |_=>none
noncomputable def yL (en:Operand->Value) (h:H) (x:Operand):Option (Value × H):=
  match qD h (en x) with
   |some cs=>(cK cs).map fun l=>(.string ⟨l.toArray⟩,h)
   |none=>none
noncomputable def Je (en:Operand->Value) (h:H) (x:Operand):Option (Value × H):=
  match en x with
   | .slice (some a) n skip=>match a.spot,h.p5 a.block with
     |none,some (.cells true cs _ _)=>some (.slice (some a) n skip,h.mM a.block (.ro cs))
     |_,_=>none
   |_=>none
noncomputable def wQ (en:Operand->Value) (h:H) (x:Operand):Option (Value × H):=
  match en x with
   | .pointer none=>some (.pointer none,h)
   | .pointer (some p)=>match p.spot,h.p5 p.block with
     |none,some (.cells true cs _ _)=>if p.off < cs.length then some (.pointer (some p),h) else none
     |_,_=>none
   |_=>none
noncomputable def wR (P:Program) (en:Operand->Value) (h:H) (u:TypeId) (x:Operand):Option (Value × H):=
  match en x with
   | .pointer none=>some (.pointer none,h)
   | .pointer (some p)=>match p.spot,h.p5 p.block with
     |none,some (.cells true cs e _)=>if liesAt P P.depth e (cs.length / P.cellsOf e) p.off u 1 then some (.pointer (some p),h) else none
     |_,_=>none
   |_=>none
noncomputable def wS (en:Operand->Value) (h:H) (x:Operand):Option (Value × H):=
  match en x with
   | .slice none _ _=>some (.pointer none,h)
   | .slice (some a) n _=>if n=0 then none else some (.pointer (some a),h)
   |_=>none
noncomputable def Bg (en:Operand->Value) (h:H) (e:TypeId) (x:Operand) (n:Operand):Option (Value × H):=
  match en x,en n with
   | .pointer none,.int _ 0=>some (.string ⟨#[]⟩,h)
   | .pointer (some p),.int .i64 n=>match p.spot,h.p5 p.block with
     |none,some (.cells _ cs e' _)=>
      if 0 < n/\p.off+n.toNat<=cs.length/\e'=e/\n.toNat<=maxLen/\p.off=0 then
       (cK ((cs.drop p.off).take n.toNat)).map fun l=>(.string ⟨l.toArray⟩,h.mM p.block .dead)
      else none
     |_,_=>none
   |_,_=>none
noncomputable def yM (en:Operand->Value) (h:H) (x:Operand) (y:Operand):Option (Value × H):=
  match en x,en y with
   | .slice _ n _,.slice _ m _=>if n=0\/m=0 then some (.int .i64 0,h) else none
   |_,_=>none
noncomputable def yN (en:Operand->Value) (h:H) (args:List Operand):Option (Value × H):=
  match args.map (en) with
   | [x]=>some (x,h)
   |_=>none
noncomputable def wT (en:Operand->Value) (h:H) (s:Operand) (c:Operand):Option (Value × H):=
  match en s,en c with
   | .string s,.int .u8 c=>some (.int .i64 (C3 s.data.toList c.toNat.toUInt8 0),h)
   |_,_=>none
noncomputable def uz (en:Operand->Value) (h:H) (e:TypeId) (n:Operand):Option (Value × H):=
  match en n with
   | .int .i64 n=>if 0<=n/\n.toNat<=cF then some (.slice (some ⟨h.next,0,none⟩) n.toNat 0,h.kT (.cells false [] e 0)) else none
   |_=>none
noncomputable def Bh (h:H):Option (Value × H):=some (.map (some h.next),h.kT (.map []))
noncomputable def H.E5 (h:H):Value->Option (List (Value × Value))
 | .map none=>some []
 | .map (some b)=>match h.p5 b with
   |some (.map es)=>some es
   |_=>none
 |_=>none
theorem Hx (h:H) (v:Value):h.E5 v=h.mS v:=by
 unfold H.E5 H.mS;simp only [ir];rfl
noncomputable def Dv (P:Program) (en:Operand->Value) (h:H) (kt:TypeId) (zero:Value) (ok:Bool) (m k:Operand):Option (Value × H):=
  match h.E5 (en m) with
   |some es=>(yw P kt zero (en k) es).map fun x=>(if ok then .tuple #[x.1,.bool x.2] else x.1,h)
   |none=>none
noncomputable def wU (P:Program) (en:Operand->Value) (h:H) (kt:TypeId) (m k v:Operand):Option (Value × H):=
  match en m with
   | .map (some b)=>match h.p5 b with
     |some (.map es)=>(IT P kt (en k) (en v) es).map fun es'=>(undef,h.mM b (.map es'))
     |_=>none
   |_=>none
noncomputable def Dw (en:Operand->Value) (h:H) (size:Nat) (x:Operand) (lo hi:Option Operand) (mx:Operand):Option (Value × H):=
  match en x with
   | .slice (some a) len _=>match nr en 0 lo,nr en len hi,nr en len (some mx) with
     |some l,some u,some m=>
      if l<=u/\u<=m/\m<=len/\a.spot=none then
       some (.slice (some (if m=l then a else ⟨a.block,a.off+l * size,none⟩)) (u - l) (2 * (m - l)+1),h)
      else none
     |_,_,_=>none
   |_=>none
noncomputable def yO (en:Operand->Value) (h:H) (len size:Nat) (x:Operand) (lo hi:Option Operand):Option (Value × H):=
  match en x with
   | .pointer (some a)=>match nr en 0 lo,nr en len hi with
     |some l,some u=>
      if l<=u/\u<=len/\a.spot=none then
       some (.slice (some (if len=l then a else ⟨a.block,a.off+l * size,none⟩)) (u - l) (2 * (len - l)+1),h)
      else none
     |_,_=>none
   |_=>none
noncomputable def Dx (en:Operand->Value) (h:H) (n len:Nat) (x i:Operand):Option (Value × H):=
  match en x,en i with
   | .agg cs,.int _ j=>if 0<=j/\j < (len:Int)/\j.toNat * n+n<=cs.toList.length then some (.agg ((cs.toList.drop (j.toNat * n)).take n).toArray,h) else none
   |_,_=>none
noncomputable def Dy (en:Operand->Value) (h:H) (ty:TypeId) (ok:Bool) (zero:Value) (x:Operand):Option (Value × H):=(oE ty ok zero (en x)).map fun v=>(v,h)
noncomputable def yP (en:Operand->Value) (h:H) (x:Operand):Option (Value × H):=
  match en x with
   | .string s=>some (.pointer (some ⟨h.next,0,none⟩),h.kT (.iter s 0))
   |_=>none
noncomputable def Bi (en:Operand->Value) (h:H) (x:Operand):Option (Value × H):=
  match en x with
   | .pointer (some ⟨b,0,none⟩)=>match h.p5 b with
     |some (.iter s pos)=>
      if pos < s.size then some (.tuple #[.bool true,.int .i64 pos,.int .i32 (Utf8.decode s pos).1],h.mM b (.iter s (pos+(Utf8.decode s pos).2)))
      else some (.tuple #[.bool false],h)
     |_=>none
   |_=>none
structure OC where
 run:(Operand->Value)->H->Option (Value × H)
noncomputable def K7 (P:Program) (op:j8):OC:=
 match op with
 | .move a0=>⟨fun en h=>Ja en h a0⟩
 | .pick a0 a1 a2=>⟨fun en h=>Jb en h a0 a1 a2⟩
 | .alloc a0 a1=>⟨fun _ h=>Gj h a0 a1⟩
 | .box a0 a1 a2=>⟨fun en h=>Mb en h a0 a1 a2⟩
 | .build a0 a1=>⟨fun en h=>Gk en h a0 a1⟩
 | .buildSlice a0 a1 a2 a3 a4=>⟨fun en h=>uy en h a0 a1 a2 a3 a4⟩
 | .load a0 a1 a2=>⟨fun en h=>Jc en h a0 a1 a2⟩
 | .store a0 a1 a2=>⟨fun en h=>Gl en h a0 a1 a2⟩
 | .nilCheck a0=>⟨fun en h=>yJ en h a0⟩
 | .lp a0 a1 a2=>⟨fun en h=>Jd en h a0 a1 a2⟩
 | .gen a0=>⟨fun en h=>Mc P en h a0⟩
 | .fieldAddr a0 a1=>⟨fun en h=>wO en h a0 a1⟩
 | .field a0 a1 a2 a3=>⟨fun en h=>Gm en h a0 a1 a2 a3⟩
 | .qo a0 a1 a2=>⟨fun en h=>Gn en h a0 a1 a2⟩
 | .gF a0 a1 a2 a3=>⟨fun en h=>Dr en h a0 a1 a2 a3⟩
 | .gI a0 a1 a2 a3=>⟨fun en h=>Bd en h a0 a1 a2 a3⟩
 | .oC a0 a1 a2=>⟨fun en h=>Ds en h a0 a1 a2⟩
 | .mR a0 a1=>⟨fun en h=>Be en h a0 a1⟩
 | .extract a0 a1=>⟨fun en h=>Bf en h a0 a1⟩
 | .qp a0=>⟨fun en h=>Gp en h a0⟩
 | .vr a0=>⟨fun en h=>Dt en h a0⟩
 | .nK a0 a1 a2 a3=>⟨fun en h=>Gq en h a0 a1 a2 a3⟩
 | .append a0 a1 a2 a3 a4=>⟨fun en h=>Du en h a0 a1 a2 a3 a4⟩
 | .makeSlice a0 a1 a2 a3 a4=>⟨fun en h=>wP en h a0 a1 a2 a3 a4⟩
 | .gm a0 a1=>⟨fun en h=>yK en h a0 a1⟩
 | .fK a0=>⟨fun en h=>yL en h a0⟩
 | .Au a0=>⟨fun en h=>Je en h a0⟩
 | .jK a0=>⟨fun en h=>wQ en h a0⟩
 | .jL a0 a1=>⟨fun en h=>wR P en h a0 a1⟩
 | .rz a0=>⟨fun en h=>wS en h a0⟩
 | .rA a0 a1 a2=>⟨fun en h=>Bg en h a0 a1 a2⟩
 | .nL a0 a1=>⟨fun en h=>yM en h a0 a1⟩
 | .kB a0=>⟨fun en h=>yN en h a0⟩
 | .indexByte a0 a1=>⟨fun en h=>wT en h a0 a1⟩
 | .makeNoZero a0 a1=>⟨fun en h=>uz en h a0 a1⟩
 | .makeMap=>⟨fun _ h=>Bh h⟩
 | .lookup a0 a1 a2 a3 a4=>⟨fun en h=>Dv P en h a0 a1 a2 a3 a4⟩
 | .mapUpdate a0 a1 a2 a3=>⟨fun en h=>wU P en h a0 a1 a2 a3⟩
 | .slice3 a0 a1 a2 a3 a4=>⟨fun en h=>Dw en h a0 a1 a2 a3 a4⟩
 | .nM a0 a1 a2 a3 a4=>⟨fun en h=>yO en h a0 a1 a2 a3 a4⟩
 | .qq a0 a1 a2 a3=>⟨fun en h=>Dx en h a0 a1 a2 a3⟩
 | .assert a0 a1 a2 a3=>⟨fun en h=>Dy en h a0 a1 a2 a3⟩
 | .nN a0=>⟨fun en h=>yP en h a0⟩
 | .rB a0=>⟨fun en h=>Bi en h a0⟩
 | .call _ _=>⟨fun _ _=>none⟩
 | .dA _ _=>⟨fun _ _=>none⟩
 | .defer _ _=>⟨fun _ _=>none⟩
 | .recover=>⟨fun _ _=>none⟩
 | .panic _=>⟨fun _ _=>none⟩
theorem Gs (P:Program) (op:j8) (ts:List Value) (h:H):(K7 P op).run (aj ts) h=af P ts h op:=by
 cases op<;>simp only [K7,af,Ja,Jb,Gj,Mb,Gk,uy,Jc,Gl,yJ,Jd,Mc,wO,Gm,Gn,Dr,Bd,Ds,Be,Bf,Gp,Dt,Gq,Du,wP,yK,yL,Je,wQ,wR,wS,Bg,yM,yN,wT,uz,Bh,Dv,wU,Dw,yO,yP,Bi,Dx,Dy,Hx,ir,jj,Bc,nU,wN,ux,yI,Hw,Dq]
 all_goals rfl
end Go.Ev
