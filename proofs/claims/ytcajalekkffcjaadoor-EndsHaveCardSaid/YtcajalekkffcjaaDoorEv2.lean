/- The evaluator over a small code, and that what it finds of a call holds of the machine, part 2. -/
import Derived.Test.YtcajalekkffcjaaDoorEv1
namespace Go.Ev
open Go
inductive aM where
 |normal
 |exit (id:Nat)
 |ret
 |panic (v:Value)
inductive RC where
 |dF
 |calm
 |eY (v:Value)
 |done (v:Value)
def RC.isDone:RC->Bool
 | .done _=>true
 |_=>false
def OH:Option Value->RC
 |none=>.calm
 |some v=>.eY v
inductive fF where
 |coll (d:Nat)
 |call (f:Value) (args:List Value)
structure aD where
 tmps:List Value
 defers:List fF
 rc:RC
 round:Bool
inductive fR where
 |ret (v:Value)
 |panic (v:Value)
inductive Db where
 |tmp (t:Tmp)
 |cell (t:Tmp) (agg:Bool) (n:Nat)
structure kM where
 ntmps:Nat
 results:List Db
 body:AC
structure Rec where
 call:Value->List Value->RC->H->Option (fR × RC × H)
 loop:AC->aD->H->Option (aM × aD × H)
def dB (dst:Option Tmp) (v:Value) (ts:List Value):List Value:=
 match dst with
 |some d=>ts.set d v
 |none=>ts
def aD.put (a:aD) (dst:Option Tmp) (v:Value):aD:={a with tmps:=dB dst v a.tmps}
def aq (g:Option (Tmp × Bool)) (ts:List Value):Bool:=
 match g with
 |none=>true
 |some (t,b)=>match ts[t]? with
  |some (.bool c)=>c == b
  |_=>false
def MC:Value->Value->Bool
 | .bool a,.bool b=>a == b
 | .int k a,.int l b=>k == l && a == b
 | .string a,.string b=>a.data.toList == b.data.toList
 | .pointer a,.pointer b=>a == b
 | .slice a n c,.slice b m d=>a == b && n == m && c == d
 | .map a,.map b=>a == b
 | .nilFunc,.nilFunc=>true
 | .nilIface,.nilIface=>true
 | .func (.func f) a b,.func (.func g) c d=>f == g && a.toList.isEmpty && b.toList.isEmpty && c.toList.isEmpty && d.toList.isEmpty
 |_,_=>false
def Az:List Value->List Value->Bool
 | [],[]=>true
 |a :: r,b :: s=>MC a b && Az r s
 |_,_=>false
def c8 (h h':H) (p:Addr) (n:Nat):Bool:=
 match h.cells p n,h'.cells p n with
 |some x,some y=>Az x y
 |_,_=>false
def Jx:LoopState->Bool
 | .busy=>true
 |_=>false
def DG:Option (Option Nat)->aM
 |none=>.normal
 |some none=>.ret
 |some (some id)=>.exit id
section
variable (P:Program) (rec:Rec)
inductive Step where
 |on (a:aD) (h:H)
 |panic (v:Value) (a:aD) (h:H)
def cG (o:AO) (a:aD) (h:H):Option Step:=
 if aq o.guard a.tmps then
  match o.op with
  | .call f args=>match rec.call (aj a.tmps f) (args.map (aj a.tmps)) .dF h with
    |some (.ret v,_,h')=>some (.on (a.put o.dst v) h')
    |some (.panic v,_,h')=>some (.panic v a h')
    |none=>none
  | .dA f args=>match rec.call (aj a.tmps f) (args.map (aj a.tmps)) .dF h with
    |some (.ret v,_,h')=>some (.on (a.put o.dst v) h')
    |some (.panic v,_,h')=>some (.panic v a h')
    |none=>none
  | .defer f args=>match a.round,aj a.tmps f with
    |false,.func (.func g) x y=>some (.on ({a with defers:=.call (.func (.func g) x y) (args.map (aj a.tmps)) :: a.defers}.put o.dst undef) h)
    |_,_=>none
  | .recover=>match a.rc with
    | .calm=>some (.on (a.put o.dst .nilIface) h)
    | .eY v=>some (.on ({a with rc:=.done v}.put o.dst v) h)
    |_=>none
  | .panic x=>match aj a.tmps x with
    | .iface t v=>some (.panic (.iface t v) a h)
    |_=>none
  |op=>match af P a.tmps h op with
   |some (v,h')=>some (.on (a.put o.dst v) h')
   |none=>none
 else some (.on (a.put o.dst undef) h)
def eW:List AO->aD->H->Option (aM × aD × H)
 | [],a,h=>some (.normal,a,h)
 |o :: r,a,h=>match cG P rec o a h with
  |some (.on a' h')=>eW r a' h'
  |some (.panic v a' h')=>some (.panic v,a',h')
  |none=>none
def ew:j8->Bool
 | .alloc .. | .box .. | .buildSlice .. | .store .. | .append .. | .makeSlice .. | .gm .. | .rA .. | .Au .. | .call .. | .defer .. | .recover | .panic _
 | .makeNoZero .. | .makeMap | .mapUpdate .. | .nN _ | .rB _=>true
 |_=>false
def iE (o:AO) (ts:List Value) (h:H):Option (Value × H):=
 if aq o.guard ts then
  match o.op with
  | .call f args=>match rec.call (aj ts f) (args.map (aj ts)) .dF h with
    |some (.ret v,_,h')=>some (v,h')
    |_=>none
  | .dA f args=>match rec.call (aj ts f) (args.map (aj ts)) .dF h with
    |some (.ret v,_,h')=>some (v,h')
    |_=>none
  |op=>af P ts h op
 else some (undef,h)
def trace:List AO->List Value->H->Option (List (List Value × H))
 | [],ts,h=>some [(ts,h)]
 |o :: r,ts,h=>match iE P rec o ts h with
  |some (v,h')=>(trace r (dB o.dst v ts) h').map ((ts,h) :: ·)
  |none=>none
def gG (ops:List AO) (G:List (List Value × H)) (c:Nat × Nat):Bool:=
 match ops[c.1]?,G[c.1]?,G[c.2]? with
 |some o,some (ts,h),some (_,h')=>if aq o.guard ts then (match o.op with
   | .load _ n x=>(match aj ts x with | .pointer (some p)=>c8 h h' p n |_=>false)
   |_=>false) else true
 |_,_,_=>false
def K6:Value:=.tuple #[.tuple #[]]
def nO:Value->Bool
 | .tuple a=>(match a.toList with | [.tuple _]=>true |_=>false)
 |_=>false
def ij:List Tmp->List Value->List Value
 | [],ts=>ts
 |t :: r,ts=>ij r (ts.set t K6)
def dV (ops:List AO) (a:aD) (h:H):oD->Option (aM × aD × H)
 | []=>none
 |c :: r=>match trace P rec (ops.take c.1) a.tmps h with
  |some G=>(match ops[c.1]?,G[c.1]? with
    |some o,some (ts,h1)=>(match cG P rec o {a with tmps:=ts} h1 with
     |some (.panic v a' h')=>if c.2.1.all (gG (ops.take c.1) G) then some (.panic v,{a' with tmps:=ij c.2.2 a'.tmps},h') else none
     |_=>dV ops a h r)
    |_,_=>dV ops a h r)
  |none=>dV ops a h r
def fM (ops:List AO) (aC:List (Nat × Nat)) (cuts:oD) (a:aD) (h:H):Option (aM × aD × H):=
 match trace P rec ops a.tmps h with
 |some G=>if aC.all (gG ops G) then (match G[ops.length]? with
   |some (ts,h')=>some (.normal,{a with tmps:=ts},h')
   |none=>none) else none
 |none=>dV P rec ops a h cuts
def fV:j8->Bool
 | .alloc .. | .box .. | .buildSlice .. | .makeSlice ..=>true
 |_=>false
def eN (n:Nat) (ts:List Value):j8->Option (Value × Option eo)
 | .alloc e zero=>some (.pointer (some ⟨n,0,none⟩),some (.cells true zero e 1))
 | .box e size x=>if (aX (aj ts x)).length=size then some (.pointer (some ⟨n,0,none⟩),some (.cells true (aX (aj ts x)) e 1)) else none
 | .buildSlice e k size zero ps=>(cJ ts (k * size) ps).map fun l=>(.slice (some ⟨n,0,none⟩) k 0,some (.cells true (fj (cE zero k) l) e k))
 | .makeSlice e bytes zero l c=>match aj ts l,aj ts c with
   | .int _ l,.int _ c=>
     if 0<=l/\l=c/\l.toNat * bytes<=cF/\l.toNat<=maxLen then
      some (.slice (some ⟨n,0,none⟩) l.toNat 0,some (.cells true (cE zero l.toNat) e l.toNat))
     else none
   |_,_=>none
 |_=>none
def Ge (h:H) (r:Nat):Option eo->H
 |none=>h
 |some b=>h.set r b
def jc (h:H) (r:Nat) (b:eo):H:=match h.get r with
 |none=>h.set r b
 |some _=>h
def br (p:Nat->Bool) (base:Nat):List (Nat × eo)->H->H
 | [],h=>h
 |(j,b) :: r,h=>br p base r (bif p j then jc h (base+j) b else h)
structure LS where
 ts:List Value
 h:H
 F:List (Nat × eo)
def dW (b:List Nat) (i j:Nat):Bool:=(b.getD j 0).testBit i
def gq (b:List Nat) (base i:Nat) (o:AO) (s:LS):Option LS:=
 if aq o.guard s.ts then
  (bif fV o.op then (eN (base+i) s.ts o.op).map fun x=>{ts:=dB o.dst x.1 s.ts,h:=s.h,F:=s.F++(x.2.toList.map fun b=>(i,b))}
  else (iE P rec o s.ts (br (fun j=>dW b j i) base s.F s.h)).map fun x=>{ts:=dB o.dst x.1 s.ts,h:=bif ew o.op then x.2 else s.h,F:=s.F})
 else some {ts:=dB o.dst undef s.ts,h:=s.h,F:=s.F}
def dz (b:List Nat) (base:Nat):List AO->Nat->LS->Option (List LS)
 | [],_,s=>some [s]
 |o :: r,i,s=>match gq P rec b base i o s with
  |some s'=>(dz b base r (i+1) s').map (s :: ·)
  |none=>none
def nP (s:LS):List LS->LS
 | []=>s
 |x :: r=>nP x r
def oL (b:List Nat) (base:Nat) (ops:List AO) (F:List (Nat × eo)) (G:List LS) (c:Nat × Nat):Bool:=
 match ops[c.1]?,G[c.1]?,G[c.2]? with
 |some o,some s,some s'=>if aq o.guard s.ts then (match o.op with
   | .load _ n x=>(match aj s.ts x with
     | .pointer (some p)=>c8 (br (fun j=>dW b j c.1) base F s.h) (br (fun j=>dW b j c.1) base F s'.h) p n
     |_=>false)
   |_=>false) else true
 |_,_,_=>false
def fN (b:List Nat) (ops:List AO) (aC:List (Nat × Nat)) (a:aD) (h:H):Option (aM × aD × H):=
 match dz P rec b h.next ops 0 {ts:=a.tmps,h:={next:=h.next+ops.length,t:=h.t},F:=[]} with
 |some G=>(match G with
  |s0 :: r=>if aC.all (oL b h.next ops (nP s0 r).F G) then
    some (.normal,{a with tmps:=(nP s0 r).ts},br (fun _=>true) h.next (nP s0 r).F (nP s0 r).h)
   else none
  | []=>none)
 |none=>none
def cT:AC->aD->H->Option (aM × aD × H)
 | .skip,a,h=>some (.normal,a,h)
 | .IJ ops,a,h=>eW P rec ops a h
 | .yq ops aC cuts,a,h=>fM P rec ops aC cuts a h
 | .yu b ops aC,a,h=>fN P rec b ops aC a h
 | .seq x y,a,h=>match cT x a h with
   |some (.normal,a',h')=>cT y a' h'
   |r=>r
 | .cond c x y,a,h=>match aj a.tmps c with
   | .bool true=>cT x a h
   | .bool false=>cT y a h
   |_=>none
 | .block id c,a,h=>match cT c a h with
   |some (.exit id',a',h')=>if id'=id then some (.normal,a',h') else some (.exit id',a',h')
   |r=>r
 | .loop c,a,h=>match cT c a h with
   |some (.normal,a',h')=>rec.loop c a' h'
   |r=>r
 | .exit id,a,h=>some (.exit id,a,h)
 | .ret,a,h=>some (.ret,a,h)
 | .stuck,_,_=>none
 | .rangeFunc f ps assign body,a,h=>
   if a.round then none else
   match rec.call (aj a.tmps f) [.func (.yield (h.next+1)) #[] #[]] .dF ((h.alloc .CN).alloc (.loop .ready none a.tmps ps assign body)) with
   |some (.ret _,_,h2)=>match h2.get (h.next+1) with
    |some (.loop st pend ts ps' as' bd)=>
     if Jx st then none else
      some (DG pend,{a with defers:=.coll h.next :: a.defers},h2.set (h.next+1) (.loop .exhausted pend ts ps' as' bd))
    |_=>none
   |some (.panic v,_,h2)=>some (.panic v,{a with defers:=.coll h.next :: a.defers},h2)
   |none=>none
def bt:List fF->Option Value->H->Option (Option Value × H)
 | [],m,h=>some (m,h)
 | .coll d :: r,m,h=>match h.get d with
   |some .CN=>bt r m (h.set d .dead)
   |_=>none
 | .call f args :: r,m,h=>match rec.call f args (OH m) h with
   |some (.ret _,rc',h')=>bt r (if rc'.isDone then none else m) h'
   |_=>none
def ia (h:H) (ts:List Value):List Db->Option (List Value)
 | []=>some []
 | .tmp t :: r=>if nO (ts.getD t undef) then none else (ia h ts r).map (ts.getD t undef :: ·)
 | .cell t agg n :: r=>match ts.getD t undef with
   | .pointer (some p)=>match h.cells p n with
     |some cs=>match (if agg then some (.agg cs.toArray) else one cs),ia h ts r with
      |some v,some l=>some (v :: l)
      |_,_=>none
     |none=>none
   |_=>none
def iq:List Value->Value
 | [v]=>v
 |l=>.tuple l.toArray
def s7:aM->Option (Option Value)
 | .normal | .ret=>some none
 | .panic v=>some (some v)
 | .exit _=>none
def eC (fn:kM) (x:aM) (a:aD) (h:H):Option (fR × RC × H):=
 match s7 x with
 |none=>none
 |some m=>match bt rec a.defers m h with
  |some (none,h')=>(ia h' a.tmps fn.results).map fun l=>(.ret (iq l),a.rc,h')
  |some (some v,h')=>some (.panic v,a.rc,h')
  |none=>none
def s6 (fn:kM) (ts:List Value) (rc:RC):aD:={tmps:=ts++List.replicate (fn.ntmps - ts.length) undef,defers:=[],rc:=rc,round:=false}
def fc:List Value->List Tmp->List Value->List Value
 |ts,p :: ps,v :: vs=>fc (ts.set p v) ps vs
 |ts,_,_=>ts
def gH (l:Nat) (args:List Value) (h:H):Option (fR × RC × H):=
 match h.get l with
 |some (.loop .ready _ ts ps assign body)=>
  if args.length=ps.length then
   match cT P rec assign {tmps:=fc ts ps args,defers:=[],rc:=.dF,round:=true} h with
   |some (.normal,a1,h1)=>match h1.get l with
    |some (.loop .ready pend1 ts1 ps1 as1 bd1)=>
     match cT P rec body a1 (h1.set l (.loop .busy pend1 ts1 ps1 as1 bd1)) with
     |some (x,a2,h2)=>match a2.defers,h2.get l with
      | [],some (.loop _ _ ts2 ps2 as2 bd2)=>match x with
        | .normal=>some (.ret (.bool true),.dF,h2.set l (.loop .ready none ts2 ps2 as2 bd2))
        | .ret=>some (.ret (.bool false),.dF,h2.set l (.loop .done (some none) ts2 ps2 as2 bd2))
        | .exit id=>some (.ret (.bool false),.dF,h2.set l (.loop .done (some (some id)) ts2 ps2 as2 bd2))
        | .panic v=>some (.panic v,.dF,h2)
      |_,_=>none
     |none=>none
    |_=>none
   |_=>none
  else none
 |_=>none
def c5 (T:Nat->Option kM) (f:Value) (args:List Value) (rc:RC) (h:H):Option (fR × RC × H):=
 match f with
 | .func (.func g) first captured=>match T g with
   |some fn=>
    match cT P rec fn.body (s6 fn (first.toList++args++captured.toList) rc) h with
    |some (x,a',h')=>eC rec fn x a' h'
    |none=>none
   |none=>none
 | .func (.yield l) first captured=>match rc with
   | .dF=>if first.toList.isEmpty && captured.toList.isEmpty then gH P rec l args h else none
   |_=>none
 |_=>none
end
section
variable (P:Program)
def uq:Operand->Bool
 | .const v=>ay v
 | .global g=>Nat.blt g P.globals.size
 |_=>true
def oH (place:Nat->Option (Nat × Nat)):List (Nat × Operand)->Option (List (Nat × Nat × Operand))
 | []=>some []
 |(i,x) :: r=>match place i,oH place r with
  |some (off,size),some l=>some ((off,size,x) :: l)
  |_,_=>none
def vG (t:TypeId):Option Bool:=
 match P.underlying t with
 |some (.struct _) |some (.array _ _)=>some true
 |some _=>some false
 |none=>none
def mV (t:TypeId):Option (List Value):=
 match P.info? t with
 |some i=>match i.zero with
  |some z=>if z.cells.toList.all aS && z.cells.size == i.size then some z.cells.toList else none
  |none=>none
 |none=>none
def bl (t:TypeId):Option Nat:=(P.info? t).map (·.size)
def loadT (t:TypeId):Option (Bool × Nat):=
 match vG P t,bl P t with
 |some true,some n=>some (true,n)
 |some false,some 1=>some (false,1)
 |_,_=>none
def jk:TypeDesc->Bool
 | .slice _ | .string=>true
 |_=>false
def uf (fn:Func) (args:List Operand):Option j8:=
 if fn.origin= "" then
  if fn.name= "internal/abi.NoEscape" then some (.kB args)
  else if fn.name= "internal/bytealg.IndexByteString" then (match args with | [s,b]=>some (.indexByte s b) |_=>none)
  else if fn.name= "internal/bytealg.MakeNoZero" then
   (match args,fn.resultTypes.toList with
    | [n],[t]=>match P.underlying t with
      |some (.slice e)=>if bl P e=some 1 then some (.makeNoZero e n) else none
      |_=>none
    |_,_=>none)
  else none
 else none
def Cc (o:Oper):Bool:=
 match o.op with
 | .move _ | .assign _ | .pick _ _ _=>true
 | .binOp _ t _ _ _=>(match P.underlying t with |some (.int _)=>true |_=>false)
 |_=>false
def iK:Code->Bool
 | .skip=>true
 | .region _ ops draw=>!draw && ops.toList.all (Cc P)
 | .seq a b=>iK a && iK b
 | .cond _ a b=>iK a && iK b
 | .block _ a=>iK a
 | .exit _=>true
 | .ret=>true
 |_=>false
def Fc (fn:Func):Bool:=fn.results.toList.all fun | .tmp _=>true |_=>false
def mT (g:FuncId):Bool:=
 match P.funcs[g]? with
 |some fn=>(match fn.body with |some c=>iK P c && Fc fn |none=>false)
 |none=>false
def yx (f:Operand) (args:List Operand):j8:=
 match f with
 | .func g=>if mT P g then .dA f args else .call f args
 |_=>.call f args
theorem lu (f:Operand) (args:List Operand):yx P f args= .call f args\/∃g,f= .func g/\mT P g=true/\yx P f args= .dA f args:=by
 cases f with
 |func g=>
  simp only [yx]
  cases h:mT P g with
  |true=>exact .inr ⟨g,rfl,h,by simp⟩
  |false=>exact .inl (by simp)
 |_=>exact .inl rfl
def gT (o:Oper) (c:Call):Option j8:=
 match c.callee with
 | .builtin b=>match b,c.args.toList,c.argTypes.toList with
   | .len,[x],[t]=>match P.underlying t with
     |some (.slice _)=>some (.qp x)
     |_=>some (.gen o)
   | .cap,[x],[t]=>match P.underlying t with
     |some (.slice _)=>some (.vr x)
     |_=>none
   | .append,[s,x],[t,u]=>match P.underlying t with
     |some (.slice e)=>match P.info? e,P.underlying u with
      |some i,some du=>
       if jk du && (mV P e).isSome && decide (0 < i.size) then some (.append e i.size i.bytes s x) else none
      |_,_=>none
     |_=>none
   | .copy,[x,y],[t,_]=>match P.underlying t with
     |some (.slice e)=>if (P.info? e).isSome then some (.nL x y) else none
     |_=>none
   | .recover,[],_=>some .recover
   | .unsafeSliceData,[x],_=>some (.rz x)
   | .unsafeString,[x,n],[t,_]=>match P.underlying t with
     |some (.pointer e)=>match P.underlying e with
      |some (.int .u8)=>if P.cellsOf e == 1 then some (.rA e x n) else none
      |_=>none
     |_=>none
   | .max,_,_ | .min,_,_=>some (.gen o)
   |_,_,_=>none
 | .value f=>match f with
   | .func g | .const (.func (.func g) _ _)=>match P.funcs[g]? with
     |some fn=>match fn.body with
      |some _=>if fn.name == "runtime.NumGoroutine" then none else some (yx P f c.args.toList)
      |none=>
       match f with
       | .func _=>uf P fn c.args.toList
       |_=>none
     |none=>none
   | .tmp _=>some (.call f c.args.toList)
   |_=>none
 | .invoke _ _=>none
def dQ (o:Oper):Option j8:=
 match o.op with
 | .move x | .assign x=>some (.move x)
 | .pick c a b=>some (.pick c a b)
 | .alloc e=>(mV P e).map (.alloc e)
 | .box e x=>(bl P e).map fun n=>.box e n x
 | .build t ps=>match P.underlying t,mV P t with
   |some (.struct fs),some z=>match fs.toList.mapM (fun f=>(P.info? f.type).map fun i=>(f.offset,i.size)) with
    |some places=>(oH (fun i=>places.toArray[i]?) ps.toList).map (.build z)
    |none=>none
   |some (.array _ e),some z=>match bl P e with
    |some n=>(oH (fun i=>some (i * n,n)) ps.toList).map (.build z)
    |none=>none
   |_,_=>none
 | .buildSlice t n ps=>match P.underlying t with
   |some (.slice e)=>match bl P e,mV P e with
    |some s,some z=>if n * s<=16777216/\0 < s then (oH (fun i=>some (i * s,s)) ps.toList).map (.buildSlice e n s z) else none
    |_,_=>none
   |_=>none
 | .load t a=>(loadT P t).map fun (agg,n)=>.load agg n a
 | .store t a x=>(bl P t).map fun n=>.store n a x
 | .nilCheck x=>some (.nilCheck x)
 | .binOp op t x y _=>match P.underlying t with
   |some (.int _)=>some (.lp op x y)
   |some (.pointer e)=>if (op= .eql\/op= .neq)/\((bl P e).any (decide <| ·≠0)) then some (.nK 0 (decide (op= .neq)) x y) else none
   |some (.slice _)=>if op= .eql\/op= .neq then some (.nK 1 (decide (op= .neq)) x y) else none
   |some (.func _ _ _)=>if op= .eql\/op= .neq then some (.nK 2 (decide (op= .neq)) x y) else none
   |some _=>some (.gen o)
   |none=>none
 | .unOp _ _ _=>some (.gen o)
 | .convert s t x=>match P.underlying s,P.underlying t with
   |some .string,some (.slice e)=>match P.underlying e with
    |some (.int .u8)=>if bl P e=some 1 then some (.gm e x) else none
    |_=>none
   |some (.slice e),some .string=>match P.underlying e with
    |some (.int .u8)=>some (.fK x)
    |_=>none
   |some (.slice _),some (.slice e)=>match P.underlying e with
    |some (.int .u8)=>if s=t then some (.Au x) else none
    |_=>none
   |some (.pointer e),some .unsafePointer=>if (bl P e).any (decide <| ·≠0) then some (.jK x) else none
   |some .unsafePointer,some (.pointer u)=>if (P.info? u).isSome then some (.jL u x) else none
   |some _,some _=>some (.gen o)
   |_,_=>none
 | .makeInterface t x=>match P.underlying t with
   |some (.interface _)=>none
   |some _=>some (.mR t x)
   |none=>none
 | .makeFunc (.func f) a b=>some (.oC f a.toList b.toList)
 | .makeSlice t l c=>match P.underlying t with
   |some (.slice e)=>match P.info? e,mV P e with
    |some i,some z=>if 0 < i.size then some (.makeSlice e i.bytes z l c) else none
    |_,_=>none
   |_=>none
 | .slice t x lo hi none=>match P.underlying t with
   |some (.slice e)=>(bl P e).map fun n=>.gI n x lo hi
   |some .string=>some (.gen o)
   |some (.array len e)=>(bl P e).map fun n=>.nM len n x lo hi
   |_=>none
 | .slice t x lo (some hi) (some mx)=>match P.underlying t with
   |some (.slice e)=>(bl P e).map fun n=>.slice3 n x lo (some hi) mx
   |_=>none
 | .makeMap _ none=>some .makeMap
 | .lookup t m k ok=>match P.underlying t with
   |some (.map kt e)=>match (P.info? e).bind (·.zero) with
    |some z=>if ay z then some (.lookup kt z ok m k) else none
    |none=>none
   |_=>none
 | .mapUpdate t m k v=>match P.underlying t with
   |some (.map kt _)=>some (.mapUpdate kt m k v)
   |_=>none
 | .range t x=>match P.underlying t with
   |some .string=>some (.nN x)
   |_=>none
 | .next it true=>some (.rB it)
 | .fieldAddr t x f=>match P.underlying t with
   |some (.struct fs)=>match fs[f]? with
    |some fd=>if (bl P fd.type).any (decide <| ·≠0) then some (.fieldAddr fd.offset x) else none
    |none=>none
   |_=>none
 | .field t x f=>match P.underlying t with
   |some (.struct fs)=>match fs[f]? with
    |some fd=>(loadT P fd.type).map fun (agg,n)=>.field agg n fd.offset x
    |none=>none
   |_=>none
 | .indexAddr t x i=>match P.underlying t with
   |some (.slice e)=>(bl P e).map fun n=>.qo n x i
   |some (.array len e)=>(bl P e).map fun n=>.gF len n x i
   |_=>none
 | .index t x i=>match P.underlying t with
   |some .string=>some (.gen o)
   |some (.array len e)=>match vG P e with
    |some true=>(bl P e).map fun n=>.qq n len x i
    |_=>some (.gen o)
   |_=>none
 | .extract x i=>some (.extract x i)
 | .call c=>gT P o c
 | .defer c=>match c.callee with
   | .value f=>some (.defer f c.args.toList)
   |_=>none
 | .panic x=>some (.panic x)
 | .typeAssert x _ a ok=>match P.underlying a with
   |some (.interface _)=>some (.gen o)
   |some _=>match (P.info? a).bind (·.zero) with
    |some z=>if ay z then some (.assert a ok z x) else none
    |none=>none
   |none=>none
 |_=>none
def wD (ops:Array Oper) (o:Oper):Option AO:=
 if o.op.operands.all (uq P) then
  match dQ P o with
  |none=>none
  |some op=>match o.guard with
   |none=>some {dst:=o.dst,guard:=none,op}
   |some (j,b)=>match (ops[j]?).bind (·.dst) with
    |some t=>some {dst:=o.dst,guard:=some (t,b),op}
    |none=>none
 else none
def iS (ops:Array Oper):List Oper->Option (List AO)
 | []=>some []
 |o :: r=>match wD P ops o,iS ops r with
  |some x,some l=>some (x :: l)
  |_,_=>none
def B6 (acc:List Nat):List Edge->Nat
 | []=>0
 |e :: r=>if Region.binds .any e then 2 ^ e.on |||(acc.getD e.on 0 |||B6 acc r) else B6 acc r
def ez:List Oper->List Nat->List Nat
 | [],acc=>acc
 |o :: r,acc=>ez r (acc++[B6 acc o.after.toList])
def j8.vu:j8->List Operand
 | .move x | .box _ _ x | .load _ _ x | .nilCheck x | .fieldAddr _ x | .field _ _ _ x | .mR _ x | .extract x _ | .qp x | .vr x | .gm _ x | .fK x | .Au x
 | .jK x | .jL _ x | .rz x | .panic x | .makeNoZero _ x | .nN x | .rB x=>[x]
 | .makeMap=>[]
 | .lookup _ _ _ m k=>[m,k]
 | .qq _ _ x i=>[x,i]
 | .assert _ _ _ x=>[x]
 | .mapUpdate _ m k v=>[m,k,v]
 | .slice3 _ x lo hi mx=>x :: (lo.toList++hi.toList++[mx])
 | .nM _ _ x lo hi=>x :: (lo.toList++hi.toList)
 | .pick c a b=>[c,a,b]
 | .alloc _ _ | .recover=>[]
 | .build _ ps | .buildSlice _ _ _ _ ps=>ps.map (·.2.2)
 | .store _ a x | .lp _ a x | .qo _ a x | .gF _ _ a x | .nK _ _ a x | .append _ _ _ a x | .makeSlice _ _ _ a x | .rA _ a x | .nL a x | .indexByte a x=>[a,x]
 | .gen o=>o.op.operands.toList
 | .gI _ x lo hi=>x :: (lo.toList++hi.toList)
 | .oC _ a b=>a++b
 | .call f args | .dA f args | .defer f args=>f :: args
 | .kB args=>args
def tmpsOf:List Operand->List Tmp
 | []=>[]
 | .tmp t :: r=>t :: tmpsOf r
 |_ :: r=>tmpsOf r
def AO.looks (o:AO):List Tmp:=(match o.guard with |some (t,_)=>[t] |none=>[])++tmpsOf o.op.vu
def Gf (d:Option Tmp) (l:List Tmp):Bool:=match d with
 |none=>true
 |some t=>!(l.contains t)
def kR (x y:AO):Bool:=
 Gf x.dst y.looks && Gf y.dst x.looks && (match x.dst,y.dst with |some s,some t=>s != t |_,_=>true)
def fW:j8->Bool
 | .defer _ _ | .recover | .panic _=>false
 | .gen o=>match o.op with | .select _ _=>false |_=>true
 |_=>true
def bit (b:List Nat) (i j:Nat):Bool:=(b.getD j 0).testBit i
def pairs (p:Nat->AO->Nat->AO->Bool):List AO->Nat->Bool
 | [],_=>true
 |o :: r,i=>xY p i o r (i+1) && pairs p r (i+1)
where
 xY (p:Nat->AO->Nat->AO->Bool) (i:Nat) (o:AO):List AO->Nat->Bool
 | [],_=>true
 |q :: r,j=>p i o j q && xY p i o r (j+1)
def ic:List Oper->Nat->Bool
 | [],_=>true
 |o :: r,i=>(o.after.toList.all fun e=>!Region.binds .any e || Nat.blt e.on i) && ic r (i+1)
def vD (ops:List Oper) (l:List AO):Bool:=
 let b:=ez ops []
 ic ops 0 && l.all (fW ·.op) && pairs (fun i x j y=>(bit b i j || kR x y) && (bit b i j || !(ew x.op) || !(ew y.op))) l 0
def lcs:List AO->(Nat->Bool)->Nat->Nat
 | [],_,_=>0
 |o :: r,p,i=>(if ew o.op && p i then 1 else 0)+lcs r p (i+1)
def EY:List AO->Nat->List Nat
 | [],_=>[]
 |o :: r,i=>if ew o.op then (i+1) :: EY r (i+1) else EY r (i+1)
def eJ:j8->Bool
 | .load .. | .fK _ | .jK _ | .jL _ _ | .lookup ..=>true
 |_=>false
def qy (b:List Nat) (l:List AO) (o:AO) (i:Nat):List (Nat × Nat):=
 if ew o.op || !(eJ o.op) then [] else
 let lo:=lcs l (fun j=>bit b j i) 0
 let hi:=lcs l (fun j=>!(bit b i j)) 0
 let at_:=lcs l (fun j=>Nat.blt j i) 0
 ((0 :: EY l 0).filter fun m=>let k:=lcs l (fun j=>Nat.blt j m) 0;Nat.ble lo k && Nat.ble k hi && !(Nat.beq k at_)).map fun m=>(i,m)
def fC (b:List Nat) (l:List AO):List AO->Nat->List (Nat × Nat)
 | [],_=>[]
 |o :: r,i=>qy b l o i++fC b l r (i+1)
def Gg (b:List Nat) (l:List AO) (n:Nat):Bool:=(List.range l.length).all fun j=>Nat.beq j n || (if Nat.blt j n then bit b j n || (match l[j]? with |some o=>!(ew o.op) |none=>false) else bit b n j)
def oQ (b:List Nat) (n:Nat):List AO->Nat->List Tmp
 | [],_=>[]
 |o :: r,j=>(match o.dst with |some t=>if Nat.blt j n && !(bit b j n) then [t] else [] |none=>[])++oQ b n r (j+1)
def nT (b:List Nat) (l:List AO):List AO->Nat->oD
 | [],_=>[]
 |o :: r,i=>(match o.op with | .call _ _=>if Gg b l i then [(i,fC b (l.take i) (l.take i) 0,oQ b i l 0)] else [] |_=>[])++nT b l r (i+1)
def cL (o:AO):Bool:=ew o.op && !(fV o.op)
def B8 (ops:List Oper) (l:List AO):Bool:=
 let b:=ez ops []
 ic ops 0 && l.all (fW ·.op) && pairs (fun i x j y=>(bit b i j || kR x y) && (bit b i j || !(cL x) || !(cL y))) l 0
def gr:List AO->(Nat->Bool)->Nat->Nat
 | [],_,_=>0
 |o :: r,p,i=>(if cL o && p i then 1 else 0)+gr r p (i+1)
def yF:List AO->Nat->List Nat
 | [],_=>[]
 |o :: r,i=>if cL o then (i+1) :: yF r (i+1) else yF r (i+1)
def nR (b:List Nat) (l:List AO) (o:AO) (i:Nat):List (Nat × Nat):=
 if ew o.op || !(eJ o.op) then [] else
 let lo:=gr l (fun j=>bit b j i) 0
 let hi:=gr l (fun j=>!(bit b i j)) 0
 let at_:=gr l (fun j=>Nat.blt j i) 0
 ((0 :: yF l 0).filter fun m=>let k:=gr l (fun j=>Nat.blt j m) 0;Nat.ble lo k && Nat.ble k hi && !(Nat.beq k at_)).map fun m=>(i,m)
def iV (b:List Nat) (l:List AO):List AO->Nat->List (Nat × Nat)
 | [],_=>[]
 |o :: r,i=>nR b l o i++iV b l r (i+1)
def HC (l:List AO) (cs:List (Nat × Nat)):Bool:=cs.all fun c=>match l[c.1]? with
 |some o=>(match o.op with | .load ..=>true |_=>false)
 |none=>false
def Ca (ops:Array Oper) (draw:Bool):AC:=
 match iS P ops ops.toList with
 |none=>.stuck
 |some l=>if draw then (if vD ops.toList l && HC l (fC (ez ops.toList []) l l 0) then .yq l (fC (ez ops.toList []) l l 0) (nT (ez ops.toList []) l l 0) else if B8 ops.toList l then .yu (ez ops.toList []) l (iV (ez ops.toList []) l l 0) else .stuck) else .IJ l
def cl:Code->AC
 | .skip=>.skip
 | .region _ ops draw=>Ca P ops draw
 | .seq a b=>.seq (cl a) (cl b)
 | .cond c a b=>bif uq P c then .cond c (cl a) (cl b) else .stuck
 | .block id a=>.block id (cl a)
 | .loop a=>.loop (cl a)
 | .rangeFunc f ps a b=>bif uq P f then .rangeFunc f ps.toList (cl a) (cl b) else .stuck
 | .exit id=>.exit id
 | .ret=>.ret
 | .scope a=>cl a
 | .label _=>.skip
 |_=>.stuck
def Dj:ResultVar->Option Db
 | .tmp t=>some (.tmp t)
 | .cell a t=>(loadT P t).map fun (agg,n)=>.cell a agg n
def mh:List ResultVar->Option (List Db)
 | []=>some []
 |x :: r=>match Dj P x,mh r with
  |some y,some l=>some (y :: l)
  |_,_=>none
def Dl (fn:Func):Option kM:=
 match fn.body,mh P fn.results.toList with
 |some c,some rs=>some {ntmps:=fn.ntmps,results:=rs,body:=cl P c}
 |_,_=>none
end
end Go.Ev
