/- The evaluator over a small code, and that what it finds of a call holds of the machine, part 2. -/
import Derived.Test.YtcajalekkffcjaaDoorEv1
namespace Go.Ev
open Go

inductive AExit where
  | normal
  | exit (id : Nat)
  | ret
  | panic (v : Value)

inductive RC where
  | unk
  | calm
  | pan (v : Value)
  | done (v : Value)

def RC.isDone : RC → Bool
  | .done _ => true
  | _ => false

def rcOf : Option Value → RC
  | none => .calm
  | some v => .pan v

inductive ADef where
  | coll (d : Nat)
  | call (f : Value) (args : List Value)

structure AAct where
  tmps : List Value
  defers : List ADef
  rc : RC
  round : Bool

inductive ARes where
  | ret (v : Value)
  | panic (v : Value)

inductive ARV where
  | tmp (t : Tmp)
  | cell (t : Tmp) (agg : Bool) (n : Nat)

structure AFn where
  ntmps : Nat
  results : List ARV
  body : AC

structure Rec where
  call : Value → List Value → RC → H → Option (ARes × RC × H)
  loop : AC → AAct → H → Option (AExit × AAct × H)

def putL (dst : Option Tmp) (v : Value) (ts : List Value) : List Value :=
  match dst with
  | some d => ts.set d v
  | none => ts

def AAct.put (a : AAct) (dst : Option Tmp) (v : Value) : AAct := { a with tmps := putL dst v a.tmps }

def wantedA (g : Option (Tmp × Bool)) (ts : List Value) : Bool :=
  match g with
  | none => true
  | some (t, b) => match ts[t]? with
    | some (.bool c) => c == b
    | _ => false

def eqV : Value → Value → Bool
  | .bool a, .bool b => a == b
  | .int k a, .int l b => k == l && a == b
  | .string a, .string b => a.data.toList == b.data.toList
  | .pointer a, .pointer b => a == b
  | .slice a n c, .slice b m d => a == b && n == m && c == d
  | .map a, .map b => a == b
  | .nilFunc, .nilFunc => true
  | .nilIface, .nilIface => true
  | .func (.func f) a b, .func (.func g) c d => f == g && a.toList.isEmpty && b.toList.isEmpty && c.toList.isEmpty && d.toList.isEmpty
  | _, _ => false

def eqVs : List Value → List Value → Bool
  | [], [] => true
  | a :: r, b :: s => eqV a b && eqVs r s
  | _, _ => false

def sameCells (h h' : H) (p : Addr) (n : Nat) : Bool :=
  match h.cells p n, h'.cells p n with
  | some x, some y => eqVs x y
  | _, _ => false

def isBusy : LoopState → Bool
  | .busy => true
  | _ => false

def jumpA : Option (Option Nat) → AExit
  | none => .normal
  | some none => .ret
  | some (some id) => .exit id

section
variable (P : Program) (rec : Rec)

/-- What an operation does: on with a value, or a panic. -/
inductive Step where
  | on (a : AAct) (h : H)
  | panic (v : Value) (a : AAct) (h : H)

def evOp (o : AO) (a : AAct) (h : H) : Option Step :=
  if wantedA o.guard a.tmps then
    match o.op with
    | .call f args => match rec.call (aev a.tmps f) (args.map (aev a.tmps)) .unk h with
      | some (.ret v, _, h') => some (.on (a.put o.dst v) h')
      | some (.panic v, _, h') => some (.panic v a h')
      | none => none
    | .callP f args => match rec.call (aev a.tmps f) (args.map (aev a.tmps)) .unk h with
      | some (.ret v, _, h') => some (.on (a.put o.dst v) h')
      | some (.panic v, _, h') => some (.panic v a h')
      | none => none
    | .defer f args => match a.round, aev a.tmps f with
      | false, .func (.func g) x y => some (.on ({ a with defers := .call (.func (.func g) x y) (args.map (aev a.tmps)) :: a.defers }.put o.dst undef) h)
      | _, _ => none
    | .recover => match a.rc with
      | .calm => some (.on (a.put o.dst .nilIface) h)
      | .pan v => some (.on ({ a with rc := .done v }.put o.dst v) h)
      | _ => none
    | .panic x => match aev a.tmps x with
      | .iface t v => some (.panic (.iface t v) a h)
      | _ => none
    | op => match aexec P a.tmps h op with
      | some (v, h') => some (.on (a.put o.dst v) h')
      | none => none
  else some (.on (a.put o.dst undef) h)

def evOps : List AO → AAct → H → Option (AExit × AAct × H)
  | [], a, h => some (.normal, a, h)
  | o :: r, a, h => match evOp P rec o a h with
    | some (.on a' h') => evOps r a' h'
    | some (.panic v a' h') => some (.panic v, a', h')
    | none => none

def loud : AOp → Bool
  | .alloc .. | .box .. | .buildSlice .. | .store .. | .append .. | .makeSlice .. | .strBytes .. | .uString .. | .toRo .. | .call .. | .defer .. | .recover | .panic _
  | .makeNoZero .. | .makeMap | .mapUpdate .. | .rangeStr _ | .nextStr _ => true
  | _ => false

/-- A value alone: of an operation that neither defers nor recovers, and does not panic. -/
def opV (o : AO) (ts : List Value) (h : H) : Option (Value × H) :=
  if wantedA o.guard ts then
    match o.op with
    | .call f args => match rec.call (aev ts f) (args.map (aev ts)) .unk h with
      | some (.ret v, _, h') => some (v, h')
      | _ => none
    | .callP f args => match rec.call (aev ts f) (args.map (aev ts)) .unk h with
      | some (.ret v, _, h') => some (v, h')
      | _ => none
    | op => aexec P ts h op
  else some (undef, h)

/-- The states that a region goes through in the text's order: the slots and the heap ahead of each operation, and behind the last. -/
def trace : List AO → List Value → H → Option (List (List Value × H))
  | [], ts, h => some [(ts, h)]
  | o :: r, ts, h => match opV P rec o ts h with
    | some (v, h') => (trace r (putL o.dst v ts) h').map ((ts, h) :: ·)
    | none => none

/-- A check (i, m): the load number i reads in the state m what it reads in the text's order. -/
def checkG (ops : List AO) (G : List (List Value × H)) (c : Nat × Nat) : Bool :=
  match ops[c.1]?, G[c.1]?, G[c.2]? with
  | some o, some (ts, h), some (_, h') => if wantedA o.guard ts then (match o.op with
      | .load _ n x => (match aev ts x with | .pointer (some p) => sameCells h h' p n | _ => false)
      | _ => false) else true
  | _, _, _ => false

def badV : Value := .tuple #[.tuple #[]]

def isBad : Value → Bool
  | .tuple a => (match a.toList with | [.tuple _] => true | _ => false)
  | _ => false

def markBad : List Tmp → List Value → List Value
  | [], ts => ts
  | t :: r, ts => markBad r (ts.set t badV)

/-- A call panics in a region that draws its order: where all earlier operations come before it, and all later ones behind. -/
def cutGo (ops : List AO) (a : AAct) (h : H) : Cuts → Option (AExit × AAct × H)
  | [] => none
  | c :: r => match trace P rec (ops.take c.1) a.tmps h with
    | some G => (match ops[c.1]?, G[c.1]? with
        | some o, some (ts, h1) => (match evOp P rec o { a with tmps := ts } h1 with
          | some (.panic v a' h') => if c.2.1.all (checkG (ops.take c.1) G) then some (.panic v, { a' with tmps := markBad c.2.2 a'.tmps }, h') else none
          | _ => cutGo ops a h r)
        | _, _ => cutGo ops a h r)
    | none => cutGo ops a h r

def evRegD (ops : List AO) (checks : List (Nat × Nat)) (cuts : Cuts) (a : AAct) (h : H) : Option (AExit × AAct × H) :=
  match trace P rec ops a.tmps h with
  | some G => if checks.all (checkG ops G) then (match G[ops.length]? with
      | some (ts, h') => some (.normal, { a with tmps := ts }, h')
      | none => none) else none
  | none => cutGo P rec ops a h cuts

/-! Regions that draw their order and make new memory in whatever order: the numbers of what is made are set aside first. -/
def isFill : AOp → Bool
  | .alloc .. | .box .. | .buildSlice .. | .makeSlice .. => true
  | _ => false

def fillV (n : Nat) (ts : List Value) : AOp → Option (Value × Option Blk)
  | .alloc e zero => some (.pointer (some ⟨n, 0, none⟩), some (.cells true zero e 1))
  | .box e size x => if (cellsL (aev ts x)).length = size then some (.pointer (some ⟨n, 0, none⟩), some (.cells true (cellsL (aev ts x)) e 1)) else none
  | .buildSlice e k size zero ps => (partsOk ts (k * size) ps).map fun l => (.slice (some ⟨n, 0, none⟩) k 0, some (.cells true (fillL (repL zero k) l) e k))
  | .makeSlice e bytes zero l c => match aev ts l, aev ts c with
    | .int _ l, .int _ c =>
      if 0 ≤ l ∧ l = c ∧ l.toNat * bytes ≤ maxBytes ∧ l.toNat ≤ maxLen then
        some (.slice (some ⟨n, 0, none⟩) l.toNat 0, some (.cells true (repL zero l.toNat) e l.toNat))
      else none
    | _, _ => none
  | _ => none

def fillH (h : H) (r : Nat) : Option Blk → H
  | none => h
  | some b => h.set r b

def plug (h : H) (r : Nat) (b : Blk) : H := match h.get r with
  | none => h.set r b
  | some _ => h

/-- What was made and is wanted, laid where nothing lies yet. -/
def plugs (p : Nat → Bool) (base : Nat) : List (Nat × Blk) → H → H
  | [], h => h
  | (j, b) :: r, h => plugs p base r (bif p j then plug h (base + j) b else h)

structure LS where
  ts : List Value
  h : H
  F : List (Nat × Blk)

def bitOf (b : List Nat) (i j : Nat) : Bool := (b.getD j 0).testBit i

def stepL (b : List Nat) (base i : Nat) (o : AO) (s : LS) : Option LS :=
  if wantedA o.guard s.ts then
    (bif isFill o.op then (fillV (base + i) s.ts o.op).map fun x => { ts := putL o.dst x.1 s.ts, h := s.h, F := s.F ++ (x.2.toList.map fun b => (i, b)) }
    else (opV P rec o s.ts (plugs (fun j => bitOf b j i) base s.F s.h)).map fun x => { ts := putL o.dst x.1 s.ts, h := bif loud o.op then x.2 else s.h, F := s.F })
  else some { ts := putL o.dst undef s.ts, h := s.h, F := s.F }

def traceL (b : List Nat) (base : Nat) : List AO → Nat → LS → Option (List LS)
  | [], _, s => some [s]
  | o :: r, i, s => match stepL P rec b base i o s with
    | some s' => (traceL b base r (i + 1) s').map (s :: ·)
    | none => none

def lastL (s : LS) : List LS → LS
  | [] => s
  | x :: r => lastL x r

/-- A check (i, m): the load number i reads in the state m what it reads in the text's order. -/
def checkL (b : List Nat) (base : Nat) (ops : List AO) (F : List (Nat × Blk)) (G : List LS) (c : Nat × Nat) : Bool :=
  match ops[c.1]?, G[c.1]?, G[c.2]? with
  | some o, some s, some s' => if wantedA o.guard s.ts then (match o.op with
      | .load _ n x => (match aev s.ts x with
        | .pointer (some p) => sameCells (plugs (fun j => bitOf b j c.1) base F s.h) (plugs (fun j => bitOf b j c.1) base F s'.h) p n
        | _ => false)
      | _ => false) else true
  | _, _, _ => false

def evRegL (b : List Nat) (ops : List AO) (checks : List (Nat × Nat)) (a : AAct) (h : H) : Option (AExit × AAct × H) :=
  match traceL P rec b h.next ops 0 { ts := a.tmps, h := { next := h.next + ops.length, t := h.t }, F := [] } with
  | some G => (match G with
    | s0 :: r => if checks.all (checkL b h.next ops (lastL s0 r).F G) then
        some (.normal, { a with tmps := (lastL s0 r).ts }, plugs (fun _ => true) h.next (lastL s0 r).F (lastL s0 r).h)
      else none
    | [] => none)
  | none => none

def evC : AC → AAct → H → Option (AExit × AAct × H)
  | .skip, a, h => some (.normal, a, h)
  | .reg ops, a, h => evOps P rec ops a h
  | .regD ops checks cuts, a, h => evRegD P rec ops checks cuts a h
  | .regL b ops checks, a, h => evRegL P rec b ops checks a h
  | .seq x y, a, h => match evC x a h with
    | some (.normal, a', h') => evC y a' h'
    | r => r
  | .cond c x y, a, h => match aev a.tmps c with
    | .bool true => evC x a h
    | .bool false => evC y a h
    | _ => none
  | .block id c, a, h => match evC c a h with
    | some (.exit id', a', h') => if id' = id then some (.normal, a', h') else some (.exit id', a', h')
    | r => r
  | .loop c, a, h => match evC c a h with
    | some (.normal, a', h') => rec.loop c a' h'
    | r => r
  | .exit id, a, h => some (.exit id, a, h)
  | .ret, a, h => some (.ret, a, h)
  | .stuck, _, _ => none
  | .rangeFunc f ps assign body, a, h =>
    if a.round then none else
    match rec.call (aev a.tmps f) [.func (.yield (h.next + 1)) #[] #[]] .unk ((h.alloc .dfr).alloc (.loop .ready none a.tmps ps assign body)) with
    | some (.ret _, _, h2) => match h2.get (h.next + 1) with
      | some (.loop st pend ts ps' as' bd) =>
        if isBusy st then none else
          some (jumpA pend, { a with defers := .coll h.next :: a.defers }, h2.set (h.next + 1) (.loop .exhausted pend ts ps' as' bd))
      | _ => none
    | some (.panic v, _, h2) => some (.panic v, { a with defers := .coll h.next :: a.defers }, h2)
    | none => none

def unwindA : List ADef → Option Value → H → Option (Option Value × H)
  | [], m, h => some (m, h)
  | .coll d :: r, m, h => match h.get d with
    | some .dfr => unwindA r m (h.set d .dead)
    | _ => none
  | .call f args :: r, m, h => match rec.call f args (rcOf m) h with
    | some (.ret _, rc', h') => unwindA r (if rc'.isDone then none else m) h'
    | _ => none

def resA (h : H) (ts : List Value) : List ARV → Option (List Value)
  | [] => some []
  | .tmp t :: r => if isBad (ts.getD t undef) then none else (resA h ts r).map (ts.getD t undef :: ·)
  | .cell t agg n :: r => match ts.getD t undef with
    | .pointer (some p) => match h.cells p n with
      | some cs => match (if agg then some (.agg cs.toArray) else one cs), resA h ts r with
        | some v, some l => some (v :: l)
        | _, _ => none
      | none => none
    | _ => none

def tupleOf : List Value → Value
  | [v] => v
  | l => .tuple l.toArray

def leftBy : AExit → Option (Option Value)
  | .normal | .ret => some none
  | .panic v => some (some v)
  | .exit _ => none

def finishA (fn : AFn) (x : AExit) (a : AAct) (h : H) : Option (ARes × RC × H) :=
  match leftBy x with
  | none => none
  | some m => match unwindA rec a.defers m h with
    | some (none, h') => (resA h' a.tmps fn.results).map fun l => (.ret (tupleOf l), a.rc, h')
    | some (some v, h') => some (.panic v, a.rc, h')
    | none => none

def startA (fn : AFn) (ts : List Value) (rc : RC) : AAct := { tmps := ts ++ List.replicate (fn.ntmps - ts.length) undef, defers := [], rc := rc, round := false }

def setParams : List Value → List Tmp → List Value → List Value
  | ts, p :: ps, v :: vs => setParams (ts.set p v) ps vs
  | ts, _, _ => ts

def roundA (l : Nat) (args : List Value) (h : H) : Option (ARes × RC × H) :=
  match h.get l with
  | some (.loop .ready _ ts ps assign body) =>
    if args.length = ps.length then
      match evC P rec assign { tmps := setParams ts ps args, defers := [], rc := .unk, round := true } h with
      | some (.normal, a1, h1) => match h1.get l with
        | some (.loop .ready pend1 ts1 ps1 as1 bd1) =>
          match evC P rec body a1 (h1.set l (.loop .busy pend1 ts1 ps1 as1 bd1)) with
          | some (x, a2, h2) => match a2.defers, h2.get l with
            | [], some (.loop _ _ ts2 ps2 as2 bd2) => match x with
              | .normal => some (.ret (.bool true), .unk, h2.set l (.loop .ready none ts2 ps2 as2 bd2))
              | .ret => some (.ret (.bool false), .unk, h2.set l (.loop .done (some none) ts2 ps2 as2 bd2))
              | .exit id => some (.ret (.bool false), .unk, h2.set l (.loop .done (some (some id)) ts2 ps2 as2 bd2))
              | .panic v => some (.panic v, .unk, h2)
            | _, _ => none
          | none => none
        | _ => none
      | _ => none
    else none
  | _ => none

def callA (T : Nat → Option AFn) (f : Value) (args : List Value) (rc : RC) (h : H) : Option (ARes × RC × H) :=
  match f with
  | .func (.func g) first captured => match T g with
    | some fn =>
      match evC P rec fn.body (startA fn (first.toList ++ args ++ captured.toList) rc) h with
      | some (x, a', h') => finishA rec fn x a' h'
      | none => none
    | none => none
  | .func (.yield l) first captured => match rc with
    | .unk => if first.toList.isEmpty && captured.toList.isEmpty then roundA P rec l args h else none
    | _ => none
  | _ => none

end

def ev (P : Program) (T : Nat → Option AFn) : Nat → Rec
  | 0 => { call := fun _ _ _ _ => none, loop := fun _ _ _ => none }
  | n + 1 => { call := fun f args rc h => callA P (ev P T n) T f args rc h, loop := fun c a h => evC P (ev P T n) (.loop c) a h }

/-! ### The compiler -/
section
variable (P : Program)

def opdOk : Operand → Bool
  | .const v => closedV v
  | .global g => Nat.blt g P.globals.size
  | _ => true

def partsC (place : Nat → Option (Nat × Nat)) : List (Nat × Operand) → Option (List (Nat × Nat × Operand))
  | [] => some []
  | (i, x) :: r => match place i, partsC place r with
    | some (off, size), some l => some ((off, size, x) :: l)
    | _, _ => none

def isAggT (t : TypeId) : Option Bool :=
  match P.underlying t with
  | some (.struct _) | some (.array _ _) => some true
  | some _ => some false
  | none => none

def zeroL (t : TypeId) : Option (List Value) :=
  match P.info? t with
  | some i => match i.zero with
    | some z => if z.cells.toList.all isScal && z.cells.size == i.size then some z.cells.toList else none
    | none => none
  | none => none

def sizeT (t : TypeId) : Option Nat := (P.info? t).map (·.size)

/-- A type's variable fills one cell, or it is an aggregate. -/
def loadT (t : TypeId) : Option (Bool × Nat) :=
  match isAggT P t, sizeT P t with
  | some true, some n => some (true, n)
  | some false, some 1 => some (false, 1)
  | _, _ => none

def srcDesc : TypeDesc → Bool
  | .slice _ | .string => true
  | _ => false

def compExt (fn : Func) (args : List Operand) : Option AOp :=
  if fn.origin = "" then
    if fn.name = "internal/abi.NoEscape" then some (.noEscape args)
    else if fn.name = "internal/bytealg.IndexByteString" then (match args with | [s, b] => some (.indexByte s b) | _ => none)
    else if fn.name = "internal/bytealg.MakeNoZero" then
      (match args, fn.resultTypes.toList with
       | [n], [t] => match P.underlying t with
         | some (.slice e) => if sizeT P e = some 1 then some (.makeNoZero e n) else none
         | _ => none
       | _, _ => none)
    else none
  else none

/-- An operation on numbers alone. -/
def pureOp (o : Oper) : Bool :=
  match o.op with
  | .move _ | .assign _ | .pick _ _ _ => true
  | .binOp _ t _ _ _ => (match P.underlying t with | some (.int _) => true | _ => false)
  | _ => false

/-- Code that neither looks at the heap nor calls. -/
def pureSrc : Code → Bool
  | .skip => true
  | .region _ ops draw => !draw && ops.toList.all (pureOp P)
  | .seq a b => pureSrc a && pureSrc b
  | .cond _ a b => pureSrc a && pureSrc b
  | .block _ a => pureSrc a
  | .exit _ => true
  | .ret => true
  | _ => false

def tmpResults (fn : Func) : Bool := fn.results.toList.all fun | .tmp _ => true | _ => false

def pureF (g : FuncId) : Bool :=
  match P.funcs[g]? with
  | some fn => (match fn.body with | some c => pureSrc P c && tmpResults fn | none => false)
  | none => false

def callOp (f : Operand) (args : List Operand) : AOp :=
  match f with
  | .func g => if pureF P g then .callP f args else .call f args
  | _ => .call f args

theorem callOp_cases (f : Operand) (args : List Operand) : callOp P f args = .call f args ∨ ∃ g, f = .func g ∧ pureF P g = true ∧ callOp P f args = .callP f args := by
  cases f with
  | func g =>
    simp only [callOp]
    cases h : pureF P g with
    | true => exact .inr ⟨g, rfl, h, by simp⟩
    | false => exact .inl (by simp)
  | _ => exact .inl rfl

def compCall (o : Oper) (c : Call) : Option AOp :=
  match c.callee with
  | .builtin b => match b, c.args.toList, c.argTypes.toList with
    | .len, [x], [t] => match P.underlying t with
      | some (.slice _) => some (.lenSl x)
      | _ => some (.gen o)
    | .cap, [x], [t] => match P.underlying t with
      | some (.slice _) => some (.capNil x)
      | _ => none
    | .append, [s, x], [t, u] => match P.underlying t with
      | some (.slice e) => match P.info? e, P.underlying u with
        | some i, some du =>
          if srcDesc du && (zeroL P e).isSome && decide (0 < i.size) then some (.append e i.size i.bytes s x) else none
        | _, _ => none
      | _ => none
    | .copy, [x, y], [t, _] => match P.underlying t with
      | some (.slice e) => if (P.info? e).isSome then some (.copyNone x y) else none
      | _ => none
    | .recover, [], _ => some .recover
    | .unsafeSliceData, [x], _ => some (.sliceData x)
    | .unsafeString, [x, n], [t, _] => match P.underlying t with
      | some (.pointer e) => match P.underlying e with
        | some (.int .u8) => if P.cellsOf e == 1 then some (.uString e x n) else none
        | _ => none
      | _ => none
    | .max, _, _ | .min, _, _ => some (.gen o)
    | _, _, _ => none
  | .value f => match f with
    | .func g | .const (.func (.func g) _ _) => match P.funcs[g]? with
      | some fn => match fn.body with
        | some _ => if fn.name == "runtime.NumGoroutine" then none else some (callOp P f c.args.toList)
        | none =>
          match f with
          | .func _ => compExt P fn c.args.toList
          | _ => none
      | none => none
    | .tmp _ => some (.call f c.args.toList)
    | _ => none
  | .invoke _ _ => none

def compOp (o : Oper) : Option AOp :=
  match o.op with
  | .move x | .assign x => some (.move x)
  | .pick c a b => some (.pick c a b)
  | .alloc e => (zeroL P e).map (.alloc e)
  | .box e x => (sizeT P e).map fun n => .box e n x
  | .build t ps => match P.underlying t, zeroL P t with
    | some (.struct fs), some z => match fs.toList.mapM (fun f => (P.info? f.type).map fun i => (f.offset, i.size)) with
      | some places => (partsC (fun i => places.toArray[i]?) ps.toList).map (.build z)
      | none => none
    | some (.array _ e), some z => match sizeT P e with
      | some n => (partsC (fun i => some (i * n, n)) ps.toList).map (.build z)
      | none => none
    | _, _ => none
  | .buildSlice t n ps => match P.underlying t with
    | some (.slice e) => match sizeT P e, zeroL P e with
      | some s, some z => if n * s ≤ 16777216 ∧ 0 < s then (partsC (fun i => some (i * s, s)) ps.toList).map (.buildSlice e n s z) else none
      | _, _ => none
    | _ => none
  | .load t a => (loadT P t).map fun (agg, n) => .load agg n a
  | .store t a x => (sizeT P t).map fun n => .store n a x
  | .nilCheck x => some (.nilCheck x)
  | .binOp op t x y _ => match P.underlying t with
    | some (.int _) => some (.ibin op x y)
    | some (.pointer e) => if (op = .eql ∨ op = .neq) ∧ ((sizeT P e).any (decide <| · ≠ 0)) then some (.eqNil 0 (decide (op = .neq)) x y) else none
    | some (.slice _) => if op = .eql ∨ op = .neq then some (.eqNil 1 (decide (op = .neq)) x y) else none
    | some (.func _ _ _) => if op = .eql ∨ op = .neq then some (.eqNil 2 (decide (op = .neq)) x y) else none
    | some _ => some (.gen o)
    | none => none
  | .unOp _ _ _ => some (.gen o)
  | .convert s t x => match P.underlying s, P.underlying t with
    | some .string, some (.slice e) => match P.underlying e with
      | some (.int .u8) => if sizeT P e = some 1 then some (.strBytes e x) else none
      | _ => none
    | some (.slice e), some .string => match P.underlying e with
      | some (.int .u8) => some (.bytesStr x)
      | _ => none
    | some (.slice _), some (.slice e) => match P.underlying e with
      | some (.int .u8) => if s = t then some (.toRo x) else none
      | _ => none
    | some (.pointer e), some .unsafePointer => if (sizeT P e).any (decide <| · ≠ 0) then some (.ptrUnsafe x) else none
    | some .unsafePointer, some (.pointer u) => if (P.info? u).isSome then some (.unsafePtr u x) else none
    | some _, some _ => some (.gen o)
    | _, _ => none
  | .makeInterface t x => match P.underlying t with
    | some (.interface _) => none
    | some _ => some (.mkIface t x)
    | none => none
  | .makeFunc (.func f) a b => some (.mkFunc f a.toList b.toList)
  | .makeSlice t l c => match P.underlying t with
    | some (.slice e) => match P.info? e, zeroL P e with
      | some i, some z => if 0 < i.size then some (.makeSlice e i.bytes z l c) else none
      | _, _ => none
    | _ => none
  | .slice t x lo hi none => match P.underlying t with
    | some (.slice e) => (sizeT P e).map fun n => .sliceSl n x lo hi
    | some .string => some (.gen o)
    | some (.array len e) => (sizeT P e).map fun n => .sliceArr len n x lo hi
    | _ => none
  | .slice t x lo (some hi) (some mx) => match P.underlying t with
    | some (.slice e) => (sizeT P e).map fun n => .slice3 n x lo (some hi) mx
    | _ => none
  | .makeMap _ none => some .makeMap
  | .lookup t m k ok => match P.underlying t with
    | some (.map kt e) => match (P.info? e).bind (·.zero) with
      | some z => if closedV z then some (.lookup kt z ok m k) else none
      | none => none
    | _ => none
  | .mapUpdate t m k v => match P.underlying t with
    | some (.map kt _) => some (.mapUpdate kt m k v)
    | _ => none
  | .range t x => match P.underlying t with
    | some .string => some (.rangeStr x)
    | _ => none
  | .next it true => some (.nextStr it)
  | .fieldAddr t x f => match P.underlying t with
    | some (.struct fs) => match fs[f]? with
      | some fd => if (sizeT P fd.type).any (decide <| · ≠ 0) then some (.fieldAddr fd.offset x) else none
      | none => none
    | _ => none
  | .field t x f => match P.underlying t with
    | some (.struct fs) => match fs[f]? with
      | some fd => (loadT P fd.type).map fun (agg, n) => .field agg n fd.offset x
      | none => none
    | _ => none
  | .indexAddr t x i => match P.underlying t with
    | some (.slice e) => (sizeT P e).map fun n => .idxSl n x i
    | some (.array len e) => (sizeT P e).map fun n => .idxArr len n x i
    | _ => none
  | .index t x i => match P.underlying t with
    | some .string => some (.gen o)
    | some (.array len e) => match isAggT P e with
      | some true => (sizeT P e).map fun n => .idxVal n len x i
      | _ => some (.gen o)
    | _ => none
  | .extract x i => some (.extract x i)
  | .call c => compCall P o c
  | .defer c => match c.callee with
    | .value f => some (.defer f c.args.toList)
    | _ => none
  | .panic x => some (.panic x)
  | .typeAssert x _ a ok => match P.underlying a with
    | some (.interface _) => some (.gen o)
    | some _ => match (P.info? a).bind (·.zero) with
      | some z => if closedV z then some (.assert a ok z x) else none
      | none => none
    | none => none
  | _ => none

def compO (ops : Array Oper) (o : Oper) : Option AO :=
  if o.op.operands.all (opdOk P) then
    match compOp P o with
    | none => none
    | some op => match o.guard with
      | none => some { dst := o.dst, guard := none, op }
      | some (j, b) => match (ops[j]?).bind (·.dst) with
        | some t => some { dst := o.dst, guard := some (t, b), op }
        | none => none
  else none

def compL (ops : Array Oper) : List Oper → Option (List AO)
  | [] => some []
  | o :: r => match compO P ops o, compL ops r with
    | some x, some l => some (x :: l)
    | _, _ => none

/-! Regions that draw their order. -/
def bef1 (acc : List Nat) : List Edge → Nat
  | [] => 0
  | e :: r => if Region.binds .any e then 2 ^ e.on ||| (acc.getD e.on 0 ||| bef1 acc r) else bef1 acc r

/-- Of each operation, which ones surely come before it (bits). -/
def befL : List Oper → List Nat → List Nat
  | [], acc => acc
  | o :: r, acc => befL r (acc ++ [bef1 acc o.after.toList])

/-- The operands that an operation looks at. -/
def AOp.opds : AOp → List Operand
  | .move x | .box _ _ x | .load _ _ x | .nilCheck x | .fieldAddr _ x | .field _ _ _ x | .mkIface _ x | .extract x _ | .lenSl x | .capNil x | .strBytes _ x | .bytesStr x | .toRo x
  | .ptrUnsafe x | .unsafePtr _ x | .sliceData x | .panic x | .makeNoZero _ x | .rangeStr x | .nextStr x => [x]
  | .makeMap => []
  | .lookup _ _ _ m k => [m, k]
  | .idxVal _ _ x i => [x, i]
  | .assert _ _ _ x => [x]
  | .mapUpdate _ m k v => [m, k, v]
  | .slice3 _ x lo hi mx => x :: (lo.toList ++ hi.toList ++ [mx])
  | .sliceArr _ _ x lo hi => x :: (lo.toList ++ hi.toList)
  | .pick c a b => [c, a, b]
  | .alloc _ _ | .recover => []
  | .build _ ps | .buildSlice _ _ _ _ ps => ps.map (·.2.2)
  | .store _ a x | .ibin _ a x | .idxSl _ a x | .idxArr _ _ a x | .eqNil _ _ a x | .append _ _ _ a x | .makeSlice _ _ _ a x | .uString _ a x | .copyNone a x | .indexByte a x => [a, x]
  | .gen o => o.op.operands.toList
  | .sliceSl _ x lo hi => x :: (lo.toList ++ hi.toList)
  | .mkFunc _ a b => a ++ b
  | .call f args | .callP f args | .defer f args => f :: args
  | .noEscape args => args

def tmpsOf : List Operand → List Tmp
  | [] => []
  | .tmp t :: r => t :: tmpsOf r
  | _ :: r => tmpsOf r

def AO.looks (o : AO) : List Tmp := (match o.guard with | some (t, _) => [t] | none => []) ++ tmpsOf o.op.opds

def notIn (d : Option Tmp) (l : List Tmp) : Bool := match d with
  | none => true
  | some t => !(l.contains t)

def apartA (x y : AO) : Bool :=
  notIn x.dst y.looks && notIn y.dst x.looks && (match x.dst, y.dst with | some s, some t => s != t | _, _ => true)

def plainOp : AOp → Bool
  | .defer _ _ | .recover | .panic _ => false
  | .gen o => match o.op with | .select _ _ => false | _ => true
  | _ => true

def bit (b : List Nat) (i j : Nat) : Bool := (b.getD j 0).testBit i

/-- all pairs i < j of a list. -/
def pairs (p : Nat → AO → Nat → AO → Bool) : List AO → Nat → Bool
  | [], _ => true
  | o :: r, i => pairsAt p i o r (i + 1) && pairs p r (i + 1)
where
  pairsAt (p : Nat → AO → Nat → AO → Bool) (i : Nat) (o : AO) : List AO → Nat → Bool
  | [], _ => true
  | q :: r, j => p i o j q && pairsAt p i o r (j + 1)

def edgesOk : List Oper → Nat → Bool
  | [], _ => true
  | o :: r, i => (o.after.toList.all fun e => !Region.binds .any e || Nat.blt e.on i) && edgesOk r (i + 1)

def drawOk (ops : List Oper) (l : List AO) : Bool :=
  let b := befL ops []
  edgesOk ops 0 && l.all (plainOp ·.op) && pairs (fun i x j y => (bit b i j || apartA x y) && (bit b i j || !(loud x.op) || !(loud y.op))) l 0

/-- How many loud operations of a list there are whose number is in p. -/
def lcs : List AO → (Nat → Bool) → Nat → Nat
  | [], _, _ => 0
  | o :: r, p, i => (if loud o.op && p i then 1 else 0) + lcs r p (i + 1)

/-- The places right behind a loud operation, and the first one. -/
def reps : List AO → Nat → List Nat
  | [], _ => []
  | o :: r, i => if loud o.op then (i + 1) :: reps r (i + 1) else reps r (i + 1)

def needsHeap : AOp → Bool
  | .load .. | .bytesStr _ | .ptrUnsafe _ | .unsafePtr _ _ | .lookup .. => true
  | _ => false

def checksAt (b : List Nat) (l : List AO) (o : AO) (i : Nat) : List (Nat × Nat) :=
  if loud o.op || !(needsHeap o.op) then [] else
  let lo := lcs l (fun j => bit b j i) 0
  let hi := lcs l (fun j => !(bit b i j)) 0
  let at_ := lcs l (fun j => Nat.blt j i) 0
  ((0 :: reps l 0).filter fun m => let k := lcs l (fun j => Nat.blt j m) 0; Nat.ble lo k && Nat.ble k hi && !(Nat.beq k at_)).map fun m => (i, m)

def checksFrom (b : List Nat) (l : List AO) : List AO → Nat → List (Nat × Nat)
  | [], _ => []
  | o :: r, i => checksAt b l o i ++ checksFrom b l r (i + 1)

def isCut (b : List Nat) (l : List AO) (n : Nat) : Bool := (List.range l.length).all fun j => Nat.beq j n || (if Nat.blt j n then bit b j n || (match l[j]? with | some o => !(loud o.op) | none => false) else bit b n j)

def dirtyOf (b : List Nat) (n : Nat) : List AO → Nat → List Tmp
  | [], _ => []
  | o :: r, j => (match o.dst with | some t => if Nat.blt j n && !(bit b j n) then [t] else [] | none => []) ++ dirtyOf b n r (j + 1)

def cutsFrom (b : List Nat) (l : List AO) : List AO → Nat → Cuts
  | [], _ => []
  | o :: r, i => (match o.op with | .call _ _ => if isCut b l i then [(i, checksFrom b (l.take i) (l.take i) 0, dirtyOf b i l 0)] else [] | _ => []) ++ cutsFrom b l r (i + 1)

/-- An operation whose place among others of its kind matters. -/
def strong (o : AO) : Bool := loud o.op && !(isFill o.op)

def drawOkL (ops : List Oper) (l : List AO) : Bool :=
  let b := befL ops []
  edgesOk ops 0 && l.all (plainOp ·.op) && pairs (fun i x j y => (bit b i j || apartA x y) && (bit b i j || !(strong x) || !(strong y))) l 0

def lcsS : List AO → (Nat → Bool) → Nat → Nat
  | [], _, _ => 0
  | o :: r, p, i => (if strong o && p i then 1 else 0) + lcsS r p (i + 1)

def repsS : List AO → Nat → List Nat
  | [], _ => []
  | o :: r, i => if strong o then (i + 1) :: repsS r (i + 1) else repsS r (i + 1)

def checksAtL (b : List Nat) (l : List AO) (o : AO) (i : Nat) : List (Nat × Nat) :=
  if loud o.op || !(needsHeap o.op) then [] else
  let lo := lcsS l (fun j => bit b j i) 0
  let hi := lcsS l (fun j => !(bit b i j)) 0
  let at_ := lcsS l (fun j => Nat.blt j i) 0
  ((0 :: repsS l 0).filter fun m => let k := lcsS l (fun j => Nat.blt j m) 0; Nat.ble lo k && Nat.ble k hi && !(Nat.beq k at_)).map fun m => (i, m)

def checksFromL (b : List Nat) (l : List AO) : List AO → Nat → List (Nat × Nat)
  | [], _ => []
  | o :: r, i => checksAtL b l o i ++ checksFromL b l r (i + 1)

/-- A check of another operation than a load would fail. -/
def loadsOnly (l : List AO) (cs : List (Nat × Nat)) : Bool := cs.all fun c => match l[c.1]? with
  | some o => (match o.op with | .load .. => true | _ => false)
  | none => false

def compReg (ops : Array Oper) (draw : Bool) : AC :=
  match compL P ops ops.toList with
  | none => .stuck
  | some l => if draw then (if drawOk ops.toList l && loadsOnly l (checksFrom (befL ops.toList []) l l 0) then .regD l (checksFrom (befL ops.toList []) l l 0) (cutsFrom (befL ops.toList []) l l 0) else if drawOkL ops.toList l then .regL (befL ops.toList []) l (checksFromL (befL ops.toList []) l l 0) else .stuck) else .reg l

def compC : Code → AC
  | .skip => .skip
  | .region _ ops draw => compReg P ops draw
  | .seq a b => .seq (compC a) (compC b)
  | .cond c a b => bif opdOk P c then .cond c (compC a) (compC b) else .stuck
  | .block id a => .block id (compC a)
  | .loop a => .loop (compC a)
  | .rangeFunc f ps a b => bif opdOk P f then .rangeFunc f ps.toList (compC a) (compC b) else .stuck
  | .exit id => .exit id
  | .ret => .ret
  | .scope a => compC a
  | .label _ => .skip
  | _ => .stuck

def compR : ResultVar → Option ARV
  | .tmp t => some (.tmp t)
  | .cell a t => (loadT P t).map fun (agg, n) => .cell a agg n

def compRs : List ResultVar → Option (List ARV)
  | [] => some []
  | x :: r => match compR P x, compRs r with
    | some y, some l => some (y :: l)
    | _, _ => none

def compF (fn : Func) : Option AFn :=
  match fn.body, compRs P fn.results.toList with
  | some c, some rs => some { ntmps := fn.ntmps, results := rs, body := compC P c }
  | _, _ => none
end

end Go.Ev
