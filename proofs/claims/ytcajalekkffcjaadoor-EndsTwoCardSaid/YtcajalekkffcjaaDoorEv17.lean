/- The evaluator over a small code, and that what it finds of a call holds of the machine, part 17. -/
import Derived.Test.YtcajalekkffcjaaDoorEv16
namespace Go.Ev
open Go

/-! ### Slots, lists, the heap -/
noncomputable def getN : Nat → List Value → Value := fun n => Nat.rec (fun l => List.casesOn l undef (fun v _ => v)) (fun _ ih l => List.casesOn l undef (fun _ t => ih t)) n
noncomputable def setN (v : Value) : Nat → List Value → List Value := fun n => Nat.rec (fun l => List.casesOn l [] (fun _ t => v :: t)) (fun _ ih l => List.casesOn l [] (fun a t => a :: ih t)) n

theorem getN_eq : ∀ (n : Nat) (l : List Value), getN n l = l.getD n undef
  | 0, [] => rfl
  | 0, _ :: _ => rfl
  | _ + 1, [] => rfl
  | n + 1, _ :: t => getN_eq n t

theorem setN_eq (v : Value) : ∀ (n : Nat) (l : List Value), setN v n l = l.set n v
  | 0, [] => rfl
  | 0, _ :: _ => rfl
  | _ + 1, [] => rfl
  | n + 1, a :: t => congrArg (a :: ·) (setN_eq v n t)

structure VClo where
  run : List Value → Value

noncomputable def cloV (x : Operand) : VClo := Operand.casesOn x (fun t => ⟨getN t⟩) (fun v => ⟨fun _ => v⟩) (fun g => ⟨fun _ => .pointer (some ⟨g, 0, none⟩)⟩) (fun f => ⟨fun _ => .func (.func f) #[] #[]⟩)
noncomputable def av (ts : List Value) (x : Operand) : Value := (cloV x).run ts
theorem av_eq (ts : List Value) : av ts = aev ts := by
  funext x
  cases x with
  | tmp t => exact getN_eq t ts
  | _ => rfl

noncomputable def putLF (dst : Option Tmp) (v : Value) (ts : List Value) : List Value := Option.casesOn dst ts (fun d => setN v d ts)
theorem putLF_eq (dst : Option Tmp) (v : Value) (ts : List Value) : putLF dst v ts = putL dst v ts := by
  cases dst with
  | none => rfl
  | some d => exact setN_eq v d ts
noncomputable def AAct.putF (a : AAct) (dst : Option Tmp) (v : Value) : AAct := ⟨putLF dst v a.tmps, a.defers, a.rc, a.round⟩
theorem putF_eq (a : AAct) (dst : Option Tmp) (v : Value) : a.putF dst v = a.put dst v := by
  show (⟨putLF dst v a.tmps, a.defers, a.rc, a.round⟩ : AAct) = _
  rw [putLF_eq]; rfl

noncomputable def Trie.getF {β : Type} (p : List Bool) : Trie β → Option β :=
  List.rec (fun t => Trie.casesOn t none (fun _ v _ => v)) (fun b _ ih t => Trie.casesOn t none (fun l _ r => ih (Bool.casesOn b r l))) p
theorem Trie.getF_eq {β : Type} : ∀ (p : List Bool) (t : Trie β), t.getF p = t.get p
  | [], .leaf => rfl
  | [], .node _ _ _ => rfl
  | _ :: _, .leaf => rfl
  | true :: p, .node l _ _ => Trie.getF_eq p l
  | false :: p, .node _ _ r => Trie.getF_eq p r
noncomputable def Trie.setF {β : Type} (x : β) (p : List Bool) : Trie β → Trie β :=
  List.rec (fun t => Trie.casesOn t (.node .leaf (some x) .leaf) (fun l _ r => .node l (some x) r))
    (fun b _ ih t => Trie.casesOn t (Bool.casesOn b (.node .leaf none (ih .leaf)) (.node (ih .leaf) none .leaf)) (fun l v r => Bool.casesOn b (.node l v (ih r)) (.node (ih l) v r))) p
theorem Trie.setF_eq {β : Type} (x : β) : ∀ (p : List Bool) (t : Trie β), t.setF x p = t.set x p
  | [], .leaf => rfl
  | [], .node _ _ _ => rfl
  | true :: p, .leaf => congrArg (fun y => Trie.node y none .leaf) (Trie.setF_eq x p .leaf)
  | false :: p, .leaf => congrArg (fun y => Trie.node .leaf none y) (Trie.setF_eq x p .leaf)
  | true :: p, .node l v r => congrArg (fun y => Trie.node y v r) (Trie.setF_eq x p l)
  | false :: p, .node l v r => congrArg (fun y => Trie.node l v y) (Trie.setF_eq x p r)

noncomputable def H.getF (h : H) (i : Nat) : Option Blk := h.t.getF (path i i)
noncomputable def H.setF (h : H) (i : Nat) (b : Blk) : H := H.casesOn h (fun n t => ⟨n, t.setF b (path i i)⟩)
noncomputable def H.allocF (h : H) (b : Blk) : H := H.casesOn h (fun n t => ⟨n + 1, t.setF b (path n n)⟩)
theorem getF_eq (h : H) (i : Nat) : h.getF i = h.get i := Trie.getF_eq _ _
theorem setF_eq (h : H) (i : Nat) (b : Blk) : h.setF i b = h.set i b := by
  show (⟨h.next, h.t.setF b (path i i)⟩ : H) = _
  rw [Trie.setF_eq]; rfl
theorem allocF_eq (h : H) (b : Blk) : h.allocF b = h.alloc b := by
  show (⟨h.next + 1, h.t.setF b (path h.next h.next)⟩ : H) = _
  rw [Trie.setF_eq]; rfl

noncomputable def H.cellsF (h : H) (a : Addr) (n : Nat) : Option (List Value) :=
  match a.spot, (h.getF a.block).bind Blk.read with
  | none, some cs => if a.off + n ≤ cs.length then some ((cs.drop a.off).take n) else none
  | _, _ => none

theorem cellsF_eq (h : H) (a : Addr) (n : Nat) : h.cellsF a n = h.cells a n := by
  unfold H.cellsF H.cells
  rw [getF_eq]
  rfl

noncomputable def partsOkF (en : Operand → Value) (len : Nat) : List (Nat × Nat × Operand) → Option (List (Nat × List Value))
  | [] => some []
  | (off, size, x) :: r =>
    let xs := cellsL (en x)
    if xs.length = size && Nat.ble (off + size) len then (partsOkF en len r).map ((off, xs) :: ·) else none

noncomputable def srcCellsF (h : H) (size : Nat) : Value → Option (Nat × List Value)
  | .slice none n _ => if n = 0 then some (0, []) else none
  | .slice (some a) n _ => if n = 0 then some (0, []) else (h.cellsF a (n * size)).map fun cs => (n, cs)
  | .string s => some (s.size, s.data.toList.map fun b => .int .u8 b.toNat)
  | _ => none

noncomputable def sliceCellsF (h : H) : Value → Option (List Value)
  | .slice a n c => (srcCellsF h 1 (.slice a n c)).map (·.2)
  | _ => none

noncomputable def boundF (en : Operand → Value) (d : Nat) : Option Operand → Option Nat
  | none => some d
  | some x => match en x with
    | .int _ i => if 0 ≤ i then some i.toNat else none
    | _ => none

noncomputable def appendAF (h : H) (e : TypeId) (size bytes m : Nat) (new : List Value) (s : Value) : Option (Value × H) :=
  match s with
  | .slice none 0 0 =>
    if m = 0 then some (Value.slice none 0 0, h)
    else if m * bytes ≤ maxBytes ∧ m ≤ maxLen then some (.slice (some ⟨h.next, 0, none⟩) m 0, h.allocF (.cells false new e m)) else none
  | .slice (some a) n skip =>
    if m = 0 then some (.slice (some a) n skip, h)
    else match h.getF a.block with
      | some (.cells tight cs e' rows) =>
        if a.spot = none ∧ a.off = 0 ∧ skip = 0 ∧ rows = n ∧ e' = e ∧ cs.length = n * size ∧ (n + m) * bytes ≤ maxBytes ∧ n + m ≤ maxLen then
          some (.slice (some ⟨h.next, 0, none⟩) (n + m) 0,
            (bif tight then h else h.setF a.block .dead).allocF (.cells false (cs ++ new) e (n + m)))
        else if a.spot = none ∧ skip % 2 = 0 ∧ a.off = skip / 2 * size ∧ rows = skip / 2 + n ∧ e' = e ∧ cs.length = rows * size ∧ (n + m) * bytes ≤ maxBytes ∧ n + m ≤ maxLen then
          some (.slice (some ⟨h.next, 0, none⟩) (n + m) 0,
            (bif tight then h else h.setF a.block .dead).allocF (.cells false (cs.drop a.off ++ new) e (n + m)))
        else none
      | _ => none
  | _ => none

theorem partsOkF_eq (ts : List Value) (len : Nat) : ∀ ps, partsOkF (aev ts) len ps = partsOk ts len ps
  | [] => rfl
  | (off, size, x) :: r => by simp only [partsOkF, partsOk, partsOkF_eq ts len r]
theorem srcCellsF_eq (h : H) (size : Nat) (v : Value) : srcCellsF h size v = srcCells h size v := by
  unfold srcCellsF srcCells; simp only [cellsF_eq]; rfl
theorem sliceCellsF_eq (h : H) (v : Value) : sliceCellsF h v = sliceCells h v := by
  unfold sliceCellsF sliceCells; simp only [srcCellsF_eq]; rfl
theorem boundF_eq (ts : List Value) (d : Nat) (x : Option Operand) : boundF (aev ts) d x = bound ts d x := by
  cases x with
  | none => rfl
  | some x => rfl
theorem appendAF_eq (h : H) (e : TypeId) (size bytes m : Nat) (new : List Value) (s : Value) : appendAF h e size bytes m new s = appendA h e size bytes m new s := by
  unfold appendAF appendA; simp only [getF_eq, setF_eq, allocF_eq]; rfl

noncomputable def x_move (en : Operand → Value) (h : H) (x : Operand) : Option (Value × H) := some (en x, h)

noncomputable def x_pick (en : Operand → Value) (h : H) (c : Operand) (a : Operand) (b : Operand) : Option (Value × H) :=
   match en c with
    | .bool t => some (bif t then en a else en b, h)
    | _ => none

noncomputable def x_alloc (h : H) (e : TypeId) (zero : List Value) : Option (Value × H) := some (.pointer (some ⟨h.next, 0, none⟩), h.allocF (.cells true zero e 1))

noncomputable def x_box (en : Operand → Value) (h : H) (e : TypeId) (size : Nat) (x : Operand) : Option (Value × H) :=
      let cs := cellsL (en x)
    if cs.length = size then some (.pointer (some ⟨h.next, 0, none⟩), h.allocF (.cells true cs e 1)) else none

noncomputable def x_build (en : Operand → Value) (h : H) (zero : List Value) (ps : List (Nat × Nat × Operand)) : Option (Value × H) := (partsOkF en zero.length ps).map fun l => (.agg (fillL zero l).toArray, h)

noncomputable def x_buildSlice (en : Operand → Value) (h : H) (e : TypeId) (n : Nat) (size : Nat) (zero : List Value) (ps : List (Nat × Nat × Operand)) : Option (Value × H) := (partsOkF en (n * size) ps).map fun l => (.slice (some ⟨h.next, 0, none⟩) n 0, h.allocF (.cells true (fillL (repL zero n) l) e n))

noncomputable def x_load (en : Operand → Value) (h : H) (agg : Bool) (n : Nat) (a : Operand) : Option (Value × H) :=
   match en a with
    | .pointer (some p) => match h.cellsF p n with
      | some cs => if agg then some (.agg cs.toArray, h) else (one cs).map fun v => (v, h)
      | none => none
    | _ => none

noncomputable def x_store (en : Operand → Value) (h : H) (n : Nat) (a : Operand) (x : Operand) : Option (Value × H) :=
   match en a with
    | .pointer (some p) =>
      let xs := cellsL (en x)
      match p.spot, h.getF p.block with
      | none, some (.cells tight cs e rows) =>
        if xs.length = n && Nat.ble (p.off + n) cs.length && xs.all (·.oneCell') then
          some (undef, h.setF p.block (.cells tight (cs.take p.off ++ xs ++ cs.drop (p.off + n)) e rows))
        else none
      | _, _ => none
    | _ => none

noncomputable def x_nilCheck (en : Operand → Value) (h : H) (x : Operand) : Option (Value × H) :=
   match en x with
    | .pointer (some p) => some (.pointer (some p), h)
    | .func (.func f) a b => some (.func (.func f) a b, h)
    | .func (.yield l) a b => some (.func (.yield l) a b, h)
    | _ => none

noncomputable def x_ibin (en : Operand → Value) (h : H) (op : BinOp) (x : Operand) (y : Operand) : Option (Value × H) :=
   match en x, en y with
    | .int k a, .int k' b => if k = k' || op = .shl || op = .shr then (ibin op k a b).map fun v => (v, h) else none
    | _, _ => none

noncomputable def x_gen (P : Program) (en : Operand → Value) (h : H) (o : Oper) : Option (Value × H) :=
      if o.op.operands.all (fun x => closedV (en x)) then
      match pureRun P (execOp (en) o) with
      | some (.value v) => if closedV v then some (v, h) else none
      | _ => none
    else none

noncomputable def x_fieldAddr (en : Operand → Value) (h : H) (off : Nat) (x : Operand) : Option (Value × H) :=
   match en x with
    | .pointer (some p) => if p.spot = none then some (.pointer (some ⟨p.block, p.off + off, none⟩), h) else none
    | _ => none

noncomputable def x_field (en : Operand → Value) (h : H) (agg : Bool) (n : Nat) (off : Nat) (x : Operand) : Option (Value × H) :=
   match en x with
    | .agg cs => if off + n ≤ cs.toList.length then
        if agg then some (.agg ((cs.toList.drop off).take n).toArray, h) else (one ((cs.toList.drop off).take n)).map fun v => (v, h)
      else none
    | _ => none

noncomputable def x_idxSl (en : Operand → Value) (h : H) (size : Nat) (x : Operand) (i : Operand) : Option (Value × H) :=
   match en x, en i with
    | .slice (some a) len _, .int _ n => if 0 ≤ n ∧ n < (len : Int) ∧ a.spot = none then some (.pointer (some ⟨a.block, a.off + n.toNat * size, none⟩), h) else none
    | _, _ => none

noncomputable def x_idxArr (en : Operand → Value) (h : H) (len : Nat) (size : Nat) (x : Operand) (i : Operand) : Option (Value × H) :=
   match en x, en i with
    | .pointer (some a), .int _ n => if 0 ≤ n ∧ n < (len : Int) ∧ a.spot = none then some (.pointer (some ⟨a.block, a.off + n.toNat * size, none⟩), h) else none
    | _, _ => none

noncomputable def x_sliceSl (en : Operand → Value) (h : H) (size : Nat) (x : Operand) (lo : Option Operand) (hi : Option Operand) : Option (Value × H) :=
   match en x with
    | .slice none 0 0 => match boundF en 0 lo, boundF en 0 hi with
      | some 0, some 0 => some (.slice none 0 0, h)
      | _, _ => none
    | .slice (some a) len skip => match boundF en 0 lo, boundF en len hi with
      | some l, some u =>
        if l ≤ u ∧ u ≤ len ∧ a.spot = none then some (.slice (some ⟨a.block, a.off + l * size, none⟩) (u - l) (skipBy skip l), h)
        else none
      | _, _ => none
    | _ => none

noncomputable def x_mkFunc (en : Operand → Value) (h : H) (f : FuncId) (first : List Operand) (captured : List Operand) : Option (Value × H) := some (.func (.func f) (first.map (en)).toArray (captured.map (en)).toArray, h)

noncomputable def x_mkIface (en : Operand → Value) (h : H) (t : TypeId) (x : Operand) : Option (Value × H) := some (.iface t (en x), h)

noncomputable def x_extract (en : Operand → Value) (h : H) (x : Operand) (i : Nat) : Option (Value × H) :=
   match en x with
    | .tuple vs => (vs.toList[i]?).map fun v => (v, h)
    | _ => none

noncomputable def x_lenSl (en : Operand → Value) (h : H) (x : Operand) : Option (Value × H) :=
   match en x with
    | .slice _ n _ => some (.int .i64 n, h)
    | _ => none

noncomputable def x_capNil (en : Operand → Value) (h : H) (x : Operand) : Option (Value × H) :=
   match en x with
    | .slice none _ c => some (.int .i64 c, h)
    | _ => none

noncomputable def x_eqNil (en : Operand → Value) (h : H) (kind : Nat) (neg : Bool) (x : Operand) (y : Operand) : Option (Value × H) :=
   match kind, en x, en y with
    | 0, .pointer none, .pointer b => some (.bool (neg != b.isNone), h)
    | 0, .pointer (some _), .pointer none => some (.bool (neg != false), h)
    | 0, .pointer (some a), .pointer (some b) => if a = b then some (.bool (neg != true), h) else none
    | 1, .slice none _ _, .slice b _ _ => some (.bool (neg != b.isNone), h)
    | 1, .slice (some _) _ _, .slice none _ _ => some (.bool (neg != false), h)
    | 2, .nilFunc, .nilFunc => some (.bool (neg != true), h)
    | 2, .func _ _ _, .nilFunc => some (.bool (neg != false), h)
    | 2, .nilFunc, .func _ _ _ => some (.bool (neg != false), h)
    | _, _, _ => none

noncomputable def x_append (en : Operand → Value) (h : H) (e : TypeId) (size : Nat) (bytes : Nat) (s : Operand) (x : Operand) : Option (Value × H) :=
   match srcCellsF h size (en x) with
    | none => none
    | some (m, new) =>
      if new.length = m * size && new.all (·.oneCell') then appendAF h e size bytes m new (en s) else none

noncomputable def x_makeSlice (en : Operand → Value) (h : H) (e : TypeId) (bytes : Nat) (zero : List Value) (l : Operand) (c : Operand) : Option (Value × H) :=
   match en l, en c with
    | .int _ l, .int _ c =>
      if 0 ≤ l ∧ l = c ∧ l.toNat * bytes ≤ maxBytes ∧ l.toNat ≤ maxLen then
        some (.slice (some ⟨h.next, 0, none⟩) l.toNat 0, h.allocF (.cells true (repL zero l.toNat) e l.toNat))
      else none
    | _, _ => none

noncomputable def x_strBytes (en : Operand → Value) (h : H) (e : TypeId) (x : Operand) : Option (Value × H) :=
   match en x with
    | .string s => if s.size ≤ maxLen then some (.slice (some ⟨h.next, 0, none⟩) s.size 0, h.allocF (.cells false (s.data.toList.map fun b => .int .u8 b.toNat) e s.size)) else none
    | _ => none

noncomputable def x_bytesStr (en : Operand → Value) (h : H) (x : Operand) : Option (Value × H) :=
   match sliceCellsF h (en x) with
    | some cs => (bytesOfCells cs).map fun l => (.string ⟨l.toArray⟩, h)
    | none => none

noncomputable def x_toRo (en : Operand → Value) (h : H) (x : Operand) : Option (Value × H) :=
   match en x with
    | .slice (some a) n skip => match a.spot, h.getF a.block with
      | none, some (.cells true cs _ _) => some (.slice (some a) n skip, h.setF a.block (.ro cs))
      | _, _ => none
    | _ => none

noncomputable def x_ptrUnsafe (en : Operand → Value) (h : H) (x : Operand) : Option (Value × H) :=
   match en x with
    | .pointer none => some (.pointer none, h)
    | .pointer (some p) => match p.spot, h.getF p.block with
      | none, some (.cells true cs _ _) => if p.off < cs.length then some (.pointer (some p), h) else none
      | _, _ => none
    | _ => none

noncomputable def x_unsafePtr (P : Program) (en : Operand → Value) (h : H) (u : TypeId) (x : Operand) : Option (Value × H) :=
   match en x with
    | .pointer none => some (.pointer none, h)
    | .pointer (some p) => match p.spot, h.getF p.block with
      | none, some (.cells true cs e _) => if liesAt P P.depth e (cs.length / P.cellsOf e) p.off u 1 then some (.pointer (some p), h) else none
      | _, _ => none
    | _ => none

noncomputable def x_sliceData (en : Operand → Value) (h : H) (x : Operand) : Option (Value × H) :=
   match en x with
    | .slice none _ _ => some (.pointer none, h)
    | .slice (some a) n _ => if n = 0 then none else some (.pointer (some a), h)
    | _ => none

noncomputable def x_uString (en : Operand → Value) (h : H) (e : TypeId) (x : Operand) (n : Operand) : Option (Value × H) :=
   match en x, en n with
    | .pointer none, .int _ 0 => some (.string ⟨#[]⟩, h)
    | .pointer (some p), .int .i64 n => match p.spot, h.getF p.block with
      | none, some (.cells _ cs e' _) =>
        if 0 < n ∧ p.off + n.toNat ≤ cs.length ∧ e' = e ∧ n.toNat ≤ maxLen ∧ p.off = 0 then
          (bytesOfCells ((cs.drop p.off).take n.toNat)).map fun l => (.string ⟨l.toArray⟩, h.setF p.block .dead)
        else none
      | _, _ => none
    | _, _ => none

noncomputable def x_copyNone (en : Operand → Value) (h : H) (x : Operand) (y : Operand) : Option (Value × H) :=
   match en x, en y with
    | .slice _ n _, .slice _ m _ => if n = 0 ∨ m = 0 then some (.int .i64 0, h) else none
    | _, _ => none

noncomputable def x_noEscape (en : Operand → Value) (h : H) (args : List Operand) : Option (Value × H) :=
   match args.map (en) with
    | [x] => some (x, h)
    | _ => none

noncomputable def x_indexByte (en : Operand → Value) (h : H) (s : Operand) (c : Operand) : Option (Value × H) :=
   match en s, en c with
    | .string s, .int .u8 c => some (.int .i64 (idxB s.data.toList c.toNat.toUInt8 0), h)
    | _, _ => none

noncomputable def x_makeNoZero (en : Operand → Value) (h : H) (e : TypeId) (n : Operand) : Option (Value × H) :=
   match en n with
    | .int .i64 n => if 0 ≤ n ∧ n.toNat ≤ maxBytes then some (.slice (some ⟨h.next, 0, none⟩) n.toNat 0, h.allocF (.cells false [] e 0)) else none
    | _ => none

noncomputable def x_makeMap (h : H) : Option (Value × H) := some (.map (some h.next), h.allocF (.map []))

noncomputable def H.mapAtF (h : H) : Value → Option (List (Value × Value))
  | .map none => some []
  | .map (some b) => match h.getF b with
    | some (.map es) => some es
    | _ => none
  | _ => none

theorem mapAtF_eq (h : H) (v : Value) : h.mapAtF v = h.mapAt v := by
  unfold H.mapAtF H.mapAt; simp only [getF_eq]; rfl

noncomputable def x_lookup (P : Program) (en : Operand → Value) (h : H) (kt : TypeId) (zero : Value) (ok : Bool) (m k : Operand) : Option (Value × H) :=
   match h.mapAtF (en m) with
    | some es => (lookA P kt zero (en k) es).map fun x => (if ok then .tuple #[x.1, .bool x.2] else x.1, h)
    | none => none

noncomputable def x_mapUpdate (P : Program) (en : Operand → Value) (h : H) (kt : TypeId) (m k v : Operand) : Option (Value × H) :=
   match en m with
    | .map (some b) => match h.getF b with
      | some (.map es) => (putA P kt (en k) (en v) es).map fun es' => (undef, h.setF b (.map es'))
      | _ => none
    | _ => none

noncomputable def x_slice3 (en : Operand → Value) (h : H) (size : Nat) (x : Operand) (lo hi : Option Operand) (mx : Operand) : Option (Value × H) :=
   match en x with
    | .slice (some a) len _ => match boundF en 0 lo, boundF en len hi, boundF en len (some mx) with
      | some l, some u, some m =>
        if l ≤ u ∧ u ≤ m ∧ m ≤ len ∧ a.spot = none then
          some (.slice (some (if m = l then a else ⟨a.block, a.off + l * size, none⟩)) (u - l) (2 * (m - l) + 1), h)
        else none
      | _, _, _ => none
    | _ => none

noncomputable def x_sliceArr (en : Operand → Value) (h : H) (len size : Nat) (x : Operand) (lo hi : Option Operand) : Option (Value × H) :=
   match en x with
    | .pointer (some a) => match boundF en 0 lo, boundF en len hi with
      | some l, some u =>
        if l ≤ u ∧ u ≤ len ∧ a.spot = none then
          some (.slice (some (if len = l then a else ⟨a.block, a.off + l * size, none⟩)) (u - l) (2 * (len - l) + 1), h)
        else none
      | _, _ => none
    | _ => none

noncomputable def x_idxVal (en : Operand → Value) (h : H) (n len : Nat) (x i : Operand) : Option (Value × H) :=
   match en x, en i with
    | .agg cs, .int _ j => if 0 ≤ j ∧ j < (len : Int) ∧ j.toNat * n + n ≤ cs.toList.length then some (.agg ((cs.toList.drop (j.toNat * n)).take n).toArray, h) else none
    | _, _ => none

noncomputable def x_assert (en : Operand → Value) (h : H) (ty : TypeId) (ok : Bool) (zero : Value) (x : Operand) : Option (Value × H) := (assertA ty ok zero (en x)).map fun v => (v, h)

noncomputable def x_rangeStr (en : Operand → Value) (h : H) (x : Operand) : Option (Value × H) :=
   match en x with
    | .string s => some (.pointer (some ⟨h.next, 0, none⟩), h.allocF (.iter s 0))
    | _ => none

noncomputable def x_nextStr (en : Operand → Value) (h : H) (x : Operand) : Option (Value × H) :=
   match en x with
    | .pointer (some ⟨b, 0, none⟩) => match h.getF b with
      | some (.iter s pos) =>
        if pos < s.size then some (.tuple #[.bool true, .int .i64 pos, .int .i32 (Utf8.decode s pos).1], h.setF b (.iter s (pos + (Utf8.decode s pos).2)))
        else some (.tuple #[.bool false], h)
      | _ => none
    | _ => none

/-- An operation that calls nothing, made ready. -/
structure PClo where
  run : (Operand → Value) → H → Option (Value × H)

noncomputable def cloP (P : Program) (op : AOp) : PClo :=
  match op with
  | .move a0 => ⟨fun en h => x_move en h a0⟩
  | .pick a0 a1 a2 => ⟨fun en h => x_pick en h a0 a1 a2⟩
  | .alloc a0 a1 => ⟨fun _ h => x_alloc h a0 a1⟩
  | .box a0 a1 a2 => ⟨fun en h => x_box en h a0 a1 a2⟩
  | .build a0 a1 => ⟨fun en h => x_build en h a0 a1⟩
  | .buildSlice a0 a1 a2 a3 a4 => ⟨fun en h => x_buildSlice en h a0 a1 a2 a3 a4⟩
  | .load a0 a1 a2 => ⟨fun en h => x_load en h a0 a1 a2⟩
  | .store a0 a1 a2 => ⟨fun en h => x_store en h a0 a1 a2⟩
  | .nilCheck a0 => ⟨fun en h => x_nilCheck en h a0⟩
  | .ibin a0 a1 a2 => ⟨fun en h => x_ibin en h a0 a1 a2⟩
  | .gen a0 => ⟨fun en h => x_gen P en h a0⟩
  | .fieldAddr a0 a1 => ⟨fun en h => x_fieldAddr en h a0 a1⟩
  | .field a0 a1 a2 a3 => ⟨fun en h => x_field en h a0 a1 a2 a3⟩
  | .idxSl a0 a1 a2 => ⟨fun en h => x_idxSl en h a0 a1 a2⟩
  | .idxArr a0 a1 a2 a3 => ⟨fun en h => x_idxArr en h a0 a1 a2 a3⟩
  | .sliceSl a0 a1 a2 a3 => ⟨fun en h => x_sliceSl en h a0 a1 a2 a3⟩
  | .mkFunc a0 a1 a2 => ⟨fun en h => x_mkFunc en h a0 a1 a2⟩
  | .mkIface a0 a1 => ⟨fun en h => x_mkIface en h a0 a1⟩
  | .extract a0 a1 => ⟨fun en h => x_extract en h a0 a1⟩
  | .lenSl a0 => ⟨fun en h => x_lenSl en h a0⟩
  | .capNil a0 => ⟨fun en h => x_capNil en h a0⟩
  | .eqNil a0 a1 a2 a3 => ⟨fun en h => x_eqNil en h a0 a1 a2 a3⟩
  | .append a0 a1 a2 a3 a4 => ⟨fun en h => x_append en h a0 a1 a2 a3 a4⟩
  | .makeSlice a0 a1 a2 a3 a4 => ⟨fun en h => x_makeSlice en h a0 a1 a2 a3 a4⟩
  | .strBytes a0 a1 => ⟨fun en h => x_strBytes en h a0 a1⟩
  | .bytesStr a0 => ⟨fun en h => x_bytesStr en h a0⟩
  | .toRo a0 => ⟨fun en h => x_toRo en h a0⟩
  | .ptrUnsafe a0 => ⟨fun en h => x_ptrUnsafe en h a0⟩
  | .unsafePtr a0 a1 => ⟨fun en h => x_unsafePtr P en h a0 a1⟩
  | .sliceData a0 => ⟨fun en h => x_sliceData en h a0⟩
  | .uString a0 a1 a2 => ⟨fun en h => x_uString en h a0 a1 a2⟩
  | .copyNone a0 a1 => ⟨fun en h => x_copyNone en h a0 a1⟩
  | .noEscape a0 => ⟨fun en h => x_noEscape en h a0⟩
  | .indexByte a0 a1 => ⟨fun en h => x_indexByte en h a0 a1⟩
  | .makeNoZero a0 a1 => ⟨fun en h => x_makeNoZero en h a0 a1⟩
  | .makeMap => ⟨fun _ h => x_makeMap h⟩
  | .lookup a0 a1 a2 a3 a4 => ⟨fun en h => x_lookup P en h a0 a1 a2 a3 a4⟩
  | .mapUpdate a0 a1 a2 a3 => ⟨fun en h => x_mapUpdate P en h a0 a1 a2 a3⟩
  | .slice3 a0 a1 a2 a3 a4 => ⟨fun en h => x_slice3 en h a0 a1 a2 a3 a4⟩
  | .sliceArr a0 a1 a2 a3 a4 => ⟨fun en h => x_sliceArr en h a0 a1 a2 a3 a4⟩
  | .idxVal a0 a1 a2 a3 => ⟨fun en h => x_idxVal en h a0 a1 a2 a3⟩
  | .assert a0 a1 a2 a3 => ⟨fun en h => x_assert en h a0 a1 a2 a3⟩
  | .rangeStr a0 => ⟨fun en h => x_rangeStr en h a0⟩
  | .nextStr a0 => ⟨fun en h => x_nextStr en h a0⟩
  | .call _ _ => ⟨fun _ _ => none⟩
  | .callP _ _ => ⟨fun _ _ => none⟩
  | .defer _ _ => ⟨fun _ _ => none⟩
  | .recover => ⟨fun _ _ => none⟩
  | .panic _ => ⟨fun _ _ => none⟩

theorem cloP_eq (P : Program) (op : AOp) (ts : List Value) (h : H) : (cloP P op).run (aev ts) h = aexec P ts h op := by
  cases op <;> simp only [cloP, aexec, x_move, x_pick, x_alloc, x_box, x_build, x_buildSlice, x_load, x_store, x_nilCheck, x_ibin, x_gen, x_fieldAddr, x_field, x_idxSl, x_idxArr, x_sliceSl, x_mkFunc, x_mkIface, x_extract, x_lenSl, x_capNil, x_eqNil, x_append, x_makeSlice, x_strBytes, x_bytesStr, x_toRo, x_ptrUnsafe, x_unsafePtr, x_sliceData, x_uString, x_copyNone, x_noEscape, x_indexByte, x_makeNoZero, x_makeMap, x_lookup, x_mapUpdate, x_slice3, x_sliceArr, x_rangeStr, x_nextStr, x_idxVal, x_assert, mapAtF_eq, getF_eq, setF_eq, allocF_eq, cellsF_eq, partsOkF_eq, srcCellsF_eq, sliceCellsF_eq, boundF_eq, appendAF_eq]
  all_goals rfl

end Go.Ev
