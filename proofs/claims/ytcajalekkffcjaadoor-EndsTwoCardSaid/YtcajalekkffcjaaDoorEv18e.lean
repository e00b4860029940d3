/- The evaluator over a small code, and that what it finds of a call holds of the machine, part 18e. -/
import Derived.Test.YtcajalekkffcjaaDoorEv18d
namespace Go.Ev
open Go

/-! ### Slots -/
structure TS where
  n : Nat
  t : Trie Value

noncomputable def orU (o : Option Value) : Value := Option.casesOn o undef (fun v => v)
noncomputable def TS.get (k : Nat) (s : TS) : Value := orU (s.t.getF (path k k))
noncomputable def TS.put (v : Value) (k : Nat) (s : TS) : TS := TS.casesOn s (fun n t => Bool.casesOn (Nat.blt k n) ⟨n, t⟩ ⟨n, t.setF v (path k k)⟩)

theorem TS.put_t {v : Value} {k : Nat} {s : TS} (h : Nat.blt k s.n = true) : s.put v k = ⟨s.n, s.t.setF v (path k k)⟩ := by
  obtain ⟨n, t⟩ := s
  simp only [] at h
  simp only [TS.put, h]
theorem TS.put_f {v : Value} {k : Nat} {s : TS} (h : Nat.blt k s.n = false) : s.put v k = s := by
  obtain ⟨n, t⟩ := s
  simp only [] at h
  simp only [TS.put, h]

def Sl (s : TS) (ts : List Value) : Prop := s.n = ts.length ∧ ∀ k, s.get k = ts.getD k undef

theorem TS.get_put {v : Value} {k j : Nat} {s : TS} (h : k < s.n) : (s.put v k).get j = if j = k then v else s.get j := by
  have hb : Nat.blt k s.n = true := by simpa [Nat.blt_eq] using h
  have e : s.put v k = ⟨s.n, s.t.setF v (path k k)⟩ := TS.put_t hb
  rw [e]
  unfold TS.get
  simp only [Trie.getF_eq, Trie.setF_eq]
  by_cases hj : j = k
  · subst hj
    rw [Trie.get_set_same, if_pos rfl]; rfl
  · rw [if_neg hj, Trie.get_set_ne _ _ _ _ (fun e => hj (path_inj _ _ e).symm)]

theorem Sl.put {s : TS} {ts : List Value} (h : Sl s ts) (k : Nat) (v : Value) : Sl (s.put v k) (ts.set k v) := by
  by_cases hk : k < s.n
  · have hb : Nat.blt k s.n = true := by simpa [Nat.blt_eq] using hk
    refine ⟨?_, fun j => ?_⟩
    · have e : s.put v k = ⟨s.n, s.t.setF v (path k k)⟩ := TS.put_t hb
      rw [e, List.length_set]; exact h.1
    · rw [TS.get_put hk, h.2 j]
      have hk' : k < ts.length := by rw [← h.1]; exact hk
      simp only [List.getD_eq_getElem?_getD, List.getElem?_set]
      by_cases hj : j = k
      · subst hj; simp [hk']
      · rw [if_neg hj, if_neg (fun e => hj e.symm)]
  · have hb : Nat.blt k s.n = false := by
      cases hh : Nat.blt k s.n with
      | false => rfl
      | true => exact absurd (by simpa [Nat.blt_eq] using hh) hk
    have e : s.put v k = s := TS.put_f hb
    rw [e, List.set_eq_of_length_le (by rw [← h.1]; omega)]
    exact h

structure VCloT where
  run : TS → Value

noncomputable def cloVT (x : Operand) : VCloT := Operand.casesOn x (fun t => ⟨fun s => s.get t⟩) (fun v => ⟨fun _ => v⟩) (fun g => ⟨fun _ => .pointer (some ⟨g, 0, none⟩)⟩) (fun f => ⟨fun _ => .func (.func f) #[] #[]⟩)
noncomputable def avT (s : TS) (x : Operand) : Value := (cloVT x).run s

theorem avT_eq {s : TS} {ts : List Value} (h : Sl s ts) : avT s = aev ts := by
  funext x
  cases x with
  | tmp t => exact h.2 t
  | _ => rfl

noncomputable def putT (dst : Option Tmp) (v : Value) (s : TS) : TS := Option.casesOn dst s (fun d => s.put v d)
theorem Sl.putT {s : TS} {ts : List Value} (h : Sl s ts) (dst : Option Tmp) (v : Value) : Sl (putT dst v s) (putL dst v ts) := by
  cases dst with
  | none => exact h
  | some d => exact h.put d v

/-- A list laid into the slots from k on. -/
noncomputable def layT (l : List Value) : Nat → TS → TS := List.rec (fun _ s => s) (fun v _ ih k s => ih (k + 1) (s.put v k)) l

theorem layT_get : ∀ (l : List Value) (k : Nat) (s : TS), k + l.length ≤ s.n → (layT l k s).n = s.n ∧ ∀ j, (layT l k s).get j = if k ≤ j ∧ j < k + l.length then l.getD (j - k) undef else s.get j
  | [], k, s, _ => ⟨rfl, fun j => by
      show s.get j = _
      rw [if_neg (by simp only [List.length_nil]; omega)]⟩
  | v :: l, k, s, h => by
    simp only [List.length_cons] at h
    have hk : k < s.n := by omega
    have hb : Nat.blt k s.n = true := by simpa [Nat.blt_eq] using hk
    have en : (s.put v k).n = s.n := by rw [TS.put_t hb]
    have ih := layT_get l (k + 1) (s.put v k) (by rw [en]; omega)
    refine ⟨ih.1.trans en, fun j => ?_⟩
    show (layT l (k + 1) (s.put v k)).get j = _
    rw [ih.2 j, TS.get_put hk]
    by_cases hj : j = k
    · subst hj
      rw [if_neg (by omega), if_pos rfl, if_pos ⟨Nat.le_refl _, by simp⟩, Nat.sub_self]
      rfl
    · by_cases hj2 : k + 1 ≤ j ∧ j < k + 1 + l.length
      · rw [if_pos hj2, if_pos (by simp; omega)]
        obtain ⟨i, rfl⟩ : ∃ i, j = k + 1 + i := ⟨j - (k + 1), by omega⟩
        rw [show k + 1 + i - (k + 1) = i by omega, show k + 1 + i - k = i + 1 by omega]
        simp
      · rw [if_neg hj2, if_neg hj, if_neg (by simp; omega)]

noncomputable def emptyT (n : Nat) : TS := ⟨n, .leaf⟩
theorem emptyT_get (n k : Nat) : (emptyT n).get k = undef := by
  unfold TS.get emptyT
  simp only [Trie.getF_eq, Trie.get_leaf]; rfl

noncomputable def ofL (l : List Value) (n : Nat) : TS := layT l 0 (emptyT n)
theorem ofL_ok (l : List Value) (m : Nat) : Sl (ofL l (l.length + m)) (l ++ List.replicate m undef) := by
  have h := layT_get l 0 (emptyT (l.length + m)) (by show 0 + l.length ≤ l.length + m; omega)
  refine ⟨by show (layT l 0 _).n = _; rw [h.1]; simp [emptyT], fun k => ?_⟩
  show (layT l 0 _).get k = _
  rw [h.2 k, emptyT_get, Nat.sub_zero]
  simp only [List.getD_eq_getElem?_getD]
  by_cases hk : k < l.length
  · rw [if_pos (by omega), List.getElem?_append_left hk]
  · rw [if_neg (by omega), List.getElem?_append_right (by omega)]
    by_cases hk2 : k - l.length < m
    · simp [hk2]
    · rw [List.getElem?_eq_none (by simp; omega)]; rfl

noncomputable def toL (s : TS) : List Value := Nat.rec (fun _ => []) (fun _ ih k => s.get k :: ih (k + 1)) s.n 0
theorem toL_ok {s : TS} {ts : List Value} (h : Sl s ts) : toL s = ts := by
  have key : ∀ (n k : Nat), (Nat.rec (motive := fun _ => Nat → List Value) (fun _ => []) (fun _ ih k => s.get k :: ih (k + 1)) n k : List Value) = (List.range' k n).map (fun k => s.get k) := by
    intro n
    induction n with
    | zero => intro k; rfl
    | succ n ih => intro k; rw [List.range'_succ, List.map_cons, ← ih]
  unfold toL
  rw [key, h.1]
  apply List.ext_getElem?
  intro i
  rw [List.getElem?_map]
  by_cases hi : i < ts.length
  · rw [List.getElem?_range' (by omega)]
    simp [h.2, hi]
  · rw [List.getElem?_eq_none (by simp; omega), List.getElem?_eq_none (by omega)]; rfl

/-! ### Activations, operations -/
structure AActT where
  tmps : TS
  defers : List ADef
  rc : RC
  round : Bool

structure Ra (a : AActT) (b : AAct) : Prop where
  tmps : Sl a.tmps b.tmps
  defers : a.defers = b.defers
  rc : a.rc = b.rc
  round : a.round = b.round

noncomputable def AActT.put (a : AActT) (dst : Option Tmp) (v : Value) : AActT := AActT.casesOn a (fun t d r o => ⟨putT dst v t, d, r, o⟩)
theorem Ra.put {a : AActT} {b : AAct} (h : Ra a b) (dst : Option Tmp) (v : Value) : Ra (a.put dst v) (b.put dst v) := ⟨h.tmps.putT dst v, h.defers, h.rc, h.round⟩

structure RecT where
  call : Value → List Value → RC → H → Option (ARes × RC × H)
  loop : AC → AActT → H → Option (AExit × AActT × H)

inductive Ro : Option (AExit × AActT × H) → Option (AExit × AAct × H) → Prop where
  | none : Ro none none
  | some (x : AExit) (a : AActT) (b : AAct) (h : H) (r : Ra a b) : Ro (some (x, a, h)) (some (x, b, h))

structure Rr (r : RecT) (s : Rec) : Prop where
  call : r.call = s.call
  loop : ∀ c a b h, Ra a b → Ro (r.loop c a h) (s.loop c b h)

inductive StepT where
  | on (a : AActT) (h : H)
  | panic (v : Value) (a : AActT) (h : H)

inductive Rs : Option StepT → Option Step → Prop where
  | none : Rs none none
  | on (a : AActT) (b : AAct) (h : H) (r : Ra a b) : Rs (some (.on a h)) (some (.on b h))
  | panic (v : Value) (a : AActT) (b : AAct) (h : H) (r : Ra a b) : Rs (some (.panic v a h)) (some (.panic v b h))

structure OCloT where
  run : RecT → AActT → H → Option StepT

noncomputable def opCallT (r : Option (ARes × RC × H)) (dst : Option Tmp) (a : AActT) : Option StepT :=
  match r with
  | some (.ret v, _, h') => some (.on (a.put dst v) h')
  | some (.panic v, _, h') => some (.panic v a h')
  | none => none

noncomputable def opPlainT (r : Option (Value × H)) (dst : Option Tmp) (a : AActT) : Option StepT :=
  match r with
  | some (v, h') => some (.on (a.put dst v) h')
  | none => none

noncomputable def opDeferT (f : Operand) (args : List Operand) (dst : Option Tmp) (a : AActT) (h : H) : Option StepT :=
  match a.round, avT a.tmps f with
  | false, .func (.func g) x y => some (.on (AActT.put ⟨a.tmps, .call (.func (.func g) x y) (args.map (avT a.tmps)) :: a.defers, a.rc, a.round⟩ dst undef) h)
  | _, _ => none

noncomputable def opRecoverT (dst : Option Tmp) (a : AActT) (h : H) : Option StepT :=
  match a.rc with
  | .calm => some (.on (a.put dst .nilIface) h)
  | .pan v => some (.on (AActT.put ⟨a.tmps, a.defers, .done v, a.round⟩ dst v) h)
  | _ => none

noncomputable def opPanicT (x : Operand) (a : AActT) (h : H) : Option StepT :=
  match avT a.tmps x with
  | .iface t v => some (.panic (.iface t v) a h)
  | _ => none

noncomputable def cloOT (P : Program) (dst : Option Tmp) (op : AOp) : OCloT :=
  match op with
  | .call f args => ⟨fun rec a h => opCallT (rec.call (avT a.tmps f) (args.map (avT a.tmps)) .unk h) dst a⟩
  | .callP f args => ⟨fun rec a h => opCallT (rec.call (avT a.tmps f) (args.map (avT a.tmps)) .unk h) dst a⟩
  | .defer f args => ⟨fun _ a h => opDeferT f args dst a h⟩
  | .recover => ⟨fun _ a h => opRecoverT dst a h⟩
  | .panic x => ⟨fun _ a h => opPanicT x a h⟩
  | op => ⟨fun _ a h => opPlainT ((cloP P op).run (avT a.tmps) h) dst a⟩

theorem opPlainT_ok {r : Option (Value × H)} {dst : Option Tmp} {a : AActT} {b : AAct} (ha : Ra a b) :
    Rs (opPlainT r dst a) (match r with | some (v, h') => some (.on (b.put dst v) h') | none => none) := by
  cases r with
  | none => exact .none
  | some x => exact .on _ _ _ (ha.put _ _)

theorem cloOT_ok {P : Program} {r : RecT} {s : Rec} (hr : Rr r s) {dst : Option Tmp} {op : AOp} {a : AActT} {b : AAct} {h : H} (ha : Ra a b) :
    Rs ((cloOT P dst op).run r a h) (evOp P s { dst, guard := none, op } b h) := by
  have he := avT_eq ha.tmps
  cases op with
  | call f args =>
    show Rs (opCallT (r.call (avT a.tmps f) (args.map (avT a.tmps)) .unk h) dst a) _
    rw [he, hr.call]
    simp only [evOp, wantedA, if_true]
    cases s.call (aev b.tmps f) (args.map (aev b.tmps)) .unk h with
    | none => exact .none
    | some x =>
      obtain ⟨res, rc, h'⟩ := x
      cases res with
      | ret v => exact .on _ _ _ (ha.put _ _)
      | panic v => exact .panic _ _ _ _ ha
  | callP f args =>
    show Rs (opCallT (r.call (avT a.tmps f) (args.map (avT a.tmps)) .unk h) dst a) _
    rw [he, hr.call]
    simp only [evOp, wantedA, if_true]
    cases s.call (aev b.tmps f) (args.map (aev b.tmps)) .unk h with
    | none => exact .none
    | some x =>
      obtain ⟨res, rc, h'⟩ := x
      cases res with
      | ret v => exact .on _ _ _ (ha.put _ _)
      | panic v => exact .panic _ _ _ _ ha
  | defer f args =>
    show Rs (opDeferT f args dst a h) _
    simp only [evOp, wantedA, if_true, opDeferT, he, ha.round]
    cases b.round with
    | true => exact .none
    | false =>
      cases aev b.tmps f with
      | func fn x y =>
        cases fn with
        | func g =>
          refine .on _ _ _ ?_
          apply Ra.put
          exact ⟨ha.tmps, by simp only [ha.defers], ha.rc, rfl⟩
        | _ => exact .none
      | _ => exact .none
  | recover =>
    show Rs (opRecoverT dst a h) _
    simp only [evOp, wantedA, if_true, opRecoverT, ha.rc]
    cases b.rc with
    | calm => exact .on _ _ _ (ha.put _ _)
    | pan v =>
      refine .on _ _ _ ?_
      apply Ra.put
      exact ⟨ha.tmps, ha.defers, rfl, ha.round⟩
    | unk => exact .none
    | done v => exact .none
  | panic x =>
    show Rs (opPanicT x a h) _
    simp only [evOp, wantedA, if_true, opPanicT, he]
    cases aev b.tmps x with
    | iface t v => exact .panic _ _ _ _ ha
    | _ => exact .none
  | _ =>
    simp only [cloOT, he, cloP_eq, evOp, wantedA, if_true]
    exact opPlainT_ok ha

noncomputable def opGT (c : Bool) (o : OCloT) (dst : Option Tmp) (rec : RecT) (a : AActT) (h : H) : Option StepT :=
  match c with
  | true => o.run rec a h
  | false => some (.on (a.put dst undef) h)

noncomputable def cloAOT (P : Program) (o : AO) : OCloT :=
  match o with
  | ⟨dst, none, op⟩ => cloOT P dst op
  | ⟨dst, some (t, b), op⟩ => ⟨fun rec a h => opGT (isB (a.tmps.get t) b) (cloOT P dst op) dst rec a h⟩

theorem cloAOT_ok {P : Program} {r : RecT} {s : Rec} (hr : Rr r s) {o : AO} {a : AActT} {b : AAct} {h : H} (ha : Ra a b) :
    Rs ((cloAOT P o).run r a h) (evOp P s o b h) := by
  obtain ⟨dst, g, op⟩ := o
  cases g with
  | none => exact cloOT_ok hr ha
  | some x =>
    obtain ⟨t, c⟩ := x
    show Rs (opGT (isB (a.tmps.get t) c) (cloOT P dst op) dst r a h) _
    rw [ha.tmps.2 t, ← getN_eq, ← wantedA_isB]
    have h1 := cloOT_ok (P := P) hr (dst := dst) (op := op) (h := h) ha
    unfold evOp at h1 ⊢
    simp only [wantedA, if_true] at h1
    cases hw : wantedA (some (t, c)) b.tmps with
    | true => simp only [opGT, if_true]; exact h1
    | false => simp only [opGT, Bool.false_eq_true, if_false]; exact .on _ _ _ (ha.put _ _)

structure CCloT where
  run : RecT → AActT → H → Option (AExit × AActT × H)

noncomputable def opsKT (s : Option StepT) (r : CCloT) (rec : RecT) : Option (AExit × AActT × H) :=
  match s with
  | some (.on a' h') => r.run rec a' h'
  | some (.panic v a' h') => some (.panic v, a', h')
  | none => none

noncomputable def cloOpsT (P : Program) (l : List AO) : CCloT := List.rec ⟨fun _ a h => some (.normal, a, h)⟩ (fun o _ ih => ⟨fun rec a h => opsKT ((cloAOT P o).run rec a h) ih rec⟩) l

theorem cloOpsT_ok {P : Program} {r : RecT} {s : Rec} (hr : Rr r s) : ∀ {l : List AO} {a : AActT} {b : AAct} {h : H}, Ra a b → Ro ((cloOpsT P l).run r a h) (evOps P s l b h)
  | [], _, _, _, ha => .some _ _ _ _ ha
  | o :: l, a, b, h, ha => by
    show Ro (opsKT ((cloAOT P o).run r a h) (cloOpsT P l) r) _
    have h1 := cloAOT_ok (P := P) hr (o := o) (h := h) ha
    simp only [evOps, opsKT]
    generalize (cloAOT P o).run r a h = x at h1
    generalize evOp P s o b h = y at h1
    cases h1 with
    | none => exact .none
    | on a' b' h' r' => exact cloOpsT_ok hr r'
    | panic v a' b' h' r' => exact .some _ _ _ _ r'

/-! ### Regions that draw -/
noncomputable def runV (P : Program) (s : Rec) : List AO → List Value → H → Option (List Value × H)
  | [], ts, h => some (ts, h)
  | o :: r, ts, h => match opV P s o ts h with
    | some (v, h') => runV P s r (putL o.dst v ts) h'
    | none => none

theorem trace_last {P : Program} {s : Rec} : ∀ {l : List AO} {ts : List Value} {h : H},
    (match trace P s l ts h with | some G => G[l.length]? | none => none) = runV P s l ts h
  | [], ts, h => rfl
  | o :: r, ts, h => by
    simp only [trace, runV]
    cases opV P s o ts h with
    | none => rfl
    | some x =>
      obtain ⟨v, h'⟩ := x
      have ih := @trace_last P s r (putL o.dst v ts) h'
      simp only []
      rw [← ih]
      cases trace P s r (putL o.dst v ts) h' with
      | none => rfl
      | some G => simp

structure VCloD where
  run : RecT → TS → H → Option (Value × H)

noncomputable def cloVOT (P : Program) (op : AOp) : VCloD :=
  match op with
  | .call f args => ⟨fun rec ts h => vCall (rec.call (avT ts f) (args.map (avT ts)) .unk h)⟩
  | .callP f args => ⟨fun rec ts h => vCall (rec.call (avT ts f) (args.map (avT ts)) .unk h)⟩
  | op => ⟨fun _ ts h => (cloP P op).run (avT ts) h⟩

noncomputable def vGT (c : Bool) (o : VCloD) (rec : RecT) (ts : TS) (h : H) : Option (Value × H) :=
  match c with
  | true => o.run rec ts h
  | false => some (undef, h)

noncomputable def cloVAT (P : Program) (o : AO) : VCloD :=
  match o with
  | ⟨_, none, op⟩ => cloVOT P op
  | ⟨_, some (t, b), op⟩ => ⟨fun rec ts h => vGT (isB (ts.get t) b) (cloVOT P op) rec ts h⟩

theorem cloVOT_eq {P : Program} {r : RecT} {s : Rec} (hr : Rr r s) {dst : Option Tmp} {op : AOp} {t : TS} {ts : List Value} {h : H} (ht : Sl t ts) : (cloVOT P op).run r t h = opV P s { dst, guard := none, op } ts h := by
  have he := avT_eq ht
  cases op with
  | call f args =>
    show vCall (r.call (avT t f) (args.map (avT t)) .unk h) = _
    rw [he, hr.call]; rfl
  | callP f args =>
    show vCall (r.call (avT t f) (args.map (avT t)) .unk h) = _
    rw [he, hr.call]; rfl
  | _ =>
    simp only [cloVOT, he, cloP_eq, opV, wantedA, if_true]

theorem cloVAT_eq {P : Program} {r : RecT} {s : Rec} (hr : Rr r s) {o : AO} {t : TS} {ts : List Value} {h : H} (ht : Sl t ts) : (cloVAT P o).run r t h = opV P s o ts h := by
  obtain ⟨dst, g, op⟩ := o
  cases g with
  | none => exact cloVOT_eq hr ht
  | some x =>
    obtain ⟨k, c⟩ := x
    show vGT (isB (t.get k) c) (cloVOT P op) r t h = _
    rw [ht.2 k, ← getN_eq, ← wantedA_isB]
    have h1 := cloVOT_eq (P := P) hr (dst := dst) (op := op) (h := h) ht
    unfold opV at h1 ⊢
    simp only [wantedA, if_true] at h1
    cases hw : wantedA (some (k, c)) ts with
    | true => simp only [vGT, if_true]; exact h1
    | false => simp only [vGT, Bool.false_eq_true, if_false]

structure DClo where
  run : RecT → TS → H → Option (TS × H)

noncomputable def dK (x : Option (Value × H)) (dst : Option Tmp) (k : DClo) (rec : RecT) (ts : TS) : Option (TS × H) :=
  match x with
  | some (v, h') => k.run rec (putT dst v ts) h'
  | none => none

noncomputable def cloD (P : Program) (l : List AO) : DClo := List.rec ⟨fun _ ts h => some (ts, h)⟩ (fun o _ ih => ⟨fun rec ts h => dK ((cloVAT P o).run rec ts h) o.dst ih rec ts⟩) l

inductive Rd : Option (TS × H) → Option (List Value × H) → Prop where
  | none : Rd none none
  | some (t : TS) (ts : List Value) (h : H) (r : Sl t ts) : Rd (some (t, h)) (some (ts, h))

theorem cloD_ok {P : Program} {r : RecT} {s : Rec} (hr : Rr r s) : ∀ {l : List AO} {t : TS} {ts : List Value} {h : H}, Sl t ts → Rd ((cloD P l).run r t h) (runV P s l ts h)
  | [], _, _, _, ht => .some _ _ _ ht
  | o :: l, t, ts, h, ht => by
    show Rd (dK ((cloVAT P o).run r t h) o.dst (cloD P l) r t) _
    rw [cloVAT_eq hr ht]
    simp only [runV, dK]
    cases opV P s o ts h with
    | none => exact .none
    | some x => exact cloD_ok hr (ht.putT _ _)

noncomputable def toA (a : AActT) : AAct := ⟨toL a.tmps, a.defers, a.rc, a.round⟩
theorem toA_ok {a : AActT} {b : AAct} (h : Ra a b) : toA a = b := by
  obtain ⟨ts, ds, rc, ro⟩ := b
  simp only [toA, toL_ok h.tmps, h.defers, h.rc, h.round]

noncomputable def ofA (b : AAct) : AActT := ⟨ofL b.tmps (b.tmps.length + 0), b.defers, b.rc, b.round⟩
theorem ofA_ok (b : AAct) : Ra (ofA b) b := ⟨by
  have h := ofL_ok b.tmps 0
  rw [List.replicate_zero, List.append_nil] at h
  exact h, rfl, rfl, rfl⟩

noncomputable def ofR (r : Option (AExit × AAct × H)) : Option (AExit × AActT × H) :=
  match r with
  | some (x, b, h) => some (x, ofA b, h)
  | none => none
theorem ofR_ok (r : Option (AExit × AAct × H)) : Ro (ofR r) r := by
  cases r with
  | none => exact .none
  | some x => exact .some _ _ _ _ (ofA_ok _)

/-- The calls alone. -/
noncomputable def RecT.flat (r : RecT) : Rec := ⟨r.call, fun _ _ _ => none⟩

noncomputable def dK2 (x : Option (TS × H)) (a : AActT) : Option (AExit × AActT × H) :=
  match x with
  | some (ts, h') => some (.normal, AActT.casesOn a (fun _ d r o => ⟨ts, d, r, o⟩), h')
  | none => none

/-! A region's states with the slots in trees -/
inductive RG : List (TS × H) → List (List Value × H) → Prop where
  | nil : RG [] []
  | cons (t : TS) (ts : List Value) (h : H) (G : List (TS × H)) (K : List (List Value × H)) (r : Sl t ts) (g : RG G K) : RG ((t, h) :: G) ((ts, h) :: K)

inductive RGo : Option (List (TS × H)) → Option (List (List Value × H)) → Prop where
  | none : RGo none none
  | some (G : List (TS × H)) (K : List (List Value × H)) (g : RG G K) : RGo (some G) (some K)

theorem RG.get {G : List (TS × H)} {K : List (List Value × H)} (h : RG G K) : ∀ i : Nat, Rd G[i]? K[i]? := by
  induction h with
  | nil => intro i; exact .none
  | cons t ts h G K r g ih =>
    intro i
    cases i with
    | zero => exact .some _ _ _ r
    | succ i => simpa using ih i

structure TCloT where
  run : RecT → TS → H → Option (List (TS × H))

noncomputable def consO (x : TS × H) (o : Option (List (TS × H))) : Option (List (TS × H)) := Option.casesOn o none (fun G => some (x :: G))

noncomputable def trKT (r : Option (Value × H)) (dst : Option Tmp) (k : TCloT) (rec : RecT) (ts : TS) (h : H) : Option (List (TS × H)) :=
  match r with
  | some (v, h') => consO (ts, h) (k.run rec (putT dst v ts) h')
  | none => none

noncomputable def cloTrT (P : Program) (l : List AO) : TCloT := List.rec ⟨fun _ ts h => some [(ts, h)]⟩ (fun o _ ih => ⟨fun rec ts h => trKT ((cloVAT P o).run rec ts h) o.dst ih rec ts h⟩) l

theorem cloTrT_ok {P : Program} {r : RecT} {s : Rec} (hr : Rr r s) : ∀ {l : List AO} {t : TS} {ts : List Value} {h : H}, Sl t ts → RGo ((cloTrT P l).run r t h) (trace P s l ts h)
  | [], _, _, _, ht => .some _ _ (.cons _ _ _ _ _ ht .nil)
  | o :: l, t, ts, h, ht => by
    show RGo (trKT ((cloVAT P o).run r t h) o.dst (cloTrT P l) r t h) _
    rw [cloVAT_eq hr ht]
    simp only [trace, trKT]
    cases opV P s o ts h with
    | none => exact .none
    | some x =>
      obtain ⟨v, h'⟩ := x
      have ih := cloTrT_ok (P := P) hr (l := l) (h := h') (ht.putT o.dst v)
      simp only []
      generalize (cloTrT P l).run r (putT o.dst v t) h' = y at ih
      generalize trace P s l (putL o.dst v ts) h' = z at ih
      cases ih with
      | none => exact .none
      | some G K g => exact .some _ _ (.cons _ _ _ _ _ ht g)

noncomputable def sameCellsF (h h' : H) (p : Addr) (n : Nat) : Bool :=
  match h.cellsF p n, h'.cellsF p n with
  | some x, some y => eqVs x y
  | _, _ => false

noncomputable def wantedT (g : Option (Tmp × Bool)) (t : TS) : Bool :=
  match g with
  | none => true
  | some (k, b) => isB (t.get k) b

theorem wantedT_eq {g : Option (Tmp × Bool)} {t : TS} {ts : List Value} (ht : Sl t ts) : wantedT g t = wantedA g ts := by
  cases g with
  | none => rfl
  | some x =>
    obtain ⟨k, b⟩ := x
    show isB (t.get k) b = _
    rw [wantedA_isB, ht.2 k, getN_eq]

noncomputable def checkLd (o : AO) (ts : TS) (h h' : H) : Bool :=
  match wantedT o.guard ts with
  | false => true
  | true => match o.op with
    | .load _ n x => (match avT ts x with | .pointer (some p) => sameCellsF h h' p n | _ => false)
    | _ => false

noncomputable def checkGT (ops : List AO) (G : List (TS × H)) (c : Nat × Nat) : Bool :=
  match ops[c.1]?, G[c.1]?, G[c.2]? with
  | some o, some (ts, h), some (_, h') => checkLd o ts h h'
  | _, _, _ => false

theorem checkGT_eq {ops : List AO} {G : List (TS × H)} {K : List (List Value × H)} (hg : RG G K) (c : Nat × Nat) : checkGT ops G c = checkG ops K c := by
  unfold checkGT checkG
  have h1 := hg.get c.1
  have h2 := hg.get c.2
  generalize G[c.1]? = x at h1
  generalize K[c.1]? = y at h1
  generalize G[c.2]? = u at h2
  generalize K[c.2]? = v at h2
  cases ops[c.1]? with
  | none => rfl
  | some o =>
    cases h1 with
    | none => rfl
    | some t ts h r =>
      cases h2 with
      | none => rfl
      | some t' ts' h' r' =>
        have hsc : ∀ p n, sameCellsF h h' p n = sameCells h h' p n := fun p n => by unfold sameCellsF sameCells; rw [cellsF_eq, cellsF_eq]; rfl
        simp only [checkLd, wantedT_eq r, avT_eq r, hsc]
        cases wantedA o.guard ts with
        | true => rfl
        | false => rfl

noncomputable def cutT (P : Program) (rec : RecT) (ops : List AO) (cuts : Cuts) (a : AActT) (h : H) : Option (AExit × AActT × H) := ofR (cutGo P rec.flat ops (toA a) h cuts)

noncomputable def regKT (P : Program) (rec : RecT) (r : Option (List (TS × H))) (ops : List AO) (checks : List (Nat × Nat)) (cuts : Cuts) (a : AActT) (h : H) : Option (AExit × AActT × H) :=
  match r with
  | some G => (match checks.all (checkGT ops G) with
    | true => dK2 G[ops.length]? a
    | false => none)
  | none => cutT P rec ops cuts a h

noncomputable def dK3 (P : Program) (rec : RecT) (x : Option (TS × H)) (ops : List AO) (cuts : Cuts) (a : AActT) (h : H) : Option (AExit × AActT × H) :=
  match x with
  | some y => dK2 (some y) a
  | none => cutT P rec ops cuts a h

noncomputable def regDT (P : Program) (ops : List AO) (checks : List (Nat × Nat)) (cuts : Cuts) : CCloT :=
  match checks with
  | [] => ⟨fun rec a h => dK3 P rec ((cloD P ops).run rec a.tmps h) ops cuts a h⟩
  | c :: r => ⟨fun rec a h => regKT P rec ((cloTrT P ops).run rec a.tmps h) ops (c :: r) cuts a h⟩

theorem evOp_flat {P : Program} {r : RecT} {s : Rec} (hr : Rr r s) (o : AO) (a : AAct) (h : H) : evOp P r.flat o a h = evOp P s o a h := by
  have : r.flat.call = s.call := hr.call
  unfold evOp
  rw [this]

theorem trace_flat' {P : Program} {r : RecT} {s : Rec} (hr : Rr r s) : ∀ {l : List AO} {ts : List Value} {h : H}, trace P r.flat l ts h = trace P s l ts h
  | [], _, _ => rfl
  | o :: l, ts, h => by
    have e : opV P r.flat o ts h = opV P s o ts h := by
      have : r.flat.call = s.call := hr.call
      unfold opV
      rw [this]
    simp only [trace, e]
    cases opV P s o ts h with
    | none => rfl
    | some x => simp only [trace_flat' hr (l := l)]

theorem cutGo_flat {P : Program} {r : RecT} {s : Rec} (hr : Rr r s) (ops : List AO) (a : AAct) (h : H) : ∀ cuts, cutGo P r.flat ops a h cuts = cutGo P s ops a h cuts
  | [] => rfl
  | c :: cs => by simp only [cutGo, trace_flat' hr, evOp_flat hr, cutGo_flat hr ops a h cs]

theorem cutT_ok {P : Program} {r : RecT} {s : Rec} (hr : Rr r s) {ops : List AO} {cuts : Cuts} {a : AActT} {b : AAct} {h : H} (ha : Ra a b) : Ro (cutT P r ops cuts a h) (cutGo P s ops b h cuts) := by
  unfold cutT
  rw [toA_ok ha, cutGo_flat hr]
  exact ofR_ok _

theorem dK2_ok {a : AActT} {b : AAct} (ha : Ra a b) {x : Option (TS × H)} {y : Option (List Value × H)} :
    Rd x y → Ro (dK2 x a) (match y with | some (ts, h') => some (.normal, { b with tmps := ts }, h') | none => none) := by
  intro h
  cases h with
  | none => exact .none
  | some t ts h' rr => exact .some _ _ _ _ ⟨rr, ha.defers, ha.rc, ha.round⟩

theorem regDT_ok {P : Program} {r : RecT} {s : Rec} (hr : Rr r s) {ops : List AO} {checks : List (Nat × Nat)} {cuts : Cuts} {a : AActT} {b : AAct} {h : H} (ha : Ra a b) :
    Ro ((regDT P ops checks cuts).run r a h) (evRegD P s ops checks cuts b h) := by
  cases checks with
  | nil =>
    show Ro (dK3 P r ((cloD P ops).run r a.tmps h) ops cuts a h) _
    have h1 := cloD_ok (P := P) hr (l := ops) (h := h) ha.tmps
    rw [← trace_last] at h1
    simp only [evRegD, List.all_nil, if_true]
    generalize (cloD P ops).run r a.tmps h = x at h1
    cases htr : trace P s ops b.tmps h with
    | none => rw [htr] at h1; cases h1; exact cutT_ok hr ha
    | some G =>
      rw [htr] at h1
      obtain ⟨vs, _, hgl, _, _⟩ := trace_spec ops b.tmps h G htr
      obtain ⟨y, hy⟩ : ∃ y, G[ops.length]? = some y := ⟨G[ops.length], List.getElem?_eq_getElem (by omega)⟩
      simp only [hy] at h1 ⊢
      cases h1 with
      | some t ts h' rr => exact dK2_ok ha (.some t ts h' rr)
  | cons c l =>
    show Ro (regKT P r ((cloTrT P ops).run r a.tmps h) ops (c :: l) cuts a h) _
    have h1 := cloTrT_ok (P := P) hr (l := ops) (h := h) ha.tmps
    simp only [evRegD]
    generalize (cloTrT P ops).run r a.tmps h = x at h1
    generalize trace P s ops b.tmps h = y at h1
    cases h1 with
    | none => exact cutT_ok hr ha
    | some G K g =>
      have e : (c :: l).all (checkGT ops G) = (c :: l).all (checkG ops K) := by
        congr 1
        funext d
        exact checkGT_eq g d
      simp only [regKT, e]
      cases (c :: l).all (checkG ops K) with
      | true => exact dK2_ok ha (g.get ops.length)
      | false => exact .none

theorem opV_flat {P : Program} {r : RecT} {s : Rec} (hr : Rr r s) (o : AO) (ts : List Value) (h : H) : opV P r.flat o ts h = opV P s o ts h := by
  have : r.flat.call = s.call := hr.call
  unfold opV
  rw [this]

theorem traceL_flat {P : Program} {r : RecT} {s : Rec} (hr : Rr r s) {b : List Nat} {base : Nat} : ∀ {l : List AO} {i : Nat} {t : LS}, traceL P r.flat b base l i t = traceL P s b base l i t
  | [], _, _ => rfl
  | o :: l, i, t => by
    have e : stepL P r.flat b base i o t = stepL P s b base i o t := by
      unfold stepL
      rw [opV_flat hr]
    simp only [traceL, e]
    cases stepL P s b base i o t with
    | none => rfl
    | some x => simp only [traceL_flat hr (l := l)]

theorem evRegL_flat {P : Program} {r : RecT} {s : Rec} (hr : Rr r s) (b : List Nat) (ops : List AO) (checks : List (Nat × Nat)) (a : AAct) (h : H) : evRegL P r.flat b ops checks a h = evRegL P s b ops checks a h := by
  unfold evRegL
  rw [traceL_flat hr]

/-! ### Code -/
noncomputable def seqKT (r : Option (AExit × AActT × H)) (y : CCloT) (rec : RecT) : Option (AExit × AActT × H) :=
  match r with
  | some (.normal, a', h') => y.run rec a' h'
  | r => r

noncomputable def condKT (v : Value) (x y : CCloT) (rec : RecT) (a : AActT) (h : H) : Option (AExit × AActT × H) :=
  match v with
  | .bool true => x.run rec a h
  | .bool false => y.run rec a h
  | _ => none

noncomputable def blockKT (id : Nat) (r : Option (AExit × AActT × H)) : Option (AExit × AActT × H) :=
  match r with
  | some (.exit id', a', h') => if id' = id then some (.normal, a', h') else some (.exit id', a', h')
  | r => r

noncomputable def loopKT (c : AC) (r : Option (AExit × AActT × H)) (rec : RecT) : Option (AExit × AActT × H) :=
  match r with
  | some (.normal, a', h') => rec.loop c a' h'
  | r => r

noncomputable def cloCT (P : Program) (c : AC) : CCloT :=
  AC.rec (motive := fun _ => CCloT)
    ⟨fun _ a h => some (.normal, a, h)⟩
    (fun ops => cloOpsT P ops)
    (fun ops checks cuts => regDT P ops checks cuts)
    (fun b ops checks => ⟨fun rec a h => ofR (evRegL P rec.flat b ops checks (toA a) h)⟩)
    (fun _ _ x y => ⟨fun rec a h => seqKT (x.run rec a h) y rec⟩)
    (fun c _ _ x y => ⟨fun rec a h => condKT (avT a.tmps c) x y rec a h⟩)
    (fun id _ x => ⟨fun rec a h => blockKT id (x.run rec a h)⟩)
    (fun c x => ⟨fun rec a h => loopKT c (x.run rec a h) rec⟩)
    (fun f ps as bd _ _ => ⟨fun rec a h => ofR (evC P rec.flat (.rangeFunc f ps as bd) (toA a) h)⟩)
    (fun id => ⟨fun _ a h => some (.exit id, a, h)⟩)
    ⟨fun _ a h => some (.ret, a, h)⟩
    ⟨fun _ _ _ => none⟩ c

theorem cloCT_ok {P : Program} {r : RecT} {s : Rec} (hr : Rr r s) (c : AC) : ∀ {a : AActT} {b : AAct} {h : H}, Ra a b → Ro ((cloCT P c).run r a h) (evC P s c b h) := by
  induction c with
  | skip => intro a b h ha; exact .some _ _ _ _ ha
  | reg ops => intro a b h ha; exact cloOpsT_ok hr ha
  | regD ops checks cuts => intro a b h ha; exact regDT_ok hr ha
  | regL bb ops checks =>
    intro a b h ha
    show Ro (ofR (evRegL P r.flat bb ops checks (toA a) h)) (evRegL P s bb ops checks b h)
    rw [toA_ok ha, evRegL_flat hr]
    exact ofR_ok _
  | seq x y ihx ihy =>
    intro a b h ha
    show Ro (seqKT ((cloCT P x).run r a h) (cloCT P y) r) _
    have h1 := ihx (h := h) ha
    simp only [evC]
    generalize (cloCT P x).run r a h = u at h1
    generalize evC P s x b h = v at h1
    cases h1 with
    | none => exact .none
    | some e a' b' h' r' => cases e <;> first | exact ihy r' | exact .some _ _ _ _ r'
  | cond c x y ihx ihy =>
    intro a b h ha
    show Ro (condKT (avT a.tmps c) (cloCT P x) (cloCT P y) r a h) _
    rw [avT_eq ha.tmps]
    simp only [evC]
    cases aev b.tmps c with
    | bool t => cases t <;> first | exact ihx ha | exact ihy ha
    | _ => exact .none
  | block id x ih =>
    intro a b h ha
    show Ro (blockKT id ((cloCT P x).run r a h)) _
    have h1 := ih (h := h) ha
    simp only [evC]
    generalize (cloCT P x).run r a h = u at h1
    generalize evC P s x b h = v at h1
    cases h1 with
    | none => exact .none
    | some e a' b' h' r' =>
      cases e with
      | exit id' =>
        simp only [blockKT]
        split <;> exact .some _ _ _ _ r'
      | _ => exact .some _ _ _ _ r'
  | loop c ih =>
    intro a b h ha
    show Ro (loopKT c ((cloCT P c).run r a h) r) _
    have h1 := ih (h := h) ha
    simp only [evC]
    generalize (cloCT P c).run r a h = u at h1
    generalize evC P s c b h = v at h1
    cases h1 with
    | none => exact .none
    | some e a' b' h' r' => cases e <;> first | exact hr.loop _ _ _ _ r' | exact .some _ _ _ _ r'
  | rangeFunc f ps as bd _ _ =>
    intro a b h ha
    show Ro (ofR (evC P r.flat (.rangeFunc f ps as bd) (toA a) h)) _
    rw [toA_ok ha]
    have e : evC P r.flat (.rangeFunc f ps as bd) b h = evC P s (.rangeFunc f ps as bd) b h := by
      have : r.flat.call = s.call := hr.call
      simp only [evC, this]
    rw [e]
    exact ofR_ok _
  | exit id => intro a b h ha; exact .some _ _ _ _ ha
  | ret => intro a b h ha; exact .some _ _ _ _ ha
  | stuck => intro a b h ha; exact .none

/-! ### Functions -/
noncomputable def resAT (h : H) (ts : TS) : List ARV → Option (List Value)
  | [] => some []
  | .tmp t :: r => if isBad (ts.get t) then none else (resAT h ts r).map (ts.get t :: ·)
  | .cell t agg n :: r => match ts.get t with
    | .pointer (some p) => match h.cellsF p n with
      | some cs => match (if agg then some (.agg cs.toArray) else one cs), resAT h ts r with
        | some v, some l => some (v :: l)
        | _, _ => none
      | none => none
    | _ => none

theorem resAT_eq {h : H} {t : TS} {ts : List Value} (ht : Sl t ts) : ∀ l, resAT h t l = resA h ts l
  | [] => rfl
  | .tmp k :: r => by simp only [resAT, resA, ht.2, resAT_eq ht r]
  | .cell k agg n :: r => by simp only [resAT, resA, ht.2, cellsF_eq, resAT_eq ht r]; rfl

noncomputable def finKT (r : Option (Option Value × H)) (fn : AFn) (a : AActT) : Option (ARes × RC × H) :=
  match r with
  | some (none, h') => (resAT h' a.tmps fn.results).map fun l => (.ret (tupleOf l), a.rc, h')
  | some (some v, h') => some (.panic v, a.rc, h')
  | none => none

noncomputable def finT (rec : RecT) (fn : AFn) (r : Option (AExit × AActT × H)) : Option (ARes × RC × H) :=
  match r with
  | some (x, a, h) => match leftBy x with
    | none => none
    | some m => finKT (unwindA rec.flat a.defers m h) fn a
  | none => none

noncomputable def startT (fn : AFn) (ts : List Value) (rc : RC) : AActT := ⟨ofL ts (ts.length + (fn.ntmps - ts.length)), [], rc, false⟩

noncomputable def callGT (P : Program) (rec : RecT) (o : Option AFn) (first captured : Array Value) (args : List Value) (rc : RC) (h : H) : Option (ARes × RC × H) :=
  match o with
  | some fn => finT rec fn ((cloCT P fn.body).run rec (startT fn (appF (appF first.toList args) captured.toList) rc) h)
  | none => none

/-- A round: as 'roundA', its code made ready. -/
noncomputable def roundT (P : Program) (rec : RecT) (l : Nat) (args : List Value) (h : H) : Option (ARes × RC × H) :=
  match h.getF l with
  | some (.loop .ready _ ts ps assign body) =>
    if args.length = ps.length then
      match (cloCT P assign).run rec (ofA { tmps := setParams ts ps args, defers := [], rc := .unk, round := true }) h with
      | some (.normal, a1, h1) => match h1.getF l with
        | some (.loop .ready pend1 ts1 ps1 as1 bd1) =>
          match (cloCT P body).run rec a1 (h1.setF l (.loop .busy pend1 ts1 ps1 as1 bd1)) with
          | some (x, a2, h2) => match a2.defers, h2.getF l with
            | [], some (.loop _ _ ts2 ps2 as2 bd2) => match x with
              | .normal => some (.ret (.bool true), .unk, h2.setF l (.loop .ready none ts2 ps2 as2 bd2))
              | .ret => some (.ret (.bool false), .unk, h2.setF l (.loop .done (some none) ts2 ps2 as2 bd2))
              | .exit id => some (.ret (.bool false), .unk, h2.setF l (.loop .done (some (some id)) ts2 ps2 as2 bd2))
              | .panic v => some (.panic v, .unk, h2)
            | _, _ => none
          | none => none
        | _ => none
      | _ => none
    else none
  | _ => none

theorem roundT_eq {P : Program} {r : RecT} {s : Rec} (hr : Rr r s) (l : Nat) (args : List Value) (h : H) : roundT P r l args h = roundA P s l args h := by
  unfold roundT roundA
  rw [getF_eq]
  cases h.get l with
  | none => rfl
  | some blk =>
    cases blk with
    | loop st pend ts ps assign body =>
      cases st with
      | ready =>
        simp only []
        split
        · have h1 := cloCT_ok (P := P) hr assign (h := h) (ofA_ok { tmps := setParams ts ps args, defers := [], rc := .unk, round := true })
          generalize (cloCT P assign).run r _ h = u at h1
          generalize evC P s assign _ h = v at h1
          cases h1 with
          | none => rfl
          | some e a1 b1 h1 r1 =>
            cases e with
            | normal =>
              simp only []
              rw [getF_eq]
              cases h1.get l with
              | none => rfl
              | some blk1 =>
                cases blk1 with
                | loop st1 pend1 ts1 ps1 as1 bd1 =>
                  cases st1 with
                  | ready =>
                    simp only [setF_eq]
                    have h2 := cloCT_ok (P := P) hr body (h := h1.set l (.loop .busy pend1 ts1 ps1 as1 bd1)) r1
                    generalize (cloCT P body).run r a1 _ = u at h2
                    generalize evC P s body b1 _ = v at h2
                    cases h2 with
                    | none => rfl
                    | some e2 a2 b2 h2 r2 =>
                      simp only [r2.defers, getF_eq]
                      rfl
                  | _ => rfl
                | _ => rfl
            | _ => rfl
        · rfl
      | _ => rfl
    | _ => rfl

noncomputable def callT (P : Program) (rec : RecT) (T : Nat → Option AFn) (f : Value) (args : List Value) (rc : RC) (h : H) : Option (ARes × RC × H) :=
  match f with
  | .func (.func g) first captured => callGT P rec (T g) first captured args rc h
  | .func (.yield l) first captured => match rc with
    | .unk => if first.toList.isEmpty && captured.toList.isEmpty then roundT P rec l args h else none
    | _ => none
  | _ => none

theorem unwindA_flat {r : RecT} {s : Rec} (hr : Rr r s) : ∀ (l : List ADef) (m : Option Value) (h : H), unwindA r.flat l m h = unwindA s l m h
  | [], _, _ => rfl
  | .coll d :: l, m, h => by
    simp only [unwindA, unwindA_flat hr l]
  | .call f args :: l, m, h => by
    have : r.flat.call = s.call := hr.call
    simp only [unwindA, this, unwindA_flat hr l]

theorem callT_eq {P : Program} {r : RecT} {s : Rec} (hr : Rr r s) (T : Nat → Option AFn) (f : Value) (args : List Value) (rc : RC) (h : H) : callT P r T f args rc h = callA P s T f args rc h := by
  cases f with
  | func fn first captured =>
    cases fn with
    | func g =>
      simp only [callT, callA, callGT]
      cases T g with
      | none => rfl
      | some fn =>
        have hs : Ra (startT fn (appF (appF first.toList args) captured.toList) rc) (startA fn (first.toList ++ args ++ captured.toList) rc) := by
          rw [appF_eq, appF_eq]
          exact ⟨ofL_ok _ _, rfl, rfl, rfl⟩
        have h1 := cloCT_ok (P := P) hr fn.body (h := h) hs
        simp only []
        generalize (cloCT P fn.body).run r _ h = u at h1
        generalize evC P s fn.body _ h = v at h1
        cases h1 with
        | none => rfl
        | some x a b h' rr =>
          simp only [finT, finishA, unwindA_flat hr, rr.defers]
          cases leftBy x with
          | none => rfl
          | some m =>
            simp only []
            cases unwindA s b.defers m h' with
            | none => rfl
            | some y =>
              obtain ⟨m', h2⟩ := y
              cases m' with
              | none => simp only [finKT, resAT_eq rr.tmps, rr.rc]
              | some w => simp only [finKT, rr.rc]
    | yield l =>
      simp only [callT, callA, roundT_eq hr]
      rfl
    | _ => rfl
  | _ => rfl

end Go.Ev
