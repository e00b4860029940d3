/- The evaluator over a small code, and that what it finds of a call holds of the machine, part 10. -/
import Derived.Test.YtcajalekkffcjaaDoorEv9
import Derived.Test.YtcajalekkffcjaaDoorEv3m
namespace Go.Ev
open Go Go.RowKit

variable {P : Program} {ρ ρ' : Ren} {N : Nat} {w0 w : World} {h h' : H}

/-- What a frame's right to recover says of its callers. -/
def RcOK (ρ : Ren) (b : Frame) (cs : List Frame) : RC → Prop
  | .unk => True
  | .calm => b.kind = .deferred ∧ b.roundOf = none ∧ ∃ c0 rest, cs = c0 :: rest ∧ c0.mode = .returning
  | .pan v => b.kind = .deferred ∧ b.roundOf = none ∧ ∃ c0 rest u, cs = c0 :: rest ∧ c0.mode = .panicking [{ v := u, recovered := false }] ∧ Rv ρ v u
  | .done _ => ∃ c0 rest u, cs = c0 :: rest ∧ c0.mode = .panicking [{ v := u, recovered := true }]

/-- How the callers turn: at most, a panic is recovered. -/
def CsTo (rc rc' : RC) (cs cs' : List Frame) : Prop :=
  (rc' = rc ∧ cs' = cs) ∨
  ∃ v c0 rest u, rc = .pan v ∧ rc' = .done v ∧ cs = c0 :: rest ∧ c0.mode = .panicking [{ v := u, recovered := false }] ∧ cs' = { c0 with mode := .panicking [{ v := u, recovered := true }] } :: rest

theorem CsTo.refl (rc : RC) (cs : List Frame) : CsTo rc rc cs cs := .inl ⟨rfl, rfl⟩

theorem CsTo.trans {r1 r2 r3 : RC} {c1 c2 c3 : List Frame} (h1 : CsTo r1 r2 c1 c2) (h2 : CsTo r2 r3 c2 c3) : CsTo r1 r3 c1 c3 := by
  rcases h1 with ⟨rfl, rfl⟩ | ⟨v, c0, rest, u, rfl, rfl, rfl, hm, rfl⟩
  · exact h2
  · rcases h2 with ⟨rfl, rfl⟩ | ⟨v', c0', rest', u', h, _⟩
    · exact .inr ⟨v, c0, rest, u, rfl, rfl, rfl, hm, rfl⟩
    · cases h

theorem RcOK.mono (hle : ρ.le ρ') {b : Frame} {cs : List Frame} {rc : RC} (hr : RcOK ρ b cs rc) : RcOK ρ' b cs rc := by
  cases rc with
  | unk => trivial
  | calm => exact hr
  | pan v =>
    obtain ⟨h1, h2, c0, rest, u, h3, h4, h5⟩ := hr
    exact ⟨h1, h2, c0, rest, u, h3, h4, h5.mono hle⟩
  | done v => exact hr

theorem RcOK.to {b : Frame} {cs cs' : List Frame} {rc rc' : RC} (hr : RcOK ρ b cs rc) (ht : CsTo rc rc' cs cs') : RcOK ρ b cs' rc' := by
  rcases ht with ⟨rfl, rfl⟩ | ⟨v, c0, rest, u, rfl, rfl, rfl, hm, rfl⟩
  · exact hr
  · exact ⟨_, rest, u, rfl, rfl⟩

def NoCall : List Item → Prop
  | .call .. :: _ => False
  | _ => True

/-- Where the machine stands when the code has been left. -/
def Arr (P : Program) (ρ : Ren) (m : Machine) (b : Frame) (k : List Item) (cs : List Frame) : AExit → Act → World → Prop
  | .normal, a, w => Steps P m (lone (b.atR a k) cs w)
  | .exit id, a, w => ∃ k1, exitTo id k1 = exitTo id k ∧ Steps P m (lone (b.atR a (.code (.exit id) :: k1)) cs w)
  | .ret, a, w => ∃ k1, Steps P m (lone (b.atR a (.code .ret :: k1)) cs w)
  | .panic v, a, w => ∃ todo u, NoCall todo ∧ Rv ρ v u ∧ Steps P m (lone { b.atR a todo with mode := .panicking [{ v := u, recovered := false }] } cs w)

theorem Arr.of_steps {m m1 : Machine} {b : Frame} {k : List Item} {cs : List Frame} {x : AExit} {a : Act} (hs : Steps P m m1) (ha : Arr P ρ m1 b k cs x a w) : Arr P ρ m b k cs x a w := by
  cases x with
  | normal => exact hs.trans ha
  | exit id => obtain ⟨k1, h1, h2⟩ := ha; exact ⟨k1, h1, hs.trans h2⟩
  | ret => obtain ⟨k1, h2⟩ := ha; exact ⟨k1, hs.trans h2⟩
  | panic v => obtain ⟨t, u, h0, h1, h2⟩ := ha; exact ⟨t, u, h0, h1, hs.trans h2⟩

/-- What is left of an activation at a panic: of some slots nothing is known. -/
def RactP (ρ : Ren) (a : AAct) (ca : Act) : Prop := ∃ ts, Ract ρ { a with tmps := ts } ca ∧ ∀ t : Nat, isBad (a.tmps.getD t undef) = true ∨ a.tmps.getD t undef = ts.getD t undef

def RactX (ρ : Ren) : AExit → AAct → Act → Prop
  | .panic _, a, ca => RactP ρ a ca
  | _, a, ca => Ract ρ a ca

theorem Ract.toP {a : AAct} {ca : Act} (h : Ract ρ a ca) : RactP ρ a ca := ⟨a.tmps, h, fun _ => .inr rfl⟩
theorem Ract.toX {a : AAct} {ca : Act} (h : Ract ρ a ca) (x : AExit) : RactX ρ x a ca := by
  cases x with
  | panic v => exact h.toP
  | _ => exact h

/-- All that is shown of an activation's way from (m, a, h, w, cs). -/
structure Went (P : Program) (ρ : Ren) (N : Nat) (w0 : World) (m : Machine) (b : Frame) (k : List Item) (cs : List Frame) (a : AAct) (x : AExit) (a' : AAct) (h' : H) : Prop where
  out : ∃ ρ' w' ca' cs', ρ.le ρ' ∧ Rep P ρ' N w0 h' w' ∧ RactX ρ' x a' ca' ∧ CsTo a.rc a'.rc cs cs' ∧ a'.round = a.round ∧ Arr P ρ' m b k cs' x ca' w'

def StartOK (ρ : Ren) (b : Frame) (cs : List Frame) (a : AAct) (ca : Act) : Prop := Ract ρ a ca ∧ RcOK ρ b cs a.rc ∧ a.round = b.roundOf.isSome

theorem StartOK.next {b : Frame} {cs cs' : List Frame} {a a' : AAct} {ca ca' : Act} (hs : StartOK ρ b cs a ca) (hle : ρ.le ρ') (ha : Ract ρ' a' ca') (hc : CsTo a.rc a'.rc cs cs') (hr : a'.round = a.round) : StartOK ρ' b cs' a' ca' :=
  ⟨ha, (hs.2.1.mono hle).to hc, hr.trans hs.2.2⟩

def entered (P : Program) : Next → Option Frame
  | .enter f args => some (Frame.enter P f args .normal)
  | .round l f tmps assign body => some (Frame.round l f tmps assign body .normal)
  | _ => none

def ResOK (P : Program) (ρ : Ren) (fr0 c : Frame) (cs : List Frame) (w w' : World) : ARes → Prop
  | .ret v => ∃ u, Rv ρ v u ∧ Steps P (lone fr0 (c :: cs) w) (lone (c.finish u) cs w')
  | .panic v => ∃ u, Rv ρ v u ∧ Steps P (lone fr0 (c :: cs) w) (lone (c.raise [{ v := u, recovered := false }]) cs w')

/-- What is shown of a call in the ordinary way. -/
def CallOK (P : Program) (rec : Rec) : Prop :=
  ∀ f args h res rc' h', rec.call f args .unk h = some (res, rc', h') → ∀ ρ N w0 w cf cargs, Rep P ρ N w0 h w → Rv ρ f cf → RL ρ args cargs.toList →
    ∃ nx fr0, (do let d ← Deferred.ofValue cf cargs; invoke d.target d.args : Sem Next).run P w = .ok nx w ∧ entered P nx = some fr0 ∧
      ∀ c cs, ∃ ρ' w', ρ.le ρ' ∧ Rep P ρ' N w0 h' w' ∧ ResOK P ρ' fr0 c cs w w' res

def DefMode (ρ : Ren) (u : FrameMode) : RC → Prop
  | .calm => u = .returning
  | .pan v => ∃ x, Rv ρ v x ∧ u = .panicking [{ v := x, recovered := false }]
  | _ => False

/-- What is shown of a deferred call. -/
def DeferOK (P : Program) (rec : Rec) : Prop :=
  ∀ g x y args rc h v rc' h', rec.call (.func (.func g) x y) args rc h = some (.ret v, rc', h') → ∀ ρ N w0 w x' y' args' c0 cs, Rep P ρ N w0 h w → RL ρ x.toList x'.toList → RL ρ y.toList y'.toList → RL ρ args args' →
    DefMode ρ c0.mode rc →
    ∃ fargs ρ' w', (invoke (.fn (.func g) y') (x' ++ args'.toArray)).run P w = .ok (.enter g fargs) w ∧ ρ.le ρ' ∧ Rep P ρ' N w0 h' w' ∧
      Steps P (lone (Frame.enter P g fargs .deferred) (c0 :: cs) w) (lone { c0 with mode := if rc'.isDone then .returning else c0.mode } cs w')

/-- What is shown of a loop. -/
def LoopOK (P : Program) (rec : Rec) : Prop :=
  ∀ code a h x a' h', rec.loop (compC P code) a h = some (x, a', h') → ∀ ρ N w0 w b k cs ca, Rep P ρ N w0 h w → StartOK ρ b cs a ca →
    Went P ρ N w0 (lone (b.atR ca (.inLoop code :: k)) cs w) b k cs a x a' h'

/-- A call of a function on numbers alone leaves the heap, and does not hang on it. -/
def PureOK (P : Program) (rec : Rec) : Prop :=
  ∀ g args h res rc' h', pureF P g = true → rec.call (.func (.func g) #[] #[]) args .unk h = some (res, rc', h') →
    h' = h ∧ ∀ h2, rec.call (.func (.func g) #[] #[]) args .unk h2 = some (res, rc', h2)

structure RecOK (P : Program) (rec : Rec) : Prop where
  mono : MonoR P.globals.size rec
  call : CallOK P rec
  defer : DeferOK P rec
  loop : LoopOK P rec
  pure : PureOK P rec

/-! ### One operation -/
/-- Whatever is shown of one operation's way. -/
def OpWent (P : Program) (ρ : Ren) (N : Nat) (w0 : World) (m : Machine) (b : Frame) (ops : Array Oper) (rest : List Nat) (k : List Item) (cs : List Frame) (a : AAct) : Step → Prop
  | .on a' h' => ∃ ρ' w' ca' cs', ρ.le ρ' ∧ Rep P ρ' N w0 h' w' ∧ Ract ρ' a' ca' ∧ CsTo a.rc a'.rc cs cs' ∧ a'.round = a.round ∧ Steps P m (lone (b.atR ca' (.inRegion ops rest :: k)) cs' w')
  | .panic v a' h' => ∃ ρ' w' ca', ρ.le ρ' ∧ Rep P ρ' N w0 h' w' ∧ Ract ρ' a' ca' ∧ a'.rc = a.rc ∧ a'.round = a.round ∧
      ∃ todo u, NoCall todo ∧ Rv ρ' v u ∧ Steps P m (lone { b.atR ca' todo with mode := .panicking [{ v := u, recovered := false }] } cs w')

theorem compExt_ctor {fn : Func} {l : List Operand} {ao : AOp} (hc : compExt P fn l = some ao) : (∃ x, ao = .noEscape x) ∨ (∃ x y, ao = .indexByte x y) ∨ (∃ e x, ao = .makeNoZero e x) := by
  unfold compExt at hc
  split at hc
  · split at hc
    · cases hc; exact .inl ⟨_, rfl⟩
    · split at hc
      · split at hc
        · cases hc; exact .inr (.inl ⟨_, _, rfl⟩)
        · cases hc
      · split at hc
        · split at hc
          · split at hc
            · split at hc
              · cases hc; exact .inr (.inr ⟨_, _, rfl⟩)
              · cases hc
            · cases hc
          · cases hc
        · cases hc
  · cases hc

theorem compCall_pure {o : Oper} {c : Call} {f : Operand} {args : List Operand} (hc : compCall P o c = some (.callP f args)) : ∃ g, f = .func g ∧ pureF P g = true := by
  unfold compCall at hc
  split at hc
  · split at hc
    all_goals (repeat' (split at hc)) <;> (cases hc)
  · rename_i f0 hf
    have key : ∀ {l : List Operand}, some (callOp P f0 l) = some (AOp.callP f args) → ∃ g, f = .func g ∧ pureF P g = true := fun {l} e => by
      rcases callOp_cases P f0 l with e1 | ⟨g, e2, e3, e1⟩
      · rw [e1] at e; cases e
      · rw [e1] at e; cases e; exact ⟨g, e2, e3⟩
    split at hc
    · split at hc
      · split at hc
        · split at hc
          · cases hc
          · exact key hc
        · rcases compExt_ctor hc with ⟨x, e⟩ | ⟨x, y, e⟩ | ⟨e, x, e⟩ <;> cases e
      · cases hc
    · split at hc
      · split at hc
        · split at hc
          · cases hc
          · exact key hc
        · cases hc
      · cases hc
    · cases hc
    · cases hc
  · cases hc

theorem compCall_ctor {o : Oper} {c : Call} {ao : AOp} (hc : compCall P o c = some ao) :
    (∀ f args, (ao = .call f args ∨ ao = .callP f args) → c.callee = .value f ∧ args = c.args.toList) ∧ (∀ f args, ao ≠ .defer f args) ∧ (∀ x, ao ≠ .panic x) ∧
    (ao = .recover → c.callee = .builtin .recover ∧ c.args.toList = []) := by
  unfold compCall at hc
  split at hc
  · split at hc
    all_goals (repeat' (split at hc)) <;> first
      | (cases hc; done)
      | (cases hc; refine ⟨(fun _ _ e => by rcases e with e | e <;> cases e), (fun _ _ e => by cases e), (fun _ e => by cases e), (fun e => by first | (cases e; done) | exact ⟨by assumption, by assumption⟩)⟩)
  · rename_i f hf
    have key : ∀ {l : List Operand}, (ao = .call f l ∨ ao = .callP f l) → l = c.args.toList → ((∀ g args, (ao = .call g args ∨ ao = .callP g args) → c.callee = .value g ∧ args = c.args.toList) ∧ (∀ f args, ao ≠ .defer f args) ∧ (∀ x, ao ≠ .panic x) ∧
        (ao = .recover → c.callee = .builtin .recover ∧ c.args.toList = [])) := fun h1 h2 => by
      subst h2
      rcases h1 with h1 | h1 <;> subst h1
      · exact ⟨(fun g args e => by rcases e with e | e <;> cases e; exact ⟨hf, rfl⟩), (fun _ _ e => by cases e), (fun _ e => by cases e), (fun e => by cases e)⟩
      · exact ⟨(fun g args e => by rcases e with e | e <;> cases e; exact ⟨hf, rfl⟩), (fun _ _ e => by cases e), (fun _ e => by cases e), (fun e => by cases e)⟩
    split at hc
    · split at hc
      · split at hc
        · split at hc
          · cases hc
          · cases hc
            rcases callOp_cases P (.func _) c.args.toList with e | ⟨_, _, _, e⟩
            · exact key (.inl e) rfl
            · exact key (.inr e) rfl
        · rcases compExt_ctor hc with ⟨x, rfl⟩ | ⟨x, y, rfl⟩ | ⟨e, x, rfl⟩ <;> exact ⟨(fun _ _ e => by rcases e with e | e <;> cases e), (fun _ _ e => by cases e), (fun _ e => by cases e), (fun e => by cases e)⟩
      · cases hc
    · split at hc
      · split at hc
        · split at hc
          · cases hc
          · cases hc; exact key (.inl rfl) rfl
        · cases hc
      · cases hc
    · cases hc; exact key (.inl rfl) rfl
    · cases hc
  · cases hc

theorem compOp_ctor {o : Oper} {ao : AOp} (hc : compOp P o = some ao) :
    (∀ f args, (ao = .call f args ∨ ao = .callP f args) → ∃ c, o.op = .call c ∧ c.callee = .value f ∧ args = c.args.toList) ∧
    (∀ f args, ao = .defer f args → ∃ c, o.op = .defer c ∧ c.callee = .value f ∧ args = c.args.toList) ∧
    (∀ x, ao = .panic x → o.op = .panic x) ∧
    (ao = .recover → ∃ c, o.op = .call c ∧ c.callee = .builtin .recover ∧ c.args.toList = []) := by
  obtain ⟨dst, op, ty, pos, after, guard⟩ := o
  cases op
  case call c =>
    simp only [compOp] at hc
    obtain ⟨h1, h2, h3, h4⟩ := compCall_ctor hc
    exact ⟨fun f args e => ⟨c, rfl, h1 f args e⟩, fun f args e => absurd e (h2 f args), fun x e => absurd e (h3 x), fun e => ⟨c, rfl, h4 e⟩⟩
  case defer c =>
    simp only [compOp] at hc
    split at hc
    · rename_i f hf
      cases hc
      exact ⟨(fun _ _ e => by rcases e with e | e <;> cases e), (fun f args e => by cases e; exact ⟨c, rfl, hf, rfl⟩), (fun _ e => by cases e), (fun e => by cases e)⟩
    · cases hc
  case panic x =>
    simp only [compOp] at hc
    cases hc
    exact ⟨(fun _ _ e => by rcases e with e | e <;> cases e), (fun _ _ e => by cases e), (fun _ e => by cases e; rfl), (fun e => by cases e)⟩
  case makeFunc fn x y =>
    cases fn <;> simp only [compOp] at hc <;> cases hc
    exact ⟨(fun _ _ e => by rcases e with e | e <;> cases e), (fun _ _ e => by cases e), (fun _ e => by cases e), (fun e => by cases e)⟩
  case slice t x lo hi mx =>
    cases mx with
    | some m =>
      cases hi with
      | none => simp only [compOp] at hc; cases hc
      | some hh =>
        simp only [compOp] at hc
        split at hc
        · obtain ⟨_, _, rfl⟩ := map_some_iff hc
          exact ⟨(fun _ _ e => by rcases e with e | e <;> cases e), (fun _ _ e => by cases e), (fun _ e => by cases e), (fun e => by cases e)⟩
        · cases hc
    | none =>
      simp only [compOp] at hc
      split at hc
      · obtain ⟨_, _, rfl⟩ := map_some_iff hc
        exact ⟨(fun _ _ e => by rcases e with e | e <;> cases e), (fun _ _ e => by cases e), (fun _ e => by cases e), (fun e => by cases e)⟩
      · cases hc
        exact ⟨(fun _ _ e => by rcases e with e | e <;> cases e), (fun _ _ e => by cases e), (fun _ e => by cases e), (fun e => by cases e)⟩
      · obtain ⟨_, _, rfl⟩ := map_some_iff hc
        exact ⟨(fun _ _ e => by rcases e with e | e <;> cases e), (fun _ _ e => by cases e), (fun _ e => by cases e), (fun e => by cases e)⟩
      · cases hc
  case makeMap t r =>
    cases r <;> simp only [compOp] at hc <;> cases hc
    exact ⟨(fun _ _ e => by rcases e with e | e <;> cases e), (fun _ _ e => by cases e), (fun _ e => by cases e), (fun e => by cases e)⟩
  case next it b =>
    cases b <;> simp only [compOp] at hc <;> cases hc
    exact ⟨(fun _ _ e => by rcases e with e | e <;> cases e), (fun _ _ e => by cases e), (fun _ e => by cases e), (fun e => by cases e)⟩
  all_goals
    simp only [compOp] at hc
    (repeat' (split at hc)) <;> first
      | (cases hc; done)
      | (cases hc; refine ⟨(fun _ _ e => by rcases e with e | e <;> cases e), (fun _ _ e => by cases e), (fun _ e => by cases e), (fun e => by cases e)⟩)
      | (obtain ⟨_, _, rfl⟩ := map_some_iff hc; refine ⟨(fun _ _ e => by rcases e with e | e <;> cases e), (fun _ _ e => by cases e), (fun _ e => by cases e), (fun e => by cases e)⟩)

theorem compOp_pure {o : Oper} {f : Operand} {args : List Operand} (hc : compOp P o = some (.callP f args)) : ∃ g, f = .func g ∧ pureF P g = true := by
  obtain ⟨c, hop, _, _⟩ := (compOp_ctor hc).1 f args (.inr rfl)
  obtain ⟨dst, op, ty, pos, after, guard⟩ := o
  simp only at hop
  subst hop
  simp only [compOp] at hc
  exact compCall_pure hc

theorem evOp_ok {rec : Rec} (hrec : RecOK P rec) (hR : Rep P ρ N w0 h w) {ops : Array Oper} {i : Nat} {rest : List Nat} {o : Oper} {ao : AO} (ho : ops[i]? = some o) (hc : compO P ops o = some ao)
    {a : AAct} {ca : Act} {b : Frame} {cs : List Frame} (hs : StartOK ρ b cs a ca) {st : Step} (he : evOp P rec ao a h = some st) (k : List Item) :
    OpWent P ρ N w0 (lone (b.atR ca (.inRegion ops (i :: rest) :: k)) cs w) b ops rest k cs a st := by
  obtain ⟨hact, hrc, hround⟩ := hs
  obtain ⟨hcop, hdst, hopd⟩ := compO_parts hc
  have hwt := wanted_ok hact hc
  have hrel : ∀ x ∈ o.op.operands, Rv ρ (aev a.tmps x) (ca.eval x) := fun x hx => opd_ok hR hact (hopd x hx)
  unfold evOp at he
  split at he
  · rename_i hw
    rw [hwt] at hw
    obtain ⟨cc, cd, cp, cr⟩ := compOp_ctor hcop
    split at he
    · -- a call
      rename_i f args hop
      obtain ⟨c, hoc, hcal, hargs⟩ := cc f args (.inl hop)
      have hcop' : ∀ x ∈ c.operands, Rv ρ (aev a.tmps x) (ca.eval x) := fun x hx => hrel x (by rw [hoc]; exact hx)
      have hf : Rv ρ (aev a.tmps f) (ca.eval f) := hcop' f (by simp [Call.operands, hcal])
      have hal : RL ρ (args.map (aev a.tmps)) (c.args.map ca.eval).toList := by
        rw [hargs, Array.toList_map]
        exact RL.map_of fun x hx => hcop' x (by simp only [Call.operands, Array.mem_append]; exact .inr (by simpa using hx))
      have hexec : execOp ca.eval o = (do let d ← Deferred.ofValue (ca.eval f) (c.args.map ca.eval); invoke d.target d.args) := by
        simp only [execOp, hoc, resolve, hcal]
      have hnd : ∀ c', o.op ≠ .defer c' := fun c' e => by rw [hoc] at e; cases e
      split at he
      · rename_i v rc' h1 hcall
        cases he
        obtain ⟨nx, fr0, hrun, hent, hgo⟩ := hrec.call _ _ _ _ _ _ hcall ρ N w0 w _ _ hR hf hal
        obtain ⟨ρ', w', hle, hR', u, hu, hst⟩ := hgo (b.atR ca (.inRegion ops (i :: rest) :: k)) cs
        rw [← hexec] at hrun
        have hfin : (b.atR ca (.inRegion ops (i :: rest) :: k)).finish u = b.atR (ca.put o.dst u) (.inRegion ops rest :: k) := by rw [Frame.finish_atR, ho]; rfl
        rw [hfin] at hst
        refine ⟨ρ', w', ca.put o.dst u, cs, hle, hR', by rw [hdst]; exact (hact.mono hle).put o.dst hu, CsTo.refl _ _, rfl, ?_⟩
        cases nx <;> simp only [entered, Option.some.injEq, reduceCtorEq] at hent
        · subst hent; exact .head (step_op_enter ho hw hnd hrun) hst
        · subst hent; exact .head (step_op_round ho hw hnd hrun) hst
      · rename_i v rc' h1 hcall
        cases he
        obtain ⟨nx, fr0, hrun, hent, hgo⟩ := hrec.call _ _ _ _ _ _ hcall ρ N w0 w _ _ hR hf hal
        obtain ⟨ρ', w', hle, hR', u, hu, hst⟩ := hgo (b.atR ca (.inRegion ops (i :: rest) :: k)) cs
        rw [← hexec] at hrun
        rw [Frame.raise_atR] at hst
        refine ⟨ρ', w', ca, hle, hR', hact.mono hle, rfl, rfl, .inRegion ops (i :: rest) :: k, u, trivial, hu, ?_⟩
        cases nx <;> simp only [entered, Option.some.injEq, reduceCtorEq] at hent
        · subst hent; exact .head (step_op_enter ho hw hnd hrun) hst
        · subst hent; exact .head (step_op_round ho hw hnd hrun) hst
      · cases he
    · -- a pure call
      rename_i f args hop
      obtain ⟨c, hoc, hcal, hargs⟩ := cc f args (.inr hop)
      have hcop' : ∀ x ∈ c.operands, Rv ρ (aev a.tmps x) (ca.eval x) := fun x hx => hrel x (by rw [hoc]; exact hx)
      have hf : Rv ρ (aev a.tmps f) (ca.eval f) := hcop' f (by simp [Call.operands, hcal])
      have hal : RL ρ (args.map (aev a.tmps)) (c.args.map ca.eval).toList := by
        rw [hargs, Array.toList_map]
        exact RL.map_of fun x hx => hcop' x (by simp only [Call.operands, Array.mem_append]; exact .inr (by simpa using hx))
      have hexec : execOp ca.eval o = (do let d ← Deferred.ofValue (ca.eval f) (c.args.map ca.eval); invoke d.target d.args) := by
        simp only [execOp, hoc, resolve, hcal]
      have hnd : ∀ c', o.op ≠ .defer c' := fun c' e => by rw [hoc] at e; cases e
      split at he
      · rename_i v rc' h1 hcall
        cases he
        obtain ⟨nx, fr0, hrun, hent, hgo⟩ := hrec.call _ _ _ _ _ _ hcall ρ N w0 w _ _ hR hf hal
        obtain ⟨ρ', w', hle, hR', u, hu, hst⟩ := hgo (b.atR ca (.inRegion ops (i :: rest) :: k)) cs
        rw [← hexec] at hrun
        have hfin : (b.atR ca (.inRegion ops (i :: rest) :: k)).finish u = b.atR (ca.put o.dst u) (.inRegion ops rest :: k) := by rw [Frame.finish_atR, ho]; rfl
        rw [hfin] at hst
        refine ⟨ρ', w', ca.put o.dst u, cs, hle, hR', by rw [hdst]; exact (hact.mono hle).put o.dst hu, CsTo.refl _ _, rfl, ?_⟩
        cases nx <;> simp only [entered, Option.some.injEq, reduceCtorEq] at hent
        · subst hent; exact .head (step_op_enter ho hw hnd hrun) hst
        · subst hent; exact .head (step_op_round ho hw hnd hrun) hst
      · rename_i v rc' h1 hcall
        cases he
        obtain ⟨nx, fr0, hrun, hent, hgo⟩ := hrec.call _ _ _ _ _ _ hcall ρ N w0 w _ _ hR hf hal
        obtain ⟨ρ', w', hle, hR', u, hu, hst⟩ := hgo (b.atR ca (.inRegion ops (i :: rest) :: k)) cs
        rw [← hexec] at hrun
        rw [Frame.raise_atR] at hst
        refine ⟨ρ', w', ca, hle, hR', hact.mono hle, rfl, rfl, .inRegion ops (i :: rest) :: k, u, trivial, hu, ?_⟩
        cases nx <;> simp only [entered, Option.some.injEq, reduceCtorEq] at hent
        · subst hent; exact .head (step_op_enter ho hw hnd hrun) hst
        · subst hent; exact .head (step_op_round ho hw hnd hrun) hst
      · cases he
    · -- defer
      rename_i f args hop
      obtain ⟨c, hoc, hcal, hargs⟩ := cd f args hop
      have hcop' : ∀ x ∈ c.operands, Rv ρ (aev a.tmps x) (ca.eval x) := fun x hx => hrel x (by rw [hoc]; exact hx)
      have hf : Rv ρ (aev a.tmps f) (ca.eval f) := hcop' f (by simp [Call.operands, hcal])
      have hal : RL ρ (args.map (aev a.tmps)) (c.args.map ca.eval).toList := by
        rw [hargs, Array.toList_map]
        exact RL.map_of fun x hx => hcop' x (by simp only [Call.operands, Array.mem_append]; exact .inr (by simpa using hx))
      split at he
      · rename_i g x y hro hfv
        cases he
        rw [hfv] at hf
        have hb : b.roundOf = none := by rw [hro] at hround; simpa using hround.symm
        generalize hcf : ca.eval f = cf at hf
        cases hf with
        | func _ _ x' _ y' hx hy =>
          have hrun : (execOp ca.eval o).run P w = .ok (.defer { target := .fn (.func g) y', args := x' ++ (c.args.map ca.eval) }) w := by
            simp [execOp, hoc, resolve, hcal, hcf, Deferred.ofValue]
          refine ⟨ρ, w, _, cs, ρ.le_refl, hR, ?_, CsTo.refl _ _, rfl, .one (step_op_defer ho hw hb hrun)⟩
          rw [hdst]
          have hd := Rdef.call (ρ := ρ) g x x' y y' _ _ hx hy hal
          have h2 : Ract ρ { a with defers := .call (.func (.func g) x y) (args.map (aev a.tmps)) :: a.defers } { ca with defers := { target := .fn (.func g) y', args := x' ++ c.args.map ca.eval } :: ca.defers } :=
            ⟨hact.tmps, .cons (by have e : (c.args.map ca.eval).toList.toArray = c.args.map ca.eval := Array.toArray_toList; rw [e] at hd; exact hd) hact.defers⟩
          exact h2.put o.dst Rv.undef
      · cases he
    · -- recover
      rename_i hop
      obtain ⟨c, hoc, hcal, hargs⟩ := cr hop
      have hnd : ∀ c', o.op ≠ .defer c' := fun c' e => by rw [hoc] at e; cases e
      have hrun : (execOp ca.eval o).run P w = .ok .recover w := by
        simp [execOp, hoc, resolve, hcal, invoke, builtin]
      split at he
      · rename_i hrcc
        cases he
        rw [hrcc] at hrc
        obtain ⟨hk, hb, c0, rs, hcs, hm⟩ := hrc
        refine ⟨ρ, w, ca.put o.dst .nilIface, cs, ρ.le_refl, hR, by rw [hdst]; exact hact.put o.dst .nilIface, CsTo.refl _ _, rfl, .one (step_op_recover ho hw hnd hb hrun ?_)⟩
        have hkk : (b.atR ca (.inRegion ops (i :: rest) :: k)).kind = .deferred := hk
        simp [tryRecover, hkk, hcs, hm]
      · rename_i v hrcc
        cases he
        rw [hrcc] at hrc
        obtain ⟨hk, hb, c0, rs, u, hcs, hm, hu⟩ := hrc
        refine ⟨ρ, w, ca.put o.dst u, { c0 with mode := .panicking [{ v := u, recovered := true }] } :: rs, ρ.le_refl, hR, ?_, .inr ⟨v, c0, rs, u, hrcc, rfl, hcs, hm, rfl⟩, rfl, .one (step_op_recover ho hw hnd hb hrun ?_)⟩
        · rw [hdst]
          have h2 : Ract ρ { a with rc := .done v } ca := ⟨hact.tmps, hact.defers⟩
          exact h2.put o.dst hu
        · have hkk : (b.atR ca (.inRegion ops (i :: rest) :: k)).kind = .deferred := hk
          simp [tryRecover, hkk, hcs, hm]
      · cases he
    · -- panic
      rename_i x hop
      have hox := cp x hop
      have hnd : ∀ c', o.op ≠ .defer c' := fun c' e => by rw [hox] at e; cases e
      split at he
      · rename_i t v hxv
        cases he
        have hxr := hrel x (by rw [hox]; simp [Op.operands])
        rw [hxv] at hxr
        generalize hcx : ca.eval x = cx at hxr
        have hrun : (execOp ca.eval o).run P w = .halt (.panic cx) w := by
          cases hxr
          simp [execOp, hox, hcx, Instr.panic]
        exact ⟨ρ, w, ca, ρ.le_refl, hR, hact, rfl, rfl, .inRegion ops (i :: rest) :: k, cx, trivial, hxr, .one (step_op_panic ho hw hnd hrun)⟩
      · cases he
    · -- the rest
      rename_i hn1 hn0 hn2 hn3 hn4
      split at he
      · rename_i v h1 hx
        cases he
        have hnd : ∀ c', o.op ≠ .defer c' := fun c' e => by
          obtain ⟨_, op, _⟩ := o
          simp only at e
          subst e
          simp only [compOp] at hcop
          split at hcop
          · simp only [Option.some.injEq] at hcop; exact hn2 _ _ hcop.symm
          · cases hcop
        obtain ⟨ρ', w', nx, u, hle, hR', hu, hrun, hn⟩ := op_ok hR hcop hrel hx
        exact ⟨ρ', w', ca.put o.dst u, cs, hle, hR', by rw [hdst]; exact (hact.mono hle).put o.dst hu, CsTo.refl _ _, rfl, .one (step_op_value ho hw hnd hrun hn)⟩
      · cases he
  · rename_i hw
    cases he
    have hw' : ((ops[i]?).map (Region.wanted · (yielded ops ca.tmps))).getD false = false := by
      rw [ho]; simpa [← hwt] using hw
    refine ⟨ρ, w, ca.put o.dst undef, cs, ρ.le_refl, hR, ?_, CsTo.refl _ _, rfl, ?_⟩
    · rw [hdst]; exact hact.put o.dst Rv.undef
    · have := stepR_op_skip (P := P) (b := b) (k := k) (cs := cs) (w := w) (rest := rest) hw'
      rw [ho] at this
      exact .one this

theorem compL_cons {ops : Array Oper} {o : Oper} {r : List Oper} {l : List AO} (hc : compL P ops (o :: r) = some l) : ∃ ao m, l = ao :: m ∧ compO P ops o = some ao ∧ compL P ops r = some m := by
  simp only [compL] at hc
  split at hc
  · rename_i x m h1 h2; cases hc; exact ⟨x, m, rfl, h1, h2⟩
  · cases hc

/-- Operations in the text's order. -/
theorem evOps_ok {rec : Rec} (hrec : RecOK P rec) {ops : Array Oper} {b : Frame} {k : List Item} : ∀ (r : List Oper) (i : Nat), (∀ j, r[j]? = ops[i + j]?) → ∀ (l : List AO), compL P ops r = some l →
    ∀ {ρ N w0 w h a ca cs x a' h'}, Rep P ρ N w0 h w → StartOK ρ b cs a ca → evOps P rec l a h = some (x, a', h') →
    Went P ρ N w0 (lone (b.atR ca (.inRegion ops (List.range' i r.length) :: k)) cs w) b k cs a x a' h'
  | [], i, _, l, hc, ρ, N, w0, w, h, a, ca, cs, x, a', h', hR, hs, he => by
    simp only [compL, Option.some.injEq] at hc
    subst hc
    simp only [evOps, Option.some.injEq, Prod.mk.injEq] at he
    obtain ⟨rfl, rfl, rfl⟩ := he
    exact ⟨ρ, w, ca, cs, ρ.le_refl, hR, hs.1, CsTo.refl _ _, rfl, .one stepR_region_end⟩
  | o :: r, i, hj, l, hc, ρ, N, w0, w, h, a, ca, cs, x, a', h', hR, hs, he => by
    obtain ⟨ao, m, rfl, hco, hcr⟩ := compL_cons hc
    have ho : ops[i]? = some o := by simpa using (hj 0).symm
    have hj' : ∀ j, r[j]? = ops[i + 1 + j]? := fun j => by have := hj (j + 1); simpa [Nat.add_assoc, Nat.add_comm 1 j] using this
    simp only [List.length_cons, List.range'_succ]
    simp only [evOps] at he
    split at he
    · rename_i a1 h1 hev
      obtain ⟨ρ1, w1, ca1, cs1, hle1, hR1, hact1, hcs1, hrd1, hst1⟩ := evOp_ok hrec hR ho hco hs (rest := List.range' (i + 1) r.length) hev k
      have hs1 := hs.next hle1 hact1 hcs1 hrd1
      obtain ⟨ρ2, w2, ca2, cs2, hle2, hR2, hact2, hcs2, hrd2, harr⟩ := evOps_ok hrec r (i + 1) hj' m hcr hR1 hs1 he
      exact ⟨ρ2, w2, ca2, cs2, Ren.le_trans hle1 hle2, hR2, hact2, hcs1.trans hcs2, hrd2.trans hrd1, Arr.of_steps hst1 harr⟩
    · rename_i v a1 h1 hev
      cases he
      obtain ⟨ρ1, w1, ca1, hle1, hR1, hact1, hrc1, hrd1, todo, u, hnc, hu, hst⟩ := evOp_ok hrec hR ho hco hs (rest := List.range' (i + 1) r.length) hev k
      exact ⟨ρ1, w1, ca1, cs, hle1, hR1, hact1.toP, .inl ⟨hrc1, rfl⟩, hrd1, todo, u, hnc, hu, hst⟩
    · cases he

end Go.Ev
