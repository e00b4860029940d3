/- The evaluator: from a run of it to the call's contract, at a start where some package-level variables are laid. -/
import Derived.Test.YtcofabncajkemaaDoorEv18e
import Derived.FnData
import Derived.OpenShut
import Derived.ChangeArms
import Derived.MakeChecks
import Derived.ChangeShapes
import Derived.RowKit
namespace Go.Ev
open Go Go.RowKit

/-- The program's functions, compiled. -/
def Tof (P : Program) (g : Nat) : Option AFn := (P.funcs[g]?).bind (compF P)

theorem tof_ok {P : Program} (h : P.funcs.toList.all (fun f => !(f.name == "runtime.NumGoroutine")) = true) : TOK P (Tof P) := by
  intro g fn hT
  obtain ⟨f, hf, hc⟩ := bind_some_iff hT
  refine ⟨f, hf, hc, ?_⟩
  have := List.all_eq_true.1 h f (by simpa using Array.mem_of_getElem? hf)
  simpa using this

abbrev Tabs := List (Nat × List Value)

def hstart (n : Nat) : Tabs → H
  | [] => { next := n, t := .leaf }
  | p :: r => (hstart n r).set p.1 (.ro p.2)

/-- The variables hold in a world what the list says. -/
def TabsIn (W : World) (tabs : Tabs) : Prop := ∀ p ∈ tabs, ∀ j u, p.2[j]? = some u → W.cell? ⟨p.1, j, none⟩ = some u

def tabsB (n : Nat) (tabs : Tabs) : Bool := tabs.all fun p => p.2.all isScal && !p.2.isEmpty && Nat.blt p.1 n
def ρstart (n : Nat) : Ren := fun i => if i < n then some (⟨i, 0, none⟩, 0) else none

theorem tabsB_mem {n : Nat} {tabs : Tabs} (h : tabsB n tabs = true) {p : Nat × List Value} (hp : p ∈ tabs) : p.2.all isScal = true ∧ p.2 ≠ [] ∧ p.1 < n := by
  have := List.all_eq_true.1 h p hp
  simp only [Bool.and_eq_true, Bool.not_eq_true', List.isEmpty_eq_false_iff, Nat.blt_eq] at this
  exact ⟨this.1.1, this.1.2, this.2⟩

theorem hstart_get {n : Nat} : ∀ {tabs : Tabs} {i : Nat} {b : Blk}, (hstart n tabs).get i = some b → ∃ p ∈ tabs, p.1 = i ∧ b = .ro p.2
  | [], i, b, h => by
    have : ({ next := n, t := .leaf } : H).get i = none := Trie.get_leaf _
    simp only [hstart] at h
    rw [this] at h; cases h
  | p :: r, i, b, h => by
    simp only [hstart] at h
    by_cases e : i = p.1
    · subst e
      rw [H.get_set_same] at h
      exact ⟨p, List.mem_cons_self .., rfl, (Option.some.inj h).symm⟩
    · rw [H.get_set_ne _ _ (Ne.symm e)] at h
      obtain ⟨q, h1, h2⟩ := hstart_get h
      exact ⟨q, List.mem_cons_of_mem _ h1, h2⟩

theorem hstart_next (n : Nat) : ∀ tabs, (hstart n tabs).next = n
  | [] => rfl
  | _ :: r => (H.next_set _ _ _).trans (hstart_next n r)

theorem rep_start {P : Program} {W : World} {tabs : Tabs} (hB : tabsB P.globals.size tabs = true) (hW : TabsIn W tabs) :
    Rep P (ρstart P.globals.size) W.heap.size W (hstart P.globals.size tabs) W := by
  refine ⟨Below.refl _ _, Nat.le_refl _, ?_, ?_, ?_, ?_, ?_, ?_, ?_⟩
  · intro i hi
    rw [hstart_next] at hi
    have : ¬ i < P.globals.size := Nat.not_lt.2 hi
    simp [ρstart, this]
  · intro i hi
    rw [hstart_next] at hi
    cases hg : (hstart P.globals.size tabs).get i with
    | none => rfl
    | some b =>
      obtain ⟨p, hp, rfl, rfl⟩ := hstart_get hg
      have := (tabsB_mem hB hp).2.2
      omega
  · intro i hi _
    have : ¬ i < P.globals.size := Nat.not_lt.2 hi
    simp [ρstart, this]
  · intro i b hb
    obtain ⟨p, hp, rfl, rfl⟩ := hstart_get hb
    obtain ⟨hs, hne, hg⟩ := tabsB_mem hB hp
    have hlt : p.1 < W.heap.size := by
      obtain ⟨v, l, hl⟩ := List.exists_cons_of_ne_nil hne
      have h0 := hW p hp 0 v (by rw [hl]; rfl)
      rcases Nat.lt_or_ge p.1 W.heap.size with h | h
      · exact h
      · have hn : W.heap[p.1]? = none := Array.getElem?_eq_none_iff.2 h
        simp [World.cell?, hn] at h0
    exact ⟨p.1, 0, 0, p.2, by simp [ρstart, hg], hlt, list_self scal_self hs, fun j u hu => by rw [Nat.zero_add]; exact hW p hp j u hu⟩
  · intro i j b b' x y h1 h2 hne ho
    obtain ⟨p, _, _, rfl⟩ := hstart_get h1
    cases ho
  · intro i b x h1 ho
    obtain ⟨p, _, _, rfl⟩ := hstart_get h1
    cases ho
  · intro g hg'
    exact ⟨0, by simp [ρstart, hg']⟩

/-- What the condition gives: a table's cells. -/
theorem laid_cells {P : Program} {W : World} {gi t e : Nat} {ns : List Int} {k : IntKind} {cs : Array Value} {fuel : Nat} {p : List MemPlace} {name : String} (hg : P.globalNamed name = some gi)
    (hu : P.underlying t = some (.array ns.length e)) (he : P.underlying e = some (.int k)) (hc : P.cellsOf e = 1) (hv : W.var? P name = some cs)
    (hd : DataW.trod (fun _ => ()) P W 0 (fun _ => true) false fuel t cs.toList = some (.agg (ns.map fun n => .lit (.int k n)), p)) :
    ∀ j u, (ns.map (Value.int k))[j]? = some u → W.cell? ⟨gi, j, none⟩ = some u := by
  obtain ⟨xs, m, rfl, hx, hlen, hn, hel⟩ := DataW.trod_array hu hd
  intro j u hj
  rw [List.getElem?_map] at hj
  obtain ⟨n, hnj, rfl⟩ := map_some_iff hj
  have hjl : j < ns.length := (List.getElem?_eq_some_iff.1 hnj).1
  have h1 := hel j hjl
  rw [hc, Nat.mul_one] at h1
  have hxj : j < xs.length := by omega
  rw [List.getElem?_eq_getElem hxj] at h1
  obtain ⟨i, e1, e2, _⟩ := DataW.trod_int he h1
  simp only [Prod.mk.injEq, DataW.agg.injEq] at hx
  have h2 := congrArg (fun l => l[j]?) hx.1
  simp only [List.getElem?_map, hnj, List.getElem?_eq_getElem hxj, Option.map_some, Option.some.injEq] at h2
  rw [e2] at h2
  simp only [DataW.lit.injEq, Lit.int.injEq, true_and] at h2
  subst h2
  rw [World.var?_cell hg hv j]
  have h3 : cs.toList[j]? = some (.int k n) := by
    have := congrArg (fun l => l[0]?) e1
    simpa using this
  simpa using h3

/-- The same of a struct of two numbers. -/
theorem laid_pair {P : Program} {W : World} {gi t : Nat} {k : IntKind} {x y : Int} {f0 f1 : Field} {cs : Array Value} {fuel : Nat} {p : List MemPlace} {name : String} (hg : P.globalNamed name = some gi)
    (hu : P.underlying t = some (.struct #[f0, f1])) (h0 : P.underlying f0.type = some (.int k)) (h1 : P.underlying f1.type = some (.int k)) (o0 : f0.offset = 0) (o1 : f1.offset = 1)
    (c0 : P.cellsOf f0.type = 1) (c1 : P.cellsOf f1.type = 1) (hv : W.var? P name = some cs)
    (hd : DataW.trod (fun _ => ()) P W 0 (fun _ => true) false fuel t cs.toList = some (.agg [.lit (.int k x), .lit (.int k y)], p)) :
    ∀ j u, [Value.int k x, .int k y][j]? = some u → W.cell? ⟨gi, j, none⟩ = some u := by
  obtain ⟨xs, m, rfl, hx, hlen, hn, hel⟩ := DataW.trod_struct hu hd
  have e0 := hel 0 f0 rfl
  have e1 := hel 1 f1 rfl
  rw [c0, o0] at e0
  rw [c1, o1] at e1
  match xs, hn with
  | [a, b], _ =>
    simp only [List.map_cons, List.map_nil, Prod.mk.injEq, DataW.agg.injEq, List.cons.injEq, and_true] at hx
    obtain ⟨n0, a1, a2, _⟩ := DataW.trod_int h0 (show _ = some a from e0)
    obtain ⟨n1, b1, b2, _⟩ := DataW.trod_int h1 (show _ = some b from e1)
    rw [a2, b2] at hx
    simp only [DataW.lit.injEq, Lit.int.injEq, true_and] at hx
    obtain ⟨⟨rfl, rfl⟩, _⟩ := hx
    intro j u hj
    rw [World.var?_cell hg hv j]
    match j with
    | 0 =>
      simp only [List.getElem?_cons_zero, Option.some.injEq] at hj
      subst hj
      have := congrArg (fun l => l[0]?) a1
      simpa using this
    | 1 =>
      simp only [List.getElem?_cons_succ, List.getElem?_cons_zero, Option.some.injEq] at hj
      subst hj
      have := congrArg (fun l => l[0]?) b1
      simpa using this
    | j + 2 => simp at hj

def isTrue : Option (ARes × RC × H) → Bool
  | some (.ret (.bool b), _, _) => b
  | _ => false

/-! ### Calls whose answer is known already: they answer true -/
abbrev Cans := List (Nat × List Value)

def canFind : Cans → Nat → List Value → Bool
  | [], _, _ => false
  | c :: r, g, args => (Nat.beq c.1 g && eqVs c.2 args) || canFind r g args

def canOf (T : Nat → Option AFn) (tabs : Tabs) (cs : Cans) (f : Value) (args : List Value) (rc : RC) (h : H) : Bool :=
  match f, rc with
  | .func (.func g) a b, .unk => a.toList.isEmpty && b.toList.isEmpty && canFind cs g args && (T g).isSome &&
      (tabs.all fun p => match h.get p.1 with | some (.ro l) => eqVs p.2 l | _ => false)
  | _, _ => false

def callKn (k : Bool) (h : H) (r : Option (ARes × RC × H)) : Option (ARes × RC × H) :=
  match k with
  | true => some (.ret (.bool true), .unk, h)
  | false => r

def evK (P : Program) (T : Nat → Option AFn) (tabs : Tabs) (cs : Cans) : Nat → Rec
  | 0 => { call := fun _ _ _ _ => none, loop := fun _ _ _ => none }
  | n + 1 => { call := fun f args rc h => callKn (canOf T tabs cs f args rc h) h (callA P (evK P T tabs cs n) T f args rc h), loop := fun c a h => evC P (evK P T tabs cs n) (.loop c) a h }

noncomputable def evKF (P : Program) (T : Nat → Option AFn) (tabs : Tabs) (cs : Cans) : Nat → RecT := fun n =>
  Nat.rec ⟨fun _ _ _ _ => none, fun _ _ _ => none⟩ (fun _ ih => ⟨fun f args rc h => callKn (canOf T tabs cs f args rc h) h (callT P ih T f args rc h), fun c a h => (cloCT P (.loop c)).run ih a h⟩) n

theorem evKF_ok (P : Program) (T : Nat → Option AFn) (tabs : Tabs) (cs : Cans) : ∀ n, Rr (evKF P T tabs cs n) (evK P T tabs cs n)
  | 0 => ⟨rfl, fun _ _ _ _ _ => .none⟩
  | n + 1 => by
    have ih := evKF_ok P T tabs cs n
    refine ⟨?_, fun c a b h ha => cloCT_ok ih (.loop c) ha⟩
    show (fun f args rc h => callKn (canOf T tabs cs f args rc h) h (callT P (evKF P T tabs cs n) T f args rc h)) = _
    simp only [callT_eq ih]
    rfl

theorem Rep.forget {P : Program} {ρ : Ren} {N : Nat} {w0 w w' : World} {h : H} (R : Rep P ρ N w0 h w) (hb : Below w.heap.size w w') : Rep P ρ N w0 h w' :=
  ⟨R.below.trans (hb.mono R.size), Nat.le_trans R.size hb.size, R.fresh, R.top, R.hole, fun i b hg => (R.blk i b hg).stable hb.size fun x hl hx => by
      obtain ⟨y, hy, hlt⟩ := (R.blk i b hg).lies hl
      rw [hx] at hy; cases hy
      exact hb.block _ hlt, R.excl, R.above, R.glob⟩

/-- What is asked of a known call. -/
def CansOK (P : Program) (tabs : Tabs) (cs : Cans) : Prop :=
  ∀ c ∈ cs, pureF P c.1 = false ∧ c.2.all isScal = true ∧ ∀ W : World, TabsIn W tabs →
    Calls P c.1 c.2.toArray W fun e W' => e = .returned (.bool true) ∧ Below W.heap.size W W'

theorem canFind_sound {P : Program} {tabs : Tabs} : ∀ {cs : Cans}, CansOK P tabs cs → ∀ {g : Nat} {args : List Value}, canFind cs g args = true →
    pureF P g = false ∧ args.all isScal = true ∧ ∀ W : World, TabsIn W tabs → Calls P g args.toArray W fun e W' => e = .returned (.bool true) ∧ Below W.heap.size W W'
  | [], _, _, _, h => by simp [canFind] at h
  | c :: r, hc, g, args, h => by
    simp only [canFind, Bool.or_eq_true, Bool.and_eq_true] at h
    rcases h with ⟨h1, h2⟩ | h
    · obtain ⟨h0, h3, h4⟩ := hc c (List.mem_cons_self ..)
      have e := eqVs_sound h2
      have e1 : c.1 = g := Nat.eq_of_beq_eq_true h1
      rw [← e, ← e1]
      exact ⟨h0, h3, h4⟩
    · exact canFind_sound (fun c h => hc c (List.mem_cons_of_mem _ h)) h

theorem can_call {P : Program} {T : Nat → Option AFn} (hT : TOK P T) {tabs : Tabs} {cs : Cans} (hcs : CansOK P tabs cs) (hB : tabsB P.globals.size tabs = true)
    {f : Value} {args : List Value} {rc : RC} {h : H} (hk : canOf T tabs cs f args rc h = true) {ρ : Ren} {N : Nat} {w0 w : World} (hR : Rep P ρ N w0 h w) {cf : Value} {cargs : Array Value}
    (hf : Rv ρ f cf) (ha : RL ρ args cargs.toList) :
    ∃ nx fr0, (do let d ← Deferred.ofValue cf cargs; invoke d.target d.args : Sem Next).run P w = .ok nx w ∧ entered P nx = some fr0 ∧
      ∀ c cs, ∃ ρ' w', ρ.le ρ' ∧ Rep P ρ' N w0 h w' ∧ ResOK P ρ' fr0 c cs w w' (.ret (.bool true)) := by
  unfold canOf at hk
  split at hk
  · rename_i g a b
    simp only [Bool.and_eq_true] at hk
    obtain ⟨⟨⟨⟨ha0, hb0⟩, hcan⟩, hTg⟩, htab⟩ := hk
    obtain ⟨_, hsc, hcalls⟩ := canFind_sound hcs hcan
    have ea : cargs = args.toArray := by
      have := list_eq scal_eq hsc ha
      rw [← this]
    subst ea
    have hcell : TabsIn w tabs := by
      intro p hp j u hu
      have hpt := List.all_eq_true.1 htab p hp
      obtain ⟨hs, _, hgi⟩ := tabsB_mem hB hp
      split at hpt
      · rename_i l hgl
        have hl := eqVs_sound hpt
        obtain ⟨B, O, c, ds, h1, h2, h3, h4⟩ := hR.blk _ _ hgl
        obtain ⟨c', hc'⟩ := hR.glob p.1 hgi
        rw [hc'] at h1
        simp only [Option.some.injEq, Prod.mk.injEq, Addr.mk.injEq, and_true] at h1
        obtain ⟨⟨rfl, rfl⟩, rfl⟩ := h1
        rw [← hl] at h3
        have := list_eq scal_eq hs h3
        subst this
        have := h4 j u hu
        rwa [Nat.zero_add] at this
      · cases hpt
    have hC := hcalls w hcell
    obtain ⟨fn, hfn⟩ := Option.isSome_iff_exists.1 hTg
    obtain ⟨pf, hpf, hcf, hname⟩ := hT g fn hfn
    obtain ⟨c, hb, _⟩ := compF_parts hcf
    cases hf with
    | func _ _ a' _ b' hx hy =>
      have h1 : a' = #[] := by
        have := hx.length
        simp only [List.isEmpty_iff] at ha0
        rw [ha0] at this
        exact Array.eq_empty_of_size_eq_zero (by simpa using this.symm)
      have h2 : b' = #[] := by
        have := hy.length
        simp only [List.isEmpty_iff] at hb0
        rw [hb0] at this
        exact Array.eq_empty_of_size_eq_zero (by simpa using this.symm)
      subst h1 h2
      refine ⟨.enter g args.toArray, Frame.enter P g args.toArray .normal, ?_, rfl, fun c0 cs0 => ?_⟩
      · simp only [Deferred.ofValue, Sem.run_bind, Sem.run_pure, Result.andThen, invoke, Array.empty_append, Array.append_empty]
        exact run_callFunc_body hpf hname hb _ _
      · obtain ⟨e, w', fr, ⟨rfl, hbel⟩, hst, hfnn, hleave⟩ := hC (c0 :: cs0)
        exact ⟨ρ, w', ρ.le_refl, hR.forget hbel, .bool true, .bool true, Steps.trans hst (.one (step_leave_returned hleave))⟩
  · cases hk

theorem canOf_plus {T : Nat → Option AFn} {tabs : Tabs} {cs : Cans} {n : Nat} (hB : tabsB n tabs = true) {X : XD} (hX : ∀ i, i < n → X.f i = none) {h h2 : H} (p : Plus X h h2) (f : Value) (args : List Value) (rc : RC) :
    canOf T tabs cs f args rc h2 = canOf T tabs cs f args rc h := by
  have key : (tabs.all fun p => match h2.get p.1 with | some (.ro l) => eqVs p.2 l | _ => false) = (tabs.all fun p => match h.get p.1 with | some (.ro l) => eqVs p.2 l | _ => false) := by
    have : ∀ l : Tabs, (∀ q ∈ l, q.1 < n) → (l.all fun p => match h2.get p.1 with | some (.ro l) => eqVs p.2 l | _ => false) = (l.all fun p => match h.get p.1 with | some (.ro l) => eqVs p.2 l | _ => false) := by
      intro l
      induction l with
      | nil => intro _; rfl
      | cons q l ih =>
        intro hq
        have h1 := p.2.1 q.1
        rw [hX q.1 (hq q (List.mem_cons_self ..))] at h1
        simp only at h1
        simp only [List.all_cons, h1, ih fun q' hq' => hq q' (List.mem_cons_of_mem _ hq')]
    exact this tabs fun q hq => (tabsB_mem hB hq).2.2
  cases f <;> try rfl
  rename_i fn a b
  cases fn <;> try rfl
  cases rc <;> try rfl
  simp only [canOf, key]

theorem evK_mono {P : Program} {T : Nat → Option AFn} {tabs : Tabs} {cs : Cans} {G : Nat} (hB : tabsB G tabs = true) : ∀ n, MonoR G (evK P T tabs cs n)
  | 0 => ⟨fun _ _ _ _ _ _ _ _ _ _ _ h => by simp [evK] at h, fun _ _ _ _ _ _ _ _ _ _ h => by simp [evK] at h⟩
  | n + 1 => ⟨fun X f args rc h r rc' h' h2 hX p he => by
      have he' : callKn (canOf T tabs cs f args rc h) h (callA P (evK P T tabs cs n) T f args rc h) = some (r, rc', h') := he
      show ∃ h2', callKn (canOf T tabs cs f args rc h2) h2 (callA P (evK P T tabs cs n) T f args rc h2) = some (r, rc', h2') ∧ _
      rw [canOf_plus hB hX p]
      cases hk : canOf T tabs cs f args rc h with
      | true =>
        rw [hk] at he'
        simp only [callKn, Option.some.injEq, Prod.mk.injEq] at he' ⊢
        obtain ⟨rfl, rfl, rfl⟩ := he'
        exact ⟨h2, ⟨rfl, rfl, rfl⟩, p⟩
      | false =>
        rw [hk] at he'
        exact callA_plus (evK_mono hB n) hX p he',
    fun X c a h x a' h' h2 hX p he => evC_plus (evK_mono hB n) hX (c := .loop c) p he⟩

theorem recOKK {P : Program} (hm : P.follows .mixedOrders = true) {T : Nat → Option AFn} (hT : TOK P T) {tabs : Tabs} {cs : Cans} (hcs : CansOK P tabs cs) (hB : tabsB P.globals.size tabs = true) :
    ∀ n, RecOK P (evK P T tabs cs n)
  | 0 => ⟨evK_mono hB _, fun _ _ _ _ _ _ h => by simp [evK] at h, fun _ _ _ _ _ _ _ _ _ h => by simp [evK] at h, fun _ _ _ _ _ _ h => by simp [evK] at h, fun _ _ _ _ _ _ _ h => by simp [evK] at h⟩
  | n + 1 => by
    have ih := recOKK hm hT hcs hB n
    refine ⟨evK_mono hB _, fun f args h res rc' h' he ρ N w0 w cf cargs hR hf ha => ?_, fun g x y args rc h v rc' h' he ρ N w0 w x' y' args' c0 fs hR hx hy ha hmode => ?_, ?_, fun g args h res rc' h' hp he => ?_⟩
    · have he' : callKn (canOf T tabs cs f args .unk h) h (callA P (evK P T tabs cs n) T f args .unk h) = some (res, rc', h') := he
      cases hk : canOf T tabs cs f args .unk h with
      | true =>
        rw [hk] at he'
        simp only [callKn, Option.some.injEq, Prod.mk.injEq] at he'
        obtain ⟨rfl, rfl, rfl⟩ := he'
        exact can_call hT hcs hB hk hR hf ha
      | false =>
        rw [hk] at he'
        exact callA_call ih hm hT he' hR hf ha
    · have he' : callKn (canOf T tabs cs (.func (.func g) x y) args rc h) h (callA P (evK P T tabs cs n) T (.func (.func g) x y) args rc h) = some (.ret v, rc', h') := he
      have hk : canOf T tabs cs (.func (.func g) x y) args rc h = false := by
        cases rc <;> first | rfl | exact hmode.elim
      rw [hk] at he'
      exact callA_defer ih hm hT he' hR hx hy ha hmode
    · intro code a h x a' h' he ρ N w0 w b k cs' ca hR hst
      have he' : evC P (evK P T tabs cs n) (.loop (compC P code)) a h = some (x, a', h') := he
      simp only [evC] at he'
      refine .pre (.one stepR_inLoop) ?_
      split at he'
      · rename_i a1 h1 h1e
        exact .andThen hst (evC_ok ih hm code hR hst h1e) fun ρ1 w1 ca1 cs1 hle hR1 hs1 => ih.loop code _ _ _ _ _ he' _ _ _ _ _ _ _ _ hR1 hs1
      · rename_i hne
        refine (evC_ok ih hm code (k := .inLoop code :: k) hR hst he').widen (fun id => rfl) ?_
        rintro rfl
        exact hne _ _ he'
    · have hk : ∀ h, canOf T tabs cs (.func (.func g) #[] #[]) args .unk h = false := fun h => by
        cases hk : canOf T tabs cs (.func (.func g) #[] #[]) args .unk h with
        | false => rfl
        | true =>
          simp only [canOf, Bool.and_eq_true] at hk
          have := (canFind_sound hcs hk.1.1.2).1
          rw [hp] at this; cases this
      have he' : callKn (canOf T tabs cs (.func (.func g) #[] #[]) args .unk h) h (callA P (evK P T tabs cs n) T (.func (.func g) #[] #[]) args .unk h) = some (res, rc', h') := he
      rw [hk] at he'
      obtain ⟨e1, e2⟩ := callA_pure hT hp he'
      refine ⟨e1, fun h2 => ?_⟩
      show callKn (canOf T tabs cs (.func (.func g) #[] #[]) args .unk h2) h2 (callA P (evK P T tabs cs n) T (.func (.func g) #[] #[]) args .unk h2) = _
      rw [hk]
      exact e2 h2

/-- **A CLOSED RUN OF THE EVALUATOR IS A RUN OF THE PROGRAM**: a call of arguments without addresses answers true. -/
theorem calls_true {P : Program} {tabs : Tabs} {cs : Cans} {g n : Nat} {args : List Value} (hm : P.follows .mixedOrders = true) (hN : P.funcs.toList.all (fun f => !(f.name == "runtime.NumGoroutine")) = true)
    (hcs : CansOK P tabs cs) (hB : tabsB P.globals.size tabs = true) (hargs : args.all isScal = true)
    (he : isTrue (callT P (evKF P (Tof P) tabs cs n) (Tof P) (.func (.func g) #[] #[]) args .unk (hstart P.globals.size tabs)) = true) (W : World)
    (hW : TabsIn W tabs) :
    Calls P g args.toArray W fun e W' => e = .returned (.bool true) ∧ Below W.heap.size W W' := by
  rw [callT_eq (evKF_ok P (Tof P) tabs cs n)] at he
  unfold isTrue at he
  split at he
  · rename_i b rc h' hrun
    subst he
    have hrec := recOKK hm (tof_ok hN) hcs hB n
    have hR := rep_start (P := P) hB hW
    intro cs0
    simp only [callA] at hrun
    split at hrun
    · rename_i fn hTg
      obtain ⟨pf, hpf, hcf, hname⟩ := tof_ok hN g fn hTg
      split at hrun
      · rename_i x a' h1 hev
        obtain ⟨ρ1, w1, cs1, fr, hle, R1, hcs1, hst, hk, hd, hfn, u, hu, hmo, hru⟩ := body_ok hrec hm hpf hcf (kind := .normal) (cs := cs0) (targs := args.toArray) (by simpa using list_self scal_self hargs)
          (show RcOK _ _ _ .unk from trivial) hev hrun hR
        have e := callsTo_unk hcs1
        subst e
        cases hu
        exact ⟨.returned (.bool true), w1, fr, ⟨rfl, R1.below⟩, hst, hfn, hmo, hd, hk, pf, by rw [hfn]; exact hpf, hru⟩
      · cases hrun
    · cases hrun
  · cases he

theorem cansOK_of {P : Program} {tabs : Tabs} {cs : Cans} {n : Nat} (hm : P.follows .mixedOrders = true) (hN : P.funcs.toList.all (fun f => !(f.name == "runtime.NumGoroutine")) = true)
    (hB : tabsB P.globals.size tabs = true) {ds : Cans} (hds : CansOK P tabs ds) (hsc : (cs.all fun c => c.2.all isScal && !(pureF P c.1)) = true)
    (he : (cs.all fun c => isTrue (callT P (evKF P (Tof P) tabs ds n) (Tof P) (.func (.func c.1) #[] #[]) c.2 .unk (hstart P.globals.size tabs))) = true) : CansOK P tabs cs := by
  intro c hc
  rw [List.all_eq_true] at hsc he
  have h1 := hsc c hc
  simp only [Bool.and_eq_true, Bool.not_eq_true'] at h1
  exact ⟨h1.2, h1.1, fun W hW => calls_true hm hN hds hB h1.1 (he c hc) W hW⟩

theorem cansOK_app {P : Program} {tabs : Tabs} {cs ds : Cans} (h : CansOK P tabs cs) (k : CansOK P tabs ds) : CansOK P tabs (cs ++ ds) := fun c hc => by
  rcases List.mem_append.1 hc with hc | hc
  · exact h c hc
  · exact k c hc

theorem cansOK_nil {P : Program} {tabs : Tabs} : CansOK P tabs [] := fun _ h => by cases h

end Go.Ev
