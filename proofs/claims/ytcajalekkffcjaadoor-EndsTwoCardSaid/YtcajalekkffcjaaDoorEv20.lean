/- The evaluator over a small code, and that what it finds of a call holds of the machine, part 20. -/
import Derived.Test.YtcajalekkffcjaaDoorEv18e
import Derived.FnData
import Derived.OpenShut
import Derived.ChangeArms
import Derived.MakeChecks
import Derived.ChangeShapes
import Derived.RowKit
namespace Go.Ev
open Go Go.RowKit

/-- The program's functions, compiled. -/
def Tof (P : Program) (g : Nat) : Option AFn := (P.funcs[g]?).bind (compF P)

theorem tof_ok {P : Program} (h : P.funcs.toList.all (fun f => !(f.name == "runtime.NumGoroutine")) = true) : TOK P (Tof P) := by
  intro g fn hT
  obtain ⟨f, hf, hc⟩ := bind_some_iff hT
  refine ⟨f, hf, hc, ?_⟩
  have := List.all_eq_true.1 h f (by simpa using Array.mem_of_getElem? hf)
  simpa using this

abbrev Tabs := List (Nat × List Value)

def hstart (n : Nat) : Tabs → H
  | [] => { next := n, t := .leaf }
  | p :: r => (hstart n r).set p.1 (.ro p.2)

/-- The variables hold in a world what the list says. -/
def TabsIn (W : World) (tabs : Tabs) : Prop := ∀ p ∈ tabs, ∀ j u, p.2[j]? = some u → W.cell? ⟨p.1, j, none⟩ = some u

def tabsB (n : Nat) (tabs : Tabs) : Bool := tabs.all fun p => p.2.all isScal && !p.2.isEmpty && Nat.blt p.1 n
def ρstart (n : Nat) : Ren := fun i => if i < n then some (⟨i, 0, none⟩, 0) else none

theorem tabsB_mem {n : Nat} {tabs : Tabs} (h : tabsB n tabs = true) {p : Nat × List Value} (hp : p ∈ tabs) : p.2.all isScal = true ∧ p.2 ≠ [] ∧ p.1 < n := by
  have := List.all_eq_true.1 h p hp
  simp only [Bool.and_eq_true, Bool.not_eq_true', List.isEmpty_eq_false_iff, Nat.blt_eq] at this
  exact ⟨this.1.1, this.1.2, this.2⟩

theorem hstart_get {n : Nat} : ∀ {tabs : Tabs} {i : Nat} {b : Blk}, (hstart n tabs).get i = some b → ∃ p ∈ tabs, p.1 = i ∧ b = .ro p.2
  | [], i, b, h => by
    have : ({ next := n, t := .leaf } : H).get i = none := Trie.get_leaf _
    simp only [hstart] at h
    rw [this] at h; cases h
  | p :: r, i, b, h => by
    simp only [hstart] at h
    by_cases e : i = p.1
    · subst e
      rw [H.get_set_same] at h
      exact ⟨p, List.mem_cons_self .., rfl, (Option.some.inj h).symm⟩
    · rw [H.get_set_ne _ _ (Ne.symm e)] at h
      obtain ⟨q, h1, h2⟩ := hstart_get h
      exact ⟨q, List.mem_cons_of_mem _ h1, h2⟩

theorem hstart_next (n : Nat) : ∀ tabs, (hstart n tabs).next = n
  | [] => rfl
  | _ :: r => (H.next_set _ _ _).trans (hstart_next n r)

theorem rep_start {P : Program} {W : World} {tabs : Tabs} (hB : tabsB P.globals.size tabs = true) (hW : TabsIn W tabs) :
    Rep P (ρstart P.globals.size) W.heap.size W (hstart P.globals.size tabs) W := by
  refine ⟨Below.refl _ _, Nat.le_refl _, ?_, ?_, ?_, ?_, ?_, ?_, ?_⟩
  · intro i hi
    rw [hstart_next] at hi
    have : ¬ i < P.globals.size := Nat.not_lt.2 hi
    simp [ρstart, this]
  · intro i hi
    rw [hstart_next] at hi
    cases hg : (hstart P.globals.size tabs).get i with
    | none => rfl
    | some b =>
      obtain ⟨p, hp, rfl, rfl⟩ := hstart_get hg
      have := (tabsB_mem hB hp).2.2
      omega
  · intro i hi _
    have : ¬ i < P.globals.size := Nat.not_lt.2 hi
    simp [ρstart, this]
  · intro i b hb
    obtain ⟨p, hp, rfl, rfl⟩ := hstart_get hb
    obtain ⟨hs, hne, hg⟩ := tabsB_mem hB hp
    have hlt : p.1 < W.heap.size := by
      obtain ⟨v, l, hl⟩ := List.exists_cons_of_ne_nil hne
      have h0 := hW p hp 0 v (by rw [hl]; rfl)
      rcases Nat.lt_or_ge p.1 W.heap.size with h | h
      · exact h
      · have hn : W.heap[p.1]? = none := Array.getElem?_eq_none_iff.2 h
        simp [World.cell?, hn] at h0
    exact ⟨p.1, 0, 0, p.2, by simp [ρstart, hg], hlt, list_self scal_self hs, fun j u hu => by rw [Nat.zero_add]; exact hW p hp j u hu⟩
  · intro i j b b' x y h1 h2 hne ho
    obtain ⟨p, _, _, rfl⟩ := hstart_get h1
    cases ho
  · intro i b x h1 ho
    obtain ⟨p, _, _, rfl⟩ := hstart_get h1
    cases ho
  · intro g hg'
    exact ⟨0, by simp [ρstart, hg']⟩

/-- What the condition gives: a table's cells. -/
theorem laid_cells {P : Program} {W : World} {gi t e : Nat} {ns : List Int} {k : IntKind} {cs : Array Value} {fuel : Nat} {p : List MemPlace} {name : String} (hg : P.globalNamed name = some gi)
    (hu : P.underlying t = some (.array ns.length e)) (he : P.underlying e = some (.int k)) (hc : P.cellsOf e = 1) (hv : W.var? P name = some cs)
    (hd : DataW.trod (fun _ => ()) P W 0 (fun _ => true) false fuel t cs.toList = some (.agg (ns.map fun n => .lit (.int k n)), p)) :
    ∀ j u, (ns.map (Value.int k))[j]? = some u → W.cell? ⟨gi, j, none⟩ = some u := by
  obtain ⟨xs, m, rfl, hx, hlen, hn, hel⟩ := DataW.trod_array hu hd
  intro j u hj
  rw [List.getElem?_map] at hj
  obtain ⟨n, hnj, rfl⟩ := map_some_iff hj
  have hjl : j < ns.length := (List.getElem?_eq_some_iff.1 hnj).1
  have h1 := hel j hjl
  rw [hc, Nat.mul_one] at h1
  have hxj : j < xs.length := by omega
  rw [List.getElem?_eq_getElem hxj] at h1
  obtain ⟨i, e1, e2, _⟩ := DataW.trod_int he h1
  simp only [Prod.mk.injEq, DataW.agg.injEq] at hx
  have h2 := congrArg (fun l => l[j]?) hx.1
  simp only [List.getElem?_map, hnj, List.getElem?_eq_getElem hxj, Option.map_some, Option.some.injEq] at h2
  rw [e2] at h2
  simp only [DataW.lit.injEq, Lit.int.injEq, true_and] at h2
  subst h2
  rw [World.var?_cell hg hv j]
  have h3 : cs.toList[j]? = some (.int k n) := by
    have := congrArg (fun l => l[0]?) e1
    simpa using this
  simpa using h3

/-- The same of a struct of two numbers. -/
theorem laid_pair {P : Program} {W : World} {gi t : Nat} {k : IntKind} {x y : Int} {f0 f1 : Field} {cs : Array Value} {fuel : Nat} {p : List MemPlace} {name : String} (hg : P.globalNamed name = some gi)
    (hu : P.underlying t = some (.struct #[f0, f1])) (h0 : P.underlying f0.type = some (.int k)) (h1 : P.underlying f1.type = some (.int k)) (o0 : f0.offset = 0) (o1 : f1.offset = 1)
    (c0 : P.cellsOf f0.type = 1) (c1 : P.cellsOf f1.type = 1) (hv : W.var? P name = some cs)
    (hd : DataW.trod (fun _ => ()) P W 0 (fun _ => true) false fuel t cs.toList = some (.agg [.lit (.int k x), .lit (.int k y)], p)) :
    ∀ j u, [Value.int k x, .int k y][j]? = some u → W.cell? ⟨gi, j, none⟩ = some u := by
  obtain ⟨xs, m, rfl, hx, hlen, hn, hel⟩ := DataW.trod_struct hu hd
  have e0 := hel 0 f0 rfl
  have e1 := hel 1 f1 rfl
  rw [c0, o0] at e0
  rw [c1, o1] at e1
  match xs, hn with
  | [a, b], _ =>
    simp only [List.map_cons, List.map_nil, Prod.mk.injEq, DataW.agg.injEq, List.cons.injEq, and_true] at hx
    obtain ⟨n0, a1, a2, _⟩ := DataW.trod_int h0 (show _ = some a from e0)
    obtain ⟨n1, b1, b2, _⟩ := DataW.trod_int h1 (show _ = some b from e1)
    rw [a2, b2] at hx
    simp only [DataW.lit.injEq, Lit.int.injEq, true_and] at hx
    obtain ⟨⟨rfl, rfl⟩, _⟩ := hx
    intro j u hj
    rw [World.var?_cell hg hv j]
    match j with
    | 0 =>
      simp only [List.getElem?_cons_zero, Option.some.injEq] at hj
      subst hj
      have := congrArg (fun l => l[0]?) a1
      simpa using this
    | 1 =>
      simp only [List.getElem?_cons_succ, List.getElem?_cons_zero, Option.some.injEq] at hj
      subst hj
      have := congrArg (fun l => l[0]?) b1
      simpa using this
    | j + 2 => simp at hj

/-! ### Calls whose answer is known already -/
def eqF : Value → Value → Bool
  | .agg a, .agg b => eqVs a.toList b.toList
  | v, u => eqV v u

def eqFs : List Value → List Value → Bool
  | [], [] => true
  | a :: r, b :: s => eqF a b && eqFs r s
  | _, _ => false

def eqR : Value → Value → Bool
  | .tuple a, .tuple b => eqFs a.toList b.toList
  | v, u => eqF v u

theorem eqF_sound {v u : Value} (h : eqF v u = true) : v = u := by
  unfold eqF at h
  split at h
  · rw [arr_eq (eqVs_sound h)]
  · exact eqV_sound h

theorem eqFs_sound : ∀ {l m : List Value}, eqFs l m = true → l = m
  | [], [], _ => rfl
  | a :: l, b :: m, h => by
    simp only [eqFs, Bool.and_eq_true] at h
    rw [eqF_sound h.1, eqFs_sound h.2]
  | [], _ :: _, h => by cases h
  | _ :: _, [], h => by cases h

theorem eqR_sound {v u : Value} (h : eqR v u = true) : v = u := by
  unfold eqR at h
  split at h
  · rw [arr_eq (eqFs_sound h)]
  · exact eqF_sound h

/-- An argument: a value without addresses, or a slice of n rows with these cells. -/
inductive Pat where
  | val (v : Value)
  | sl (n : Nat) (cs : List Value)

structure Can where
  g : Nat
  args : List Pat
  res : Value

abbrev Cans := List Can

def matchP (h : H) : Pat → Value → Option Bool
  | .val v, u => some (eqR v u)
  | .sl n cs, .slice (some a) m _ => if n = m then (h.cells a cs.length).map (eqVs cs) else some false
  | .sl _ _, _ => some false

def matchPs (h : H) : List Pat → List Value → Option Bool
  | [], [] => some true
  | p :: ps, v :: vs => match matchP h p v with
    | some true => matchPs h ps vs
    | r => r
  | _, _ => some false

def canFind (h : H) : Cans → Nat → List Value → Option (Option Value)
  | [], _, _ => some none
  | c :: r, g, args => match Nat.beq c.g g with
    | true => (match matchPs h c.args args with
      | some true => some (some c.res)
      | some false => canFind h r g args
      | none => none)
    | false => canFind h r g args

def tabsAt (tabs : Tabs) (h : H) : Bool := tabs.all fun p => match h.get p.1 with | some (.ro l) => eqVs p.2 l | _ => false

/-- none: it cannot be told. -/
def canOf (T : Nat → Option AFn) (tabs : Tabs) (cs : Cans) (f : Value) (args : List Value) (rc : RC) (h : H) : Option (Option Value) :=
  match f, rc with
  | .func (.func g) a b, .unk => (match a.toList.isEmpty && b.toList.isEmpty with
    | true => (match canFind h cs g args with
      | some (some v) => (match (T g).isSome && tabsAt tabs h with
        | true => some (some v)
        | false => some none)
      | r => r)
    | false => some none)
  | _, _ => some none

def callKn (k : Option (Option Value)) (h : H) (r : Option (ARes × RC × H)) : Option (ARes × RC × H) :=
  match k with
  | some (some v) => some (.ret v, .unk, h)
  | some none => r
  | none => none

def evK (P : Program) (T : Nat → Option AFn) (tabs : Tabs) (cs : Cans) : Nat → Rec
  | 0 => { call := fun _ _ _ _ => none, loop := fun _ _ _ => none }
  | n + 1 => { call := fun f args rc h => callKn (canOf T tabs cs f args rc h) h (callA P (evK P T tabs cs n) T f args rc h), loop := fun c a h => evC P (evK P T tabs cs n) (.loop c) a h }

noncomputable def evKF (P : Program) (T : Nat → Option AFn) (tabs : Tabs) (cs : Cans) : Nat → RecT := fun n =>
  Nat.rec ⟨fun _ _ _ _ => none, fun _ _ _ => none⟩ (fun _ ih => ⟨fun f args rc h => callKn (canOf T tabs cs f args rc h) h (callT P ih T f args rc h), fun c a h => (cloCT P (.loop c)).run ih a h⟩) n

theorem evKF_ok (P : Program) (T : Nat → Option AFn) (tabs : Tabs) (cs : Cans) : ∀ n, Rr (evKF P T tabs cs n) (evK P T tabs cs n)
  | 0 => ⟨rfl, fun _ _ _ _ _ => .none⟩
  | n + 1 => by
    have ih := evKF_ok P T tabs cs n
    refine ⟨?_, fun c a b h ha => cloCT_ok ih (.loop c) ha⟩
    show (fun f args rc h => callKn (canOf T tabs cs f args rc h) h (callT P (evKF P T tabs cs n) T f args rc h)) = _
    simp only [callT_eq ih]
    rfl

theorem Rep.forget {P : Program} {ρ : Ren} {N : Nat} {w0 w w' : World} {h : H} (R : Rep P ρ N w0 h w) (hb : Below w.heap.size w w') : Rep P ρ N w0 h w' :=
  ⟨R.below.trans (hb.mono R.size), Nat.le_trans R.size hb.size, R.fresh, R.top, R.hole, fun i b hg => (R.blk i b hg).stable hb.size fun x hl hx => by
      obtain ⟨y, hy, hlt⟩ := (R.blk i b hg).lies hl
      rw [hx] at hy; cases hy
      exact hb.block _ hlt, R.excl, R.above, R.glob⟩

def Pat.ok : Pat → Bool
  | .val v => isFlat v
  | .sl n cs => cs.all isScal && !cs.isEmpty && !(Nat.beq n 0)

/-- What stands in a world for such an argument. -/
def PatW (W : World) : Pat → Value → Prop
  | .val v, u => u = v
  | .sl n cs, u => ∃ B O c, u = .slice (some ⟨B, O, none⟩) n c ∧ n ≤ c ∧ ∀ j x, cs[j]? = some x → W.cell? ⟨B, O + j, none⟩ = some x

def PatsW (W : World) : List Pat → List Value → Prop
  | [], [] => True
  | p :: ps, u :: us => PatW W p u ∧ PatsW W ps us
  | _, _ => False

/-- What is asked of a known call. -/
structure CanOK (P : Program) (tabs : Tabs) (c : Can) : Prop where
  pure : pureF P c.g = false
  args : c.args.all Pat.ok = true
  res : closedV c.res = true
  calls : ∀ (W : World) (cargs : Array Value), TabsIn W tabs → PatsW W c.args cargs.toList → Calls P c.g cargs W fun e W' => e = .returned c.res ∧ Below W.heap.size W W'

def CansOK (P : Program) (tabs : Tabs) (cs : Cans) : Prop := ∀ c ∈ cs, CanOK P tabs c

theorem canFind_sound {h : H} : ∀ {cs : Cans} {g : Nat} {args : List Value} {v : Value}, canFind h cs g args = some (some v) → ∃ c ∈ cs, c.g = g ∧ c.res = v ∧ matchPs h c.args args = some true
  | [], _, _, _, hk => by simp [canFind] at hk
  | c :: r, g, args, v, hk => by
    have rest : canFind h r g args = some (some v) → ∃ c' ∈ c :: r, c'.g = g ∧ c'.res = v ∧ matchPs h c'.args args = some true := fun hk => by
      obtain ⟨c', h1, h2⟩ := canFind_sound hk
      exact ⟨c', List.mem_cons_of_mem _ h1, h2⟩
    simp only [canFind] at hk
    split at hk
    · rename_i hg
      split at hk
      · rename_i hm
        simp only [Option.some.injEq] at hk
        exact ⟨c, List.mem_cons_self .., Nat.eq_of_beq_eq_true hg, hk, hm⟩
      · exact rest hk
      · cases hk
    · exact rest hk

theorem matchP_ok {P : Program} {ρ : Ren} {N : Nat} {w0 w : World} {h : H} (hR : Rep P ρ N w0 h w) {p : Pat} (hp : p.ok = true) {v u : Value} (hv : Rv ρ v u) (hm : matchP h p v = some true) : PatW w p u := by
  cases p with
  | val x =>
    simp only [matchP, Option.some.injEq] at hm
    have e := eqR_sound hm
    subst e
    exact flat_eq hp hv
  | sl n cs =>
    simp only [Pat.ok, Bool.and_eq_true] at hp
    unfold matchP at hm
    split at hm
    · rename_i heq; cases heq
    · rename_i n' cs' a m sk heq
      cases heq
      split at hm
      · rename_i hn
        subst hn
        obtain ⟨xs, hxs, he⟩ := map_some_iff hm
        have e := eqVs_sound he
        subst e
        obtain ⟨i, off, s⟩ := a
        have hn0 : n ≠ 0 := fun e => by have := hp.2; rw [e] at this; simp at this
        obtain ⟨rfl, B, O, c, hρ, hle, rfl⟩ := slice_inv' hv hn0
        obtain ⟨_, _, ds, hrl, hcell⟩ := cells_ok hR hxs hρ
        have := list_eq (p := isScal) scal_eq hp.1.1 hrl
        subst this
        exact ⟨B, O + off, _, rfl, hle, fun j x hx => by have := hcell j x hx; rwa [Addr.add_lit] at this⟩
      · cases hm
    · cases hm

theorem matchPs_ok {P : Program} {ρ : Ren} {N : Nat} {w0 w : World} {h : H} (hR : Rep P ρ N w0 h w) : ∀ {ps : List Pat}, ps.all Pat.ok = true → ∀ {vs us : List Value}, RL ρ vs us → matchPs h ps vs = some true → PatsW w ps us
  | [], _, [], us, hv, _ => by cases hv; trivial
  | [], _, _ :: _, us, hv, hm => by simp [matchPs] at hm
  | _ :: _, _, [], us, hv, hm => by simp [matchPs] at hm
  | p :: ps, hp, v :: vs, us, hv, hm => by
    simp only [List.all_cons, Bool.and_eq_true] at hp
    cases hv with
    | cons h1 h2 =>
      simp only [matchPs] at hm
      split at hm
      · rename_i hm1
        exact ⟨matchP_ok hR hp.1 h1 hm1, matchPs_ok hR hp.2 h2 hm⟩
      · rename_i r hr
        exact absurd hm hr

theorem tabsAt_ok {P : Program} {ρ : Ren} {N : Nat} {w0 w : World} {h : H} (hR : Rep P ρ N w0 h w) {tabs : Tabs} (hB : tabsB P.globals.size tabs = true) (htab : tabsAt tabs h = true) : TabsIn w tabs := by
  intro p hp j u hu
  have hpt := List.all_eq_true.1 htab p hp
  obtain ⟨hs, _, hgi⟩ := tabsB_mem hB hp
  split at hpt
  · rename_i l hgl
    have hl := eqVs_sound hpt
    obtain ⟨B, O, c, ds, h1, h2, h3, h4⟩ := hR.blk _ _ hgl
    obtain ⟨c', hc'⟩ := hR.glob p.1 hgi
    rw [hc'] at h1
    simp only [Option.some.injEq, Prod.mk.injEq, Addr.mk.injEq, and_true] at h1
    obtain ⟨⟨rfl, rfl⟩, rfl⟩ := h1
    rw [← hl] at h3
    have := list_eq scal_eq hs h3
    subst this
    have := h4 j u hu
    rwa [Nat.zero_add] at this
  · cases hpt

theorem canOf_some {T : Nat → Option AFn} {tabs : Tabs} {cs : Cans} {f : Value} {args : List Value} {rc : RC} {h : H} {v : Value} (hk : canOf T tabs cs f args rc h = some (some v)) :
    ∃ g a b, f = .func (.func g) a b ∧ rc = .unk ∧ a.toList = [] ∧ b.toList = [] ∧ (T g).isSome = true ∧ tabsAt tabs h = true ∧ canFind h cs g args = some (some v) := by
  unfold canOf at hk
  split at hk
  · rename_i g a b
    split at hk
    · rename_i hab
      simp only [Bool.and_eq_true, List.isEmpty_iff] at hab
      split at hk
      · rename_i v' hc
        split at hk
        · rename_i ht
          simp only [Bool.and_eq_true] at ht
          simp only [Option.some.injEq] at hk
          subst hk
          exact ⟨g, a, b, rfl, rfl, hab.1, hab.2, ht.1, ht.2, hc⟩
        · cases hk
      · rename_i hne
        exact absurd hk (hne _)
    · cases hk
  · cases hk

theorem can_call {P : Program} {T : Nat → Option AFn} (hT : TOK P T) {tabs : Tabs} {cs : Cans} (hcs : CansOK P tabs cs) (hB : tabsB P.globals.size tabs = true)
    {f : Value} {args : List Value} {rc : RC} {h : H} {v : Value} (hk : canOf T tabs cs f args rc h = some (some v)) {ρ : Ren} {N : Nat} {w0 w : World} (hR : Rep P ρ N w0 h w) {cf : Value} {cargs : Array Value}
    (hf : Rv ρ f cf) (ha : RL ρ args cargs.toList) :
    ∃ nx fr0, (do let d ← Deferred.ofValue cf cargs; invoke d.target d.args : Sem Next).run P w = .ok nx w ∧ entered P nx = some fr0 ∧
      ∀ c cs, ∃ ρ' w', ρ.le ρ' ∧ Rep P ρ' N w0 h w' ∧ ResOK P ρ' fr0 c cs w w' (.ret v) := by
  obtain ⟨g, a, b, rfl, rfl, ha0, hb0, hTg, htab, hcan⟩ := canOf_some hk
  obtain ⟨c, hc, rfl, rfl, hm⟩ := canFind_sound hcan
  have hok := hcs c hc
  have hC := hok.calls w cargs (tabsAt_ok hR hB htab) (matchPs_ok hR hok.args ha hm)
  obtain ⟨fn, hfn⟩ := Option.isSome_iff_exists.1 hTg
  obtain ⟨pf, hpf, hcf, hname⟩ := hT c.g fn hfn
  obtain ⟨c', hb, _⟩ := compF_parts hcf
  cases hf with
  | func _ _ a' _ b' hx hy =>
    have h1 : a' = #[] := by
      have := hx.length
      rw [ha0] at this
      exact Array.eq_empty_of_size_eq_zero (by simpa using this.symm)
    have h2 : b' = #[] := by
      have := hy.length
      rw [hb0] at this
      exact Array.eq_empty_of_size_eq_zero (by simpa using this.symm)
    subst h1 h2
    refine ⟨.enter c.g cargs, Frame.enter P c.g cargs .normal, ?_, rfl, fun c0 cs0 => ?_⟩
    · simp only [Deferred.ofValue, Sem.run_bind, Sem.run_pure, Result.andThen, invoke, Array.empty_append, Array.append_empty]
      exact run_callFunc_body hpf hname hb _ _
    · obtain ⟨e, w', fr, ⟨rfl, hbel⟩, hst, hfnn, hleave⟩ := hC (c0 :: cs0)
      exact ⟨ρ, w', ρ.le_refl, hR.forget hbel, c.res, closed_self hok.res, Steps.trans hst (.one (step_leave_returned hleave))⟩

theorem matchP_plus {X : XD} {h h2 : H} (p : Plus X h h2) {q : Pat} {v : Value} {b : Bool} (hm : matchP h q v = some b) : matchP h2 q v = some b := by
  unfold matchP at hm ⊢
  split at hm
  · exact hm
  · split at hm
    · rename_i hn
      rw [if_pos hn]
      obtain ⟨xs, hxs, he⟩ := map_some_iff hm
      rw [p.cells hxs, Option.map_some, he]
    · rename_i hn
      rw [if_neg hn]
      exact hm
  · exact hm

theorem matchPs_plus {X : XD} {h h2 : H} (p : Plus X h h2) : ∀ {ps : List Pat} {vs : List Value} {b : Bool}, matchPs h ps vs = some b → matchPs h2 ps vs = some b
  | [], [], _, hm => hm
  | [], _ :: _, _, hm => hm
  | _ :: _, [], _, hm => hm
  | q :: ps, v :: vs, b, hm => by
    simp only [matchPs] at hm ⊢
    split at hm
    · rename_i h1
      rw [matchP_plus p h1]
      exact matchPs_plus p hm
    · rename_i hne
      rw [matchP_plus p hm]
      cases b with
      | false => rfl
      | true => exact absurd hm hne

theorem canFind_plus {X : XD} {h h2 : H} (p : Plus X h h2) : ∀ {cs : Cans} {g : Nat} {args : List Value} {x : Option Value}, canFind h cs g args = some x → canFind h2 cs g args = some x
  | [], _, _, _, hk => hk
  | c :: r, g, args, x, hk => by
    simp only [canFind] at hk ⊢
    split at hk
    · split at hk
      · rename_i hm; rw [matchPs_plus p hm]; exact hk
      · rename_i hm; rw [matchPs_plus p hm]; exact canFind_plus p hk
      · cases hk
    · exact canFind_plus p hk

theorem tabsAt_plus {tabs : Tabs} {n : Nat} (hB : tabsB n tabs = true) {X : XD} (hX : ∀ i, i < n → X.f i = none) {h h2 : H} (p : Plus X h h2) : tabsAt tabs h2 = tabsAt tabs h := by
  have : ∀ l : Tabs, (∀ q ∈ l, q.1 < n) → tabsAt l h2 = tabsAt l h := by
    intro l
    induction l with
    | nil => intro _; rfl
    | cons q l ih =>
      intro hq
      have h1 := p.2.1 q.1
      rw [hX q.1 (hq q (List.mem_cons_self ..))] at h1
      simp only at h1
      have := ih fun q' hq' => hq q' (List.mem_cons_of_mem _ hq')
      unfold tabsAt at this ⊢
      simp only [List.all_cons, h1, this]
  exact this tabs fun q hq => (tabsB_mem hB hq).2.2

theorem canOf_plus {T : Nat → Option AFn} {tabs : Tabs} {cs : Cans} {n : Nat} (hB : tabsB n tabs = true) {X : XD} (hX : ∀ i, i < n → X.f i = none) {h h2 : H} (p : Plus X h h2) {f : Value} {args : List Value} {rc : RC} {x : Option Value}
    (hk : canOf T tabs cs f args rc h = some x) : canOf T tabs cs f args rc h2 = some x := by
  unfold canOf at hk ⊢
  split at hk
  · split at hk
    · rw [tabsAt_plus hB hX p]
      split at hk
      · rename_i v hc
        rw [canFind_plus p hc]
        exact hk
      · rename_i hne
        rw [canFind_plus p hk]
        cases x with
        | none => rfl
        | some v => exact absurd hk (hne v)
    · exact hk
  · exact hk

theorem evK_mono {P : Program} {T : Nat → Option AFn} {tabs : Tabs} {cs : Cans} {G : Nat} (hB : tabsB G tabs = true) : ∀ n, MonoR G (evK P T tabs cs n)
  | 0 => ⟨fun _ _ _ _ _ _ _ _ _ _ _ h => by simp [evK] at h, fun _ _ _ _ _ _ _ _ _ _ h => by simp [evK] at h⟩
  | n + 1 => ⟨fun X f args rc h r rc' h' h2 hX p he => by
      have he' : callKn (canOf T tabs cs f args rc h) h (callA P (evK P T tabs cs n) T f args rc h) = some (r, rc', h') := he
      show ∃ h2', callKn (canOf T tabs cs f args rc h2) h2 (callA P (evK P T tabs cs n) T f args rc h2) = some (r, rc', h2') ∧ _
      cases hk : canOf T tabs cs f args rc h with
      | none => rw [hk] at he'; cases he'
      | some x =>
        rw [canOf_plus hB hX p hk]
        rw [hk] at he'
        cases x with
        | some v =>
          simp only [callKn, Option.some.injEq, Prod.mk.injEq] at he' ⊢
          obtain ⟨rfl, rfl, rfl⟩ := he'
          exact ⟨h2, ⟨rfl, rfl, rfl⟩, p⟩
        | none => exact callA_plus (evK_mono hB n) hX p he',
    fun X c a h x a' h' h2 hX p he => evC_plus (evK_mono hB n) hX (c := .loop c) p he⟩

theorem recOKK {P : Program} (hm : P.follows .mixedOrders = true) {T : Nat → Option AFn} (hT : TOK P T) {tabs : Tabs} {cs : Cans} (hcs : CansOK P tabs cs) (hB : tabsB P.globals.size tabs = true) :
    ∀ n, RecOK P (evK P T tabs cs n)
  | 0 => ⟨evK_mono hB _, fun _ _ _ _ _ _ h => by simp [evK] at h, fun _ _ _ _ _ _ _ _ _ h => by simp [evK] at h, fun _ _ _ _ _ _ h => by simp [evK] at h, fun _ _ _ _ _ _ _ h => by simp [evK] at h⟩
  | n + 1 => by
    have ih := recOKK hm hT hcs hB n
    refine ⟨evK_mono hB _, fun f args h res rc' h' he ρ N w0 w cf cargs hR hf ha => ?_, fun g x y args rc h v rc' h' he ρ N w0 w x' y' args' c0 fs hR hx hy ha hmode => ?_, ?_, fun g args h res rc' h' hp he => ?_⟩
    · have he' : callKn (canOf T tabs cs f args .unk h) h (callA P (evK P T tabs cs n) T f args .unk h) = some (res, rc', h') := he
      cases hk : canOf T tabs cs f args .unk h with
      | none => rw [hk] at he'; cases he'
      | some x =>
        rw [hk] at he'
        cases x with
        | some v =>
          simp only [callKn, Option.some.injEq, Prod.mk.injEq] at he'
          obtain ⟨rfl, rfl, rfl⟩ := he'
          exact can_call hT hcs hB hk hR hf ha
        | none => exact callA_call ih hm hT he' hR hf ha
    · have he' : callKn (canOf T tabs cs (.func (.func g) x y) args rc h) h (callA P (evK P T tabs cs n) T (.func (.func g) x y) args rc h) = some (.ret v, rc', h') := he
      have hk : canOf T tabs cs (.func (.func g) x y) args rc h = some none := by
        cases rc <;> first | rfl | exact hmode.elim
      rw [hk] at he'
      exact callA_defer ih hm hT he' hR hx hy ha hmode
    · intro code a h x a' h' he ρ N w0 w b k cs' ca hR hst
      have he' : evC P (evK P T tabs cs n) (.loop (compC P code)) a h = some (x, a', h') := he
      simp only [evC] at he'
      refine .pre (.one stepR_inLoop) ?_
      split at he'
      · rename_i a1 h1 h1e
        exact .andThen hst (evC_ok ih hm code hR hst h1e) fun ρ1 w1 ca1 cs1 hle hR1 hs1 => ih.loop code _ _ _ _ _ he' _ _ _ _ _ _ _ _ hR1 hs1
      · rename_i hne
        refine (evC_ok ih hm code (k := .inLoop code :: k) hR hst he').widen (fun id => rfl) ?_
        rintro rfl
        exact hne _ _ he'
    · have hk : ∀ h, canOf T tabs cs (.func (.func g) #[] #[]) args .unk h = some none := fun h => by
        have hno : ∀ {ds : Cans}, (∀ c ∈ ds, CanOK P tabs c) → canFind h ds g args = some none := by
          intro ds
          induction ds with
          | nil => intro _; rfl
          | cons c r ihd =>
            intro hds
            simp only [canFind]
            cases hg : Nat.beq c.g g with
            | false => exact ihd fun c hc => hds c (List.mem_cons_of_mem _ hc)
            | true =>
              have := (hds c (List.mem_cons_self ..)).pure
              rw [Nat.eq_of_beq_eq_true hg, hp] at this; cases this
        simp only [canOf, hno hcs]
        rfl
      have he' : callKn (canOf T tabs cs (.func (.func g) #[] #[]) args .unk h) h (callA P (evK P T tabs cs n) T (.func (.func g) #[] #[]) args .unk h) = some (res, rc', h') := he
      rw [hk] at he'
      obtain ⟨e1, e2⟩ := callA_pure hT hp he'
      refine ⟨e1, fun h2 => ?_⟩
      show callKn (canOf T tabs cs (.func (.func g) #[] #[]) args .unk h2) h2 (callA P (evK P T tabs cs n) T (.func (.func g) #[] #[]) args .unk h2) = _
      rw [hk]
      exact e2 h2

/-! ### Slices that come in -/
def noOwn (h : H) : Prop := ∀ i b, h.get i = some b → b.own = false

theorem noOwn_hstart (n : Nat) (tabs : Tabs) : noOwn (hstart n tabs) := fun i b hb => by
  obtain ⟨p, _, _, rfl⟩ := hstart_get hb; rfl

theorem noOwn.ro {h : H} (hn : noOwn h) (cs : List Value) : noOwn (h.alloc (.ro cs)) := fun i b hb => by
  by_cases e : i = h.next
  · subst e; rw [H.get_alloc_same] at hb; cases hb; rfl
  · rw [H.get_alloc_ne h _ e] at hb; exact hn i b hb

/-- Where nothing is the call's own yet, whatever lies in the world may be seen under a new number. -/
theorem Rep.see {P : Program} {ρ : Ren} {N : Nat} {w0 w : World} {h : H} (R : Rep P ρ N w0 h w) (hn : noOwn h) (cs : List Value) (a : Addr) (c : Nat) (hs : a.spot = none) (hlt : a.block < w.heap.size) {ds : List Value} (hr : RL ρ cs ds)
    (hc : ∀ j u, ds[j]? = some u → w.cell? ⟨a.block, a.off + j, none⟩ = some u) : Rep P (ρ.upd h.next (a, c)) N w0 (h.alloc (.ro cs)) w := by
  obtain ⟨B, O, s⟩ := a
  simp only at hs hlt hc
  subst hs
  have hfr := R.fresh h.next (Nat.le_refl _)
  have hle := Ren.le_upd (⟨B, O, none⟩, c) hfr
  have hno := hn.ro cs
  refine ⟨R.below, R.size, ?_, ?_, ?_, ?_, ?_, ?_, ?_⟩
  · intro i hi
    rw [H.next_alloc] at hi
    rw [Ren.upd_ne ρ _ (by omega)]
    exact R.fresh i (by omega)
  · intro i hi
    rw [H.next_alloc] at hi
    rw [H.get_alloc_ne h _ (by omega)]
    exact R.top i (by omega)
  · intro i hi hg
    by_cases e : i = h.next
    · subst e; rw [H.get_alloc_same] at hg; cases hg
    · rw [H.get_alloc_ne h _ e] at hg
      rw [Ren.upd_ne ρ _ e]
      exact R.hole i hi hg
  · intro i b' hg
    by_cases e : i = h.next
    · subst e
      rw [H.get_alloc_same] at hg
      cases hg
      exact ⟨B, O, c, ds, Ren.upd_same _ _ _, hlt, hr.mono hle, hc⟩
    · rw [H.get_alloc_ne h _ e] at hg
      exact (R.blk i b' hg).mono hle
  · intro i j b1 b2 x y h1 _ _ ho
    rw [hno i b1 h1] at ho; cases ho
  · intro i b1 x h1 ho
    rw [hno i b1 h1] at ho; cases ho
  · intro g hg
    obtain ⟨c', hc'⟩ := R.glob g hg
    exact ⟨c', hle _ _ hc'⟩

def sstart : List Pat → H → List Value × H
  | [], h => ([], h)
  | .val v :: r, h => let x := sstart r h; (v :: x.1, x.2)
  | .sl n cs :: r, h => let x := sstart r (h.alloc (.ro cs)); (.slice (some ⟨h.next, 0, none⟩) n 0 :: x.1, x.2)

theorem rep_sstart {P : Program} {N : Nat} {w0 W : World} : ∀ {ps : List Pat} {us : List Value} {h : H} {ρ : Ren}, ps.all Pat.ok = true → PatsW W ps us → Rep P ρ N w0 h W → noOwn h →
    ∃ ρ', ρ.le ρ' ∧ Rep P ρ' N w0 (sstart ps h).2 W ∧ RL ρ' (sstart ps h).1 us
  | [], [], h, ρ, _, _, R, _ => ⟨ρ, ρ.le_refl, R, .nil⟩
  | [], _ :: _, _, _, _, hw, _, _ => hw.elim
  | _ :: _, [], _, _, _, hw, _, _ => hw.elim
  | .val v :: ps, u :: us, h, ρ, hp, hw, R, hn => by
    simp only [List.all_cons, Bool.and_eq_true] at hp
    obtain ⟨ρ', h1, h2, h3⟩ := rep_sstart hp.2 hw.2 R hn
    have e : u = v := hw.1
    subst e
    exact ⟨ρ', h1, h2, .cons (flat_self hp.1) h3⟩
  | .sl n cs :: ps, u :: us, h, ρ, hp, hw, R, hn => by
    simp only [List.all_cons, Bool.and_eq_true] at hp
    obtain ⟨B, O, c, rfl, hle, hcell⟩ := hw.1
    have hp1 := hp.1
    simp only [Pat.ok, Bool.and_eq_true, Bool.not_eq_true', List.isEmpty_eq_false_iff] at hp1
    have hp1 := hp1.1
    have hlt : B < W.heap.size := by
      obtain ⟨v, l, hl⟩ := List.exists_cons_of_ne_nil hp1.2
      have h0 := hcell 0 v (by rw [hl]; rfl)
      rcases Nat.lt_or_ge B W.heap.size with h | h
      · exact h
      · have hn : W.heap[B]? = none := Array.getElem?_eq_none_iff.2 h
        simp [World.cell?, hn] at h0
    have R1 := R.see hn cs ⟨B, O, none⟩ c rfl hlt (list_self scal_self hp1.1) hcell
    obtain ⟨ρ', h1, h2, h3⟩ := rep_sstart hp.2 hw.2 R1 (hn.ro cs)
    refine ⟨ρ', Ren.le_trans (Ren.le_upd _ (R.fresh h.next (Nat.le_refl _))) h1, h2, .cons ?_ h3⟩
    have := Rv.slice0 (ρ := ρ') h.next 0 n B O c (h1 _ _ (Ren.upd_same _ _ _)) hle
    simpa using this

/-! ### Closed runs -/
def isRes (v : Value) : Option (ARes × RC × H) → Bool
  | some (.ret u, _, _) => eqR v u
  | _ => false

/-- **A CLOSED RUN OF THE EVALUATOR IS A RUN OF THE PROGRAM.** -/
theorem calls_res {P : Program} {tabs : Tabs} {cs : Cans} {g n : Nat} {ps : List Pat} {v : Value} (hm : P.follows .mixedOrders = true) (hN : P.funcs.toList.all (fun f => !(f.name == "runtime.NumGoroutine")) = true)
    (hcs : CansOK P tabs cs) (hB : tabsB P.globals.size tabs = true) (hps : ps.all Pat.ok = true) (hv : closedV v = true)
    (he : isRes v (callT P (evKF P (Tof P) tabs cs n) (Tof P) (.func (.func g) #[] #[]) (sstart ps (hstart P.globals.size tabs)).1 .unk (sstart ps (hstart P.globals.size tabs)).2) = true) (W : World)
    (hW : TabsIn W tabs) (cargs : Array Value) (hc : PatsW W ps cargs.toList) :
    Calls P g cargs W fun e W' => e = .returned v ∧ Below W.heap.size W W' := by
  rw [callT_eq (evKF_ok P (Tof P) tabs cs n)] at he
  unfold isRes at he
  split at he
  · rename_i u0 rc h' hrun
    have eu := eqR_sound he
    subst eu
    have hrec := recOKK hm (tof_ok hN) hcs hB n
    obtain ⟨ρ0, _, hR, hargs⟩ := rep_sstart hps hc (rep_start (P := P) hB hW) (noOwn_hstart _ _)
    intro cs0
    simp only [callA] at hrun
    split at hrun
    · rename_i fn hTg
      obtain ⟨pf, hpf, hcf, hname⟩ := tof_ok hN g fn hTg
      split at hrun
      · rename_i x a' h1 hev
        obtain ⟨ρ1, w1, cs1, fr, hle, R1, hcs1, hst, hk, hd, hfn, u, hu, hmo, hru⟩ := body_ok hrec hm hpf hcf (kind := .normal) (cs := cs0) (targs := cargs) (by simpa using hargs)
          (show RcOK _ _ _ .unk from trivial) hev hrun hR
        have e := callsTo_unk hcs1
        subst e
        have := closed_eq hv hu
        subst this
        exact ⟨.returned _, w1, fr, ⟨rfl, R1.below⟩, hst, hfn, hmo, hd, hk, pf, by rw [hfn]; exact hpf, hru⟩
      · cases hrun
    · cases hrun
  · cases he

theorem cansOK_of {P : Program} {tabs : Tabs} {cs : Cans} {n : Nat} (hm : P.follows .mixedOrders = true) (hN : P.funcs.toList.all (fun f => !(f.name == "runtime.NumGoroutine")) = true)
    (hB : tabsB P.globals.size tabs = true) {ds : Cans} (hds : CansOK P tabs ds) (hsc : (cs.all fun c => c.args.all Pat.ok && closedV c.res && !(pureF P c.g)) = true)
    (he : (cs.all fun c => isRes c.res (callT P (evKF P (Tof P) tabs ds n) (Tof P) (.func (.func c.g) #[] #[]) (sstart c.args (hstart P.globals.size tabs)).1 .unk (sstart c.args (hstart P.globals.size tabs)).2)) = true) : CansOK P tabs cs := by
  intro c hc
  rw [List.all_eq_true] at hsc he
  have h1 := hsc c hc
  simp only [Bool.and_eq_true, Bool.not_eq_true'] at h1
  exact ⟨h1.2, h1.1.1, h1.1.2, fun W cargs hW hp => calls_res hm hN hds hB h1.1.1 h1.1.2 (he c hc) W hW cargs hp⟩

theorem calls_true {P : Program} {tabs : Tabs} {cs : Cans} {g n : Nat} (hm : P.follows .mixedOrders = true) (hN : P.funcs.toList.all (fun f => !(f.name == "runtime.NumGoroutine")) = true)
    (hcs : CansOK P tabs cs) (hB : tabsB P.globals.size tabs = true)
    (he : isRes (.bool true) (callT P (evKF P (Tof P) tabs cs n) (Tof P) (.func (.func g) #[] #[]) [] .unk (hstart P.globals.size tabs)) = true) (W : World) (hW : TabsIn W tabs) :
    Calls P g #[] W fun e W' => e = .returned (.bool true) ∧ Below W.heap.size W W' :=
  calls_res (ps := []) hm hN hcs hB rfl rfl he W hW #[] trivial

theorem cansOK_app {P : Program} {tabs : Tabs} {cs ds : Cans} (h : CansOK P tabs cs) (k : CansOK P tabs ds) : CansOK P tabs (cs ++ ds) := fun c hc => by
  rcases List.mem_append.1 hc with hc | hc
  · exact h c hc
  · exact k c hc

theorem cansOK_nil {P : Program} {tabs : Tabs} : CansOK P tabs [] := fun _ h => by cases h

end Go.Ev
