/- The evaluator over a small code, and that what it finds of a call holds of the machine, part 9. -/
import Derived.Test.YtcajalekkffcjaaDoorEv8
namespace Go.Ev
open Go Go.RowKit

variable {P : Program} {ρ ρ' : Ren} {N : Nat} {w0 w : World} {h h' : H}

/-! ### Activations -/
inductive Rdef (ρ : Ren) : ADef → Deferred → Prop where
  | coll (d B c : Nat) (h : ρ d = some (⟨B, 0, none⟩, c)) : Rdef ρ (.coll d) { target := .collected B, args := #[] }
  | call (g : FuncId) (x x' y y' : Array Value) (args args' : List Value) (hx : RL ρ x.toList x'.toList) (hy : RL ρ y.toList y'.toList) (ha : RL ρ args args') :
      Rdef ρ (.call (.func (.func g) x y) args) { target := .fn (.func g) y', args := x' ++ args'.toArray }

inductive Rdefs (ρ : Ren) : List ADef → List Deferred → Prop where
  | nil : Rdefs ρ [] []
  | cons {d : ADef} {e : Deferred} {l : List ADef} {m : List Deferred} (h : Rdef ρ d e) (t : Rdefs ρ l m) : Rdefs ρ (d :: l) (e :: m)

theorem Rdef.mono (hle : ρ.le ρ') {d : ADef} {e : Deferred} (h : Rdef ρ d e) : Rdef ρ' d e := by
  cases h with
  | coll d B c h => exact .coll d B c (hle _ _ h)
  | call g x x' y y' args args' hx hy ha => exact .call g x x' y y' args args' (hx.mono hle) (hy.mono hle) (ha.mono hle)

theorem Rdefs.mono (hle : ρ.le ρ') {l : List ADef} {m : List Deferred} (h : Rdefs ρ l m) : Rdefs ρ' l m := by
  induction h with
  | nil => exact .nil
  | cons h t ih => exact .cons (h.mono hle) ih

structure Ract (ρ : Ren) (a : AAct) (ca : Act) : Prop where
  tmps : RL ρ a.tmps ca.tmps.toList
  defers : Rdefs ρ a.defers ca.defers

theorem Ract.mono (hle : ρ.le ρ') {a : AAct} {ca : Act} (h : Ract ρ a ca) : Ract ρ' a ca := ⟨h.tmps.mono hle, h.defers.mono hle⟩

theorem Ract.put {a : AAct} {ca : Act} (h : Ract ρ a ca) (dst : Option Tmp) {v u : Value} (hv : Rv ρ v u) : Ract ρ (a.put dst v) (ca.put dst u) := by
  cases dst with
  | none => exact h
  | some d =>
    refine ⟨?_, h.defers⟩
    have := h.tmps.set d hv
    simpa [AAct.put, putL, Act.put] using this

theorem opd_ok (hR : Rep P ρ N w0 h w) {a : AAct} {ca : Act} (ha : Ract ρ a ca) {x : Operand} (hx : opdOk P x = true) : Rv ρ (aev a.tmps x) (ca.eval x) := by
  cases x with
  | tmp t =>
    have := ha.tmps.getD t
    have e : ca.tmps.getD t undef = ca.tmps.toList.getD t undef := by simp [Array.getD_eq_getD_getElem?, List.getD_eq_getElem?_getD]
    simp only [aev, Act.eval, e]
    exact this
  | const v => exact closed_self hx
  | global g =>
    have hg : g < P.globals.size := by simpa [opdOk, Nat.blt_eq] using hx
    obtain ⟨c, hc⟩ := hR.glob g hg
    have := Rv.ptr (ρ := ρ) g 0 g 0 c hc
    simpa [aev, Act.eval] using this
  | func f => exact .func f #[] #[] #[] #[] .nil .nil

theorem wanted_ok {a : AAct} {ca : Act} (ha : Ract ρ a ca) {ops : Array Oper} {o : Oper} {ao : AO} (hc : compO P ops o = some ao) :
    wantedA ao.guard a.tmps = Region.wanted o (yielded ops ca.tmps) := by
  unfold compO at hc
  split at hc
  · split at hc
    · cases hc
    · split at hc
      · rename_i hg
        cases hc
        simp [wantedA, Region.wanted, hg]
      · rename_i j b hg
        split at hc
        · rename_i t ht
          cases hc
          simp only [wantedA, Region.wanted, hg]
          have hy : yielded ops ca.tmps j = match ca.tmps[t]? with | some (.bool b) => some b | _ => none := by
            unfold yielded; rw [ht]; rfl
          rw [hy]
          cases hv : a.tmps[t]? with
          | none =>
            have : ca.tmps[t]? = none := by
              rw [List.getElem?_eq_none_iff] at hv
              have hl := ha.tmps.length
              rw [Array.getElem?_eq_none_iff]
              simp at hl; omega
            simp [this]
          | some v =>
            obtain ⟨u, hu, hr⟩ := ha.tmps.get t hv
            have hu' : ca.tmps[t]? = some u := by simpa using hu
            simp only [hu']
            cases hr <;> simp
        · cases hc
  · cases hc

theorem compO_parts {ops : Array Oper} {o : Oper} {ao : AO} (hc : compO P ops o = some ao) : compOp P o = some ao.op ∧ ao.dst = o.dst ∧ ∀ x ∈ o.op.operands, opdOk P x = true := by
  unfold compO at hc
  split at hc
  · rename_i hall
    have hall' := Array.all_eq_true_iff_forall_mem.1 hall
    split at hc
    · cases hc
    · rename_i op hop
      split at hc
      · cases hc; exact ⟨hop, rfl, hall'⟩
      · split at hc
        · cases hc; exact ⟨hop, rfl, hall'⟩
        · cases hc
  · cases hc

/-! ### The machine's steps at an operation -/
section steps
variable {b : Frame} {a : Act} {k : List Item} {cs : List Frame} {ops : Array Oper} {i : Nat} {rest : List Nat} {o : Oper}

theorem step_op_value (ho : ops[i]? = some o) (hw : Region.wanted o (yielded ops a.tmps) = true) (hd : ∀ c, o.op ≠ .defer c) {nx : Next} {u : Value} {w' : World} (hr : (execOp a.eval o).run P w = .ok nx w') (hn : nx = .value u ∨ (nx = .skip ∧ u = undef)) :
    step P (lone (b.atR a (.inRegion ops (i :: rest) :: k)) cs w) = .next (lone (b.atR (a.put o.dst u) (.inRegion ops rest :: k)) cs w') := by
  have hg := stepGR_op (P := P) (b := b) (k := k) (cs := cs) (w := w) (rest := rest) ho hw
  rw [Oper.semAt_eq _ _ _ hd] at hg
  have hfin : (b.atR a (.inRegion ops (i :: rest) :: k)).finish u = b.atR (a.put o.dst u) (.inRegion ops rest :: k) := by rw [Frame.finish_atR, ho]; rfl
  refine step_lone_go ?_
  rw [hg, ← hfin]
  rcases hn with rfl | ⟨rfl, rfl⟩ <;> simp [stepG.apply, hr]

theorem step_op_enter (ho : ops[i]? = some o) (hw : Region.wanted o (yielded ops a.tmps) = true) (hd : ∀ c, o.op ≠ .defer c) {f : FuncId} {args : Array Value} {w' : World} (hr : (execOp a.eval o).run P w = .ok (.enter f args) w') :
    step P (lone (b.atR a (.inRegion ops (i :: rest) :: k)) cs w) = .next (lone (Frame.enter P f args .normal) (b.atR a (.inRegion ops (i :: rest) :: k) :: cs) w') := by
  have hg := stepGR_op (P := P) (b := b) (k := k) (cs := cs) (w := w) (rest := rest) ho hw
  rw [Oper.semAt_eq _ _ _ hd] at hg
  exact step_lone_go (by rw [hg]; simp [stepG.apply, hr, Frame.atR])

theorem step_op_round (ho : ops[i]? = some o) (hw : Region.wanted o (yielded ops a.tmps) = true) (hd : ∀ c, o.op ≠ .defer c) {l : Nat} {f : FuncId} {tmps : Array Value} {assign body : Code} {w' : World} (hr : (execOp a.eval o).run P w = .ok (.round l f tmps assign body) w') :
    step P (lone (b.atR a (.inRegion ops (i :: rest) :: k)) cs w) = .next (lone (Frame.round l f tmps assign body .normal) (b.atR a (.inRegion ops (i :: rest) :: k) :: cs) w') := by
  have hg := stepGR_op (P := P) (b := b) (k := k) (cs := cs) (w := w) (rest := rest) ho hw
  rw [Oper.semAt_eq _ _ _ hd] at hg
  exact step_lone_go (by rw [hg]; simp [stepG.apply, hr])

theorem step_op_defer (ho : ops[i]? = some o) (hw : Region.wanted o (yielded ops a.tmps) = true) (hb : b.roundOf = none) {d : Deferred} {w' : World} (hr : (execOp a.eval o).run P w = .ok (.defer d) w') :
    step P (lone (b.atR a (.inRegion ops (i :: rest) :: k)) cs w) = .next (lone (b.atR ({ a with defers := d :: a.defers }.put o.dst undef) (.inRegion ops rest :: k)) cs w') := by
  have hg := stepGR_op (P := P) (b := b) (k := k) (cs := cs) (w := w) (rest := rest) ho hw
  rw [hb, Oper.semAt_none] at hg
  have : ({ b.atR a (.inRegion ops (i :: rest) :: k) with defers := d :: a.defers } : Frame).finish undef =
      b.atR ({ a with defers := d :: a.defers }.put o.dst undef) (.inRegion ops rest :: k) := by
    have := Frame.finish_atR b { a with defers := d :: a.defers } ops i rest k undef
    rw [ho] at this; exact this
  refine step_lone_go ?_
  rw [hg]; simp only [stepG.apply, Sem.runT_eq, hr, GStep.bare_after]
  exact congrArg (fun fr => GStep.go { frame := fr, callers := cs, status := .running, dying := none } w') this

theorem step_op_panic (ho : ops[i]? = some o) (hw : Region.wanted o (yielded ops a.tmps) = true) (hd : ∀ c, o.op ≠ .defer c) {u : Value} {w' : World} (hr : (execOp a.eval o).run P w = .halt (.panic u) w') :
    step P (lone (b.atR a (.inRegion ops (i :: rest) :: k)) cs w) = .next (lone { b.atR a (.inRegion ops (i :: rest) :: k) with mode := .panicking [{ v := u, recovered := false }] } cs w') := by
  have hg := stepGR_op (P := P) (b := b) (k := k) (cs := cs) (w := w) (rest := rest) ho hw
  rw [Oper.semAt_eq _ _ _ hd] at hg
  exact step_lone_go (by rw [hg, ← Frame.raise_atR]; simp [stepG.apply, hr])

theorem step_op_recover (ho : ops[i]? = some o) (hw : Region.wanted o (yielded ops a.tmps) = true) (hd : ∀ c, o.op ≠ .defer c) (hb : b.roundOf = none) {w' : World} (hr : (execOp a.eval o).run P w = .ok .recover w')
    {u : Value} {cs' : List Frame} (hc : (tryRecover (b.atR a (.inRegion ops (i :: rest) :: k)) cs).getD (.nilIface, cs) = (u, cs')) :
    step P (lone (b.atR a (.inRegion ops (i :: rest) :: k)) cs w) = .next (lone (b.atR (a.put o.dst u) (.inRegion ops rest :: k)) cs' w') := by
  have hg := stepGR_op (P := P) (b := b) (k := k) (cs := cs) (w := w) (rest := rest) ho hw
  rw [Oper.semAt_eq _ _ _ hd] at hg
  have hfin : ∀ u, (b.atR a (.inRegion ops (i :: rest) :: k)).finish u = b.atR (a.put o.dst u) (.inRegion ops rest :: k) := fun u => by rw [Frame.finish_atR, ho]; rfl
  have hro : (b.atR a (.inRegion ops (i :: rest) :: k)).roundOf = none := hb
  refine step_lone_go ?_
  rw [hg, ← hfin]
  cases ht : tryRecover (b.atR a (.inRegion ops (i :: rest) :: k)) cs with
  | none =>
    rw [ht] at hc
    simp only [Option.getD_none, Prod.mk.injEq] at hc
    obtain ⟨rfl, rfl⟩ := hc
    simp [stepG.apply, hr, hro, ht]
  | some x =>
    obtain ⟨v, cs2⟩ := x
    rw [ht] at hc
    simp only [Option.getD_some, Prod.mk.injEq] at hc
    obtain ⟨rfl, rfl⟩ := hc
    simp [stepG.apply, hr, hro, ht]
end steps

end Go.Ev
