/- The evaluator: what a condition on laid variables gives, by closed checks. -/
import Derived.Test.YtegiokgbljmamaaEv20
namespace Go.Ev
open Go Go.RowKit

def intB (P : Program) (t : TypeId) (k : IntKind) : Bool := (match P.underlying t with | some (.int l) => decide (l = k) | _ => false) && Nat.beq (P.cellsOf t) 1

theorem intB_ok {P : Program} {t : TypeId} {k : IntKind} (h : intB P t k = true) : P.underlying t = some (.int k) ∧ P.cellsOf t = 1 := by
  simp only [intB, Bool.and_eq_true] at h
  obtain ⟨h1, h2⟩ := h
  split at h1
  · rename_i l hl
    exact ⟨by rw [hl, of_decide_eq_true h1], Nat.eq_of_beq_eq_true h2⟩
  · cases h1

/-- A laid variable of numbers of one kind: an array, or a struct of two. -/
def laidB (P : Program) (name : String) (gi : Nat) (k : IntKind) (ns : List Int) : Bool :=
  match P.globalNamed name, P.globals[gi]? with
  | some g, some gl => Nat.beq g gi && (match P.underlying gl.type with
    | some (.array n e) => Nat.beq n ns.length && intB P e k
    | some (.struct fs) => (match fs.toList, ns with
      | [f0, f1], [_, _] => intB P f0.type k && intB P f1.type k && Nat.beq f0.offset 0 && Nat.beq f1.offset 1
      | _, _ => false)
    | _ => false)
  | _, _ => false

theorem laidB_ok {P : Program} {W : World} {name : String} {gi t : Nat} {k : IntKind} {ns : List Int} {cs : Array Value} {fuel : Nat} {p : List MemPlace} {g : Nat} (hB : laidB P name gi k ns = true)
    (hg : P.globalNamed name = some g) (ht : (P.globals[g]?).map (·.type) = some t) (hv : W.var? P name = some cs)
    (hd : DataW.trod (fun _ => ()) P W 0 (fun _ => true) false fuel t cs.toList = some (.agg (ns.map fun n => .lit (.int k n)), p)) :
    ∀ j u, (ns.map (Value.int k))[j]? = some u → W.cell? ⟨gi, j, none⟩ = some u := by
  unfold laidB at hB
  split at hB
  · rename_i g' gl h1 h2
    simp only [Bool.and_eq_true] at hB
    obtain ⟨e1, hB⟩ := hB
    have e1 := Nat.eq_of_beq_eq_true e1
    subst e1
    have e2 : g' = g := Option.some.inj (h1.symm.trans hg)
    subst e2
    rw [h2] at ht
    simp only [Option.map_some, Option.some.injEq] at ht
    subst ht
    split at hB
    · rename_i n e hu
      simp only [Bool.and_eq_true] at hB
      have en := Nat.eq_of_beq_eq_true hB.1
      subst en
      obtain ⟨he, hc⟩ := intB_ok hB.2
      exact laid_cells hg hu he hc hv hd
    · rename_i fs hu
      split at hB
      · rename_i f0 f1 x y hfs
        simp only [Bool.and_eq_true] at hB
        obtain ⟨⟨⟨b0, b1⟩, o0⟩, o1⟩ := hB
        have efs : fs = #[f0, f1] := by rw [← Array.toArray_toList (xs := fs), hfs]
        subst efs
        obtain ⟨i0, c0⟩ := intB_ok b0
        obtain ⟨i1, c1⟩ := intB_ok b1
        exact laid_pair hg hu i0 i1 (Nat.eq_of_beq_eq_true o0) (Nat.eq_of_beq_eq_true o1) c0 c1 hv hd
      · cases hB
    · cases hB
  · cases hB

/-- Laid variables of numbers: name, number, kind, content. -/
abbrev Laids := List (String × Nat × IntKind × List Int)
def Laids.data (l : Laids) : List (String × DataW Unit) := l.map fun x => (x.1, .agg (x.2.2.2.map fun n => .lit (.int x.2.2.1 n)))
def Laids.tabs (l : Laids) : Tabs := l.map fun x => (x.2.1, x.2.2.2.map (Value.int x.2.2.1))

theorem laids_vars {P : Program} {W : World} : ∀ (l : Laids) (ps : List MemPlace), (l.all fun x => laidB P x.1 x.2.1 x.2.2.1 x.2.2.2) = true → DataW.LaidVars P W l.data ps → TabsIn W l.tabs
  | [], _, _, _ => fun p hp => by cases hp
  | x :: r, ps, hB, h => by
    simp only [List.all_cons, Bool.and_eq_true] at hB
    obtain ⟨g, t, cs, fuel, p, q, hg, ht, hv, hd, hr, _⟩ := h
    intro y hy
    rcases List.mem_cons.1 hy with rfl | hy
    · exact laidB_ok hB.1 hg ht hv hd
    · exact laids_vars r q hB.2 hr y hy

theorem laids_tabs {P : Program} {W : World} {l : Laids} (hB : (l.all fun x => laidB P x.1 x.2.1 x.2.2.1 x.2.2.2) = true) (hp : (l.data.all fun x => x.2.handleName?.isNone) = true) (h : laidMetH P l.data W) : TabsIn W l.tabs := by
  rw [MakeChecks.laidMetH_plain _ _ _ hp] at h
  obtain ⟨ps, hv, _⟩ := h
  exact laids_vars l ps hB hv

end Go.Ev
