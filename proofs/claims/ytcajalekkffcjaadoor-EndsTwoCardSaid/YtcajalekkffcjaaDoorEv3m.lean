/- The evaluator over a small code, and that what it finds of a call holds of the machine, part 3m. -/
import Derived.Test.YtcajalekkffcjaaDoorEv3
namespace Go.Ev
open Go

/-- What lies in a heap beyond another one; and where something lies in that one. -/
structure XD where
  f : Nat → Option Blk
  d : Nat → Prop
  n : Nat

/-- The second heap holds, beyond the first, what X says, at numbers where nothing lies in the first. -/
def Plus (X : XD) (h h2 : H) : Prop :=
  h2.next = h.next ∧ (∀ i, match X.f i with
    | some b => h.get i = none ∧ h2.get i = some b ∧ i < h.next
    | none => h2.get i = h.get i) ∧ (∀ i, X.d i → h.get i ≠ none) ∧ X.n ≤ h.next

structure MonoR (G : Nat) (rec : Rec) : Prop where
  call : ∀ (X : XD) f args rc h r rc' h' h2, (∀ i, i < G → X.f i = none) → Plus X h h2 → rec.call f args rc h = some (r, rc', h') → ∃ h2', rec.call f args rc h2 = some (r, rc', h2') ∧ Plus X h' h2'
  loop : ∀ (X : XD) c a h x a' h' h2, (∀ i, i < G → X.f i = none) → Plus X h h2 → rec.loop c a h = some (x, a', h') → ∃ h2', rec.loop c a h2 = some (x, a', h2') ∧ Plus X h' h2'

section
variable {X : XD} {h h2 : H} (p : Plus X h h2)
include p

theorem Plus.get {i : Nat} {b : Blk} (hg : h.get i = some b) : h2.get i = some b := by
  have := p.2.1 i
  split at this
  · rw [this.1] at hg; cases hg
  · rw [this]; exact hg

theorem Plus.no {i : Nat} (hi : h.next ≤ i) : X.f i = none := by
  have := p.2.1 i
  split at this
  · omega
  · assumption

theorem Plus.no_of_get {i : Nat} {b : Blk} (hg : h.get i = some b) : X.f i = none := by
  have := p.2.1 i
  split at this
  · rw [this.1] at hg; cases hg
  · assumption

theorem Plus.cells {a : Addr} {n : Nat} {cs : List Value} (hc : h.cells a n = some cs) : h2.cells a n = some cs := by
  unfold H.cells at hc ⊢
  split at hc
  · rename_i xs hs hb
    obtain ⟨b, hb1, hb2⟩ := Option.bind_eq_some_iff.1 hb
    rw [hs, p.get hb1]
    simp only [Option.bind_some, hb2]
    exact hc
  · cases hc

theorem Plus.alloc (b : Blk) : Plus X (h.alloc b) (h2.alloc b) := by
  refine ⟨by simp only [H.next_alloc, p.1], fun i => ?_, fun i hd => ?_, Nat.le_succ_of_le p.2.2.2⟩
  case refine_2 =>
    by_cases e : i = h.next
    · subst e; rw [H.get_alloc_same]; simp
    · rw [H.get_alloc_ne h b e]; exact p.2.2.1 i hd
  have hi := p.2.1 i
  by_cases e : i = h.next
  · subst e
    rw [p.no (Nat.le_refl _)]
    simp only
    rw [H.get_alloc_same, ← p.1, H.get_alloc_same]
  · rw [H.get_alloc_ne h b e, H.get_alloc_ne h2 b (by rw [p.1]; exact e), H.next_alloc]
    split at hi
    · exact ⟨hi.1, hi.2.1, by omega⟩
    · exact hi

theorem Plus.set {i : Nat} {c : Blk} (hg : h.get i = some c) (b : Blk) : Plus X (h.set i b) (h2.set i b) := by
  refine ⟨by simp only [H.next_set, p.1], fun j => ?_, fun j hd => ?_, p.2.2.2⟩
  case refine_2 =>
    by_cases e : j = i
    · subst e; rw [H.get_set_same]; simp
    · rw [H.get_set_ne h b (Ne.symm e)]; exact p.2.2.1 j hd
  have hj := p.2.1 j
  by_cases e : j = i
  · subst e
    rw [p.no_of_get hg]
    simp only
    rw [H.get_set_same, H.get_set_same]
  · rw [H.get_set_ne h b (Ne.symm e), H.get_set_ne h2 b (Ne.symm e), H.next_set]
    exact hj
end

end Go.Ev
