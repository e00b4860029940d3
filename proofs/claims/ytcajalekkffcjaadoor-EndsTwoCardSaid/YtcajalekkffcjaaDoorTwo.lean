/- waypostlaw23.EndsTwo returns true for all ends: the program answers as the reference does. Condition: the listed package-level variables hold what the program's text lays, which the card ties. -/
import Derived.Test.YtcajalekkffcjaaDoorT
import Derived.Test.YtcajalekkffcjaaDoorRows
import Derived.Test.YtcajalekkffcjaaDoorTie
import Derived.Test.YtcajalekkffcjaaDoorCards
import Derived.ProofKit
import Derived.LaidMore
import Derived.OpenShut
import Derived.Stop.Joined
import Derived.SevenTiedAt
import Derived.Carry
namespace Go.Proofs.YtcajalekkffcjaaDoor
open Go Go.ChangeShapes Go.WideShapes Go.ChangeAt Go.RowKit Go.Ev

def laidTab : List (String × DataW Unit) := [("math/bits.deBruijn64tab", Rows.laid_math_bits_deBruijn64tab)]
theorem own : ownKnob Tryd.prog.godebug = none := by kernel_rfl

theorem set_dec {H : Type} {enc : TypeId × Value → H} {W : World} : ∀ cs, CellsK enc PP W [.int .u64, .int .u64, .int .u64, .int .u64] cs → ∃ r : TT 45, E.enc 45 r = cs.map .v ∧ cs.all isScal = true
  | [a, b, c, d], h => by
    obtain ⟨n1, rfl, _⟩ := h.2 0 _ _ rfl rfl
    obtain ⟨n2, rfl, _⟩ := h.2 1 _ _ rfl rfl
    obtain ⟨n3, rfl, _⟩ := h.2 2 _ _ rfl rfl
    obtain ⟨n4, rfl, _⟩ := h.2 3 _ _ rfl rfl
    exact ⟨(⟨n1, n2, n3, n4⟩ : Set4), rfl, rfl⟩
  | [], h => by cases h.1
  | [_], h => by cases h.1
  | [_, _], h => by cases h.1
  | [_, _, _], h => by cases h.1
  | _ :: _ :: _ :: _ :: _ :: _, h => by cases h.1

set_option maxRecDepth 100000 in
theorem ends_src {H : Type} {enc : TypeId × Value → H} {W : World} {base : Nat} {v : Value} {d : DataW H} {p : List MemPlace} (hok : Value.okWide Tryd.prog W .any base 27 v) (h : DataW.Trod enc Tryd.prog W 0 (fun _ => true) true 27 v d p) :
    ∃ e : Ends, SrcV E W v (xEnds e) := by
  unfold Value.okWide at hok
  rw [Tryd.underlying27] at hok
  obtain ⟨cs, rfl, _, hrow⟩ := hok
  obtain ⟨F, hF⟩ := h
  have hk := trod_shape (W := W) (P := PP) 6 F 27 [.sl 45, .sl 45, .int .i64, .int .i64] _ _ (by kernel_rfl) hF
  have hcell := okWide_cells hrow
  have hcs : (Value.agg cs).cells.toList = cs.toList := rfl
  rw [hcs] at hk
  obtain ⟨l⟩ := cs
  simp only at hk hcell
  match l, hk, hcell with
  | [c0, c1, c2, c3], hk, hcell =>
    have k0 := hk.2 0 _ _ rfl rfl
    have k1 := hk.2 1 _ _ rfl rfl
    obtain ⟨n2, rfl, _⟩ := hk.2 2 _ _ rfl rfl
    obtain ⟨n3, rfl, _⟩ := hk.2 3 _ _ rfl rfl
    obtain ⟨l0, s0⟩ := src_sl (E := E) (P := PP) (e := 45) (by kernel_rfl) 6 (by kernel_rfl) set_dec k0 (hcell c0 (by simp))
    obtain ⟨l1, s1⟩ := src_sl (E := E) (P := PP) (e := 45) (by kernel_rfl) 6 (by kernel_rfl) set_dec k1 (hcell c1 (by simp))
    refine ⟨⟨l0, l1, n2, n3⟩, .agg _ _ rfl fun i u x hu hx => ?_⟩
    match i, hu, hx with
    | 0, hu, hx => cases hu; cases hx; exact s0
    | 1, hu, hx => cases hu; cases hx; exact s1
    | 2, hu, hx => cases hu; cases hx; exact .v _ rfl
    | 3, hu, hx => cases hu; cases hx; exact .v _ rfl
    | (i + 4), hu, hx => simp at hu
  | [], hk, _ => cases hk.1
  | [_], hk, _ => cases hk.1
  | [_, _], hk, _ => cases hk.1
  | [_, _, _], hk, _ => cases hk.1
  | _ :: _ :: _ :: _ :: _ :: _, hk, _ => cases hk.1

def zEnds : Value := .agg #[.slice none 0 0, .slice none 0 0, .int .i64 0, .int .i64 0]

set_option maxRecDepth 100000 in
theorem door_met (os : Os) (args : Array Value) : laidMetH Tryd.prog laidTab ((World.doorLaid Tryd.prog 14 os).forCall (fun _ _ => 0) ⟨#[], args, []⟩).memory :=
  laidMetH_of_parts3 (fuel := 8) (laidMet_of_run' 8 (by kernel_rfl) (by kernel_rfl)) (by kernel_rfl) (by kernel_rfl)

set_option maxRecDepth 100000 in
theorem cells_of_laid {W : World} (h : laidMetH Tryd.prog laidTab W) : TabsIn W lds.tabs :=
  laids_tabs ldsOk (by kernel_rfl) (show laidMetH Tryd.prog lds.data W from h)

set_option maxRecDepth 100000 in
theorem two_lifted (os : Os) (started : os.Started) (H : Type) (enc : TypeId × Value → H) :
    ReturnsInHanded {} Tryd.checked os 4 .any (fun w args => (Rows.endsTwoSpec.pre enc Tryd.prog Tryd.f4 [] false w args ∧ laidMetH Tryd.prog laidTab w) ∧ sizedMet enc Tryd.prog Tryd.f4 (OpenSpec.ofChange Rows.endsTwoSpec) false w args)
      (Rows.endsTwoSpec.post enc Tryd.prog Tryd.f4 false true false false) := by
  refine returnsInHanded_of_change_and (C := Tryd.checked) (X := fun w _ => laidMetH Tryd.prog laidTab w) (fun _ _ _ hh h => h.of_heap hh) own started (by kernel_rfl) Tryd.func4
    (ChangeSpec.witness_shaped (enc := enc) (C := Tryd.checked) (os := os) (X := fun w _ => laidMetH Tryd.prog laidTab w) false (World.doorLaid Tryd.prog 14 os) #[zEnds, zEnds] 8 rfl (World.shaped_of_RefB (by kernel_rfl) (by kernel_rfl)) (by kernel_rfl) (by kernel_rfl) (by kernel_rfl) (door_met os _)) ?_
  intro W base args ds gs before hval0 hW _ _ hL _
  have hval : ∀ (j : Nat) t v, Tryd.f4.params[j]? = some t → args[j]? = some v → Value.okWide Tryd.prog W .any base t v := hval0
  have hW' := hW
  obtain ⟨p, q, hA0, hV, rfl, hfz, hnd⟩ := hW
  have hA : DataW.TrodAll enc Tryd.prog W 0 (fun _ => true) true Tryd.f4.params.toList args.toList ds p := hA0
  rw [Tryd.params4] at hA hval
  obtain ⟨v0, v1, d0, d1, p0, p1, rfl, rfl, rfl, h0, h1⟩ := trodAll_two hA
  obtain ⟨rfl, rfl⟩ := trodVars_none hV
  obtain ⟨e0, s0⟩ := ends_src (hval 0 27 v0 rfl rfl) h0
  obtain ⟨e1, s1⟩ := ends_src (hval 1 27 v1 rfl rfl) h1
  have hlt := hW'.lt
  have src : SrcV E W (.agg #[v0, v1]) (.agg [xEnds e0, xEnds e1]) := .agg _ _ rfl fun i u x hu hx => by
    match i, hu, hx with
    | 0, hu, hx => cases hu; cases hx; exact s0
    | 1, hu, hx => cases hu; cases hx; exact s1
    | (i + 2), hu, hx => simp at hu
  refine (run_open encOK tabE mixed noNum cansB1_ok (by decide) (by decide) (c4 e0 e1) (cells_of_laid hL) src).mono fun e W' ⟨he, hb⟩ => ?_
  subst he
  have r0 := Below.trod (by kernel_rfl) (by kernel_rfl) (of_decide_eq_true (by kernel_rfl)) h0 hb fun x hx => hlt x (by simp [hx])
  have r1 := Below.trod (by kernel_rfl) (by kernel_rfl) (of_decide_eq_true (by kernel_rfl)) h1 hb fun x hx => hlt x (by simp [hx])
  exact ⟨_, rfl, _, [], _, [], _, [], hW', trodAll_mk1 (shut_bool Tryd.underlying4 true), trodAll_mk2 r0 r1, rfl, hb.frame _, fun h => by cases h⟩

theorem two_row : Rows.EndsTwoSaid :=
  OpenClaim.holds_of_wide 4 Tryd.f4 rfl rfl rfl rfl rfl rfl rfl ⟨rfl, rfl, rfl, rfl, rfl⟩ rfl rfl rfl rfl rfl (by kernel_rfl) Tryd.func4 (by kernel_rfl)
    (of_decide_eq_true (by kernel_rfl)) (by unfold Func.isWrapper; first | (rw [if_pos (by decide +kernel)]; kernel_rfl) | (rw [if_neg (by decide +kernel)]; exact ⟨rfl, rfl⟩))
    (fun os started H enc _ => two_lifted os started H enc)

theorem two_card : Rows.EndsTwoCardSaid :=
  Claim7.holds_tied_plain_at .later [] [.data] true (true, "081a64b175be19537bb66306d77a087eade46af76e4b567a3af611a61aedc512") true
    two_row (fun _ h => by cases h) (by kernel_rfl) (fun _ h => by cases h) endsTwo_row_tie rfl ⟨rfl, rfl⟩ (by kernel_rfl) rfl
    (fun f fn hf hfn => by
      obtain rfl : f = 4 := Option.some.inj ((show Tryd.prog.funcNamed "waypost/waypostlaw23.EndsTwo" = some 4 by kernel_rfl).symm.trans hf) |>.symm
      obtain rfl : fn = Tryd.f4 := (Option.some.inj (Tryd.func4.symm.trans hfn)).symm
      exact ⟨by kernel_rfl, fun j t ht => by
        rw [Tryd.params4] at ht
        have e : t = 27 := by
          match j, ht with
          | 0, ht => exact (Option.some.inj ht).symm
          | 1, ht => exact (Option.some.inj ht).symm
          | (j + 2), ht => simp at ht
        have k : Tryd.prog.wantsStandIn 27 = false := by kernel_rfl
        rw [e]
        exact k⟩)
    (by kernel_rfl)
#print axioms two_card
end Go.Proofs.YtcajalekkffcjaaDoor
