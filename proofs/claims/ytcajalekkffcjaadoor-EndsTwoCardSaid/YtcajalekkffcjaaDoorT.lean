/- The contracts of the functions that EndsTwo reaches. -/
import Derived.Test.YtcajalekkffcjaaDoorV
import Derived.Test.YtcajalekkffcjaaDoorXC
import Derived.Test.YtcajalekkffcjaaDoorRunA
namespace Go.Proofs.YtcajalekkffcjaaDoor
open Go Go.Ev Go.RowKit

noncomputable def W0 : Rec := evW PP (Tof PP) lds.tabs cansB1
theorem wok : WOK PP (Tof PP) (noCan cansB1) W0 := wok_evW

set_option maxRecDepth 100000 in
theorem c101 (a : Set4) : Ctr E W0 (.fn f_byteset_Not [] []) [] [xSet a] (xSet (not4 a)) [] [] := ctr_of encOK wok (by decide) (Γ := Γ101) (a := []) (b := []) (Eq.mpr (v101 W0 a (not4 a)) (not_ok W0 a))
set_option maxRecDepth 100000 in
theorem c102 (a : Set4) : Ctr E W0 (.fn f_waypostref01_Not [] []) [] [xSet a] (xSet (not4 a)) [] [] := ctr_of encOK wok (by decide) (Γ := Γ102) (a := []) (b := []) (Eq.mpr (v102 W0 a (not4 a)) (not_ok' W0 a))
set_option maxRecDepth 100000 in
theorem c78 (l : List Set4) : Ctr E W0 (.fn f_byteset_Common [] []) [] [.ro 45 l] (xSet (common4 l)) [] [] := ctr_of encOK wok (by decide) (Γ := Γ78) (a := []) (b := []) (Eq.mpr (v78 W0 l (common4 l)) (commonB_ok W0 c101 l))
set_option maxRecDepth 100000 in
theorem c79 (l : List Set4) : Ctr E W0 (.fn f_waypostref01_Common [] []) [] [.ro 45 l] (xSet (common4 l)) [] [] := ctr_of encOK wok (by decide) (Γ := Γ79) (a := []) (b := []) (Eq.mpr (v79 W0 l (common4 l)) (commonR_ok W0 c102 l))
set_option maxRecDepth 100000 in
theorem c54 (a b : Set4) : Ctr E W0 (.fn f_ends_common [] []) [] [xSet a, xSet b] (xBool (comm a b)) [] [] := ctr_of encOK wok (by decide) (Γ := Γ54) (a := []) (b := []) (Eq.mpr (v54 W0 a b (comm a b)) (comm_ok W0 (fun l _ => c78 l) a b))
set_option maxRecDepth 100000 in
theorem c53 (a b : List Set4) : Ctr E W0 (.fn f_ends_along_api_Set_api_Set_ [] []) [] [.ro 45 a, .ro 45 b, .fn f_ends_common [] []] (xBool (fitL a b)) [] [] := ctr_of encOK wok (by decide) (Γ := Γ53) (a := []) (b := []) (Eq.mpr (v53 W0 a b (fitL a b)) (along_ok W0 c54 a b))
set_option maxRecDepth 100000 in
theorem c55 (a b : List Set4) : Ctr E W0 (.fn f_waypostref23_common [] []) [] [.ro 45 a, .ro 45 b] (xBool (fitL a b)) [] [] := ctr_of encOK wok (by decide) (Γ := Γ55) (a := []) (b := []) (Eq.mpr (v55 W0 a b (fitL a b)) (commonL_ok W0 (fun l _ => c79 l) a b))
set_option maxRecDepth 100000 in
theorem c15 (a : Ends) : Ctr E W0 (.fn f_ends_Check [] []) [] [xEnds a] (xInt (chk a)) [] [] := ctr_of encOK wok (by decide) (Γ := Γ15) (a := []) (b := []) (Eq.mpr (v15 W0 a (chk a)) (check_ok W0 a))
set_option maxRecDepth 100000 in
theorem c16 (a : Ends) : Ctr E W0 (.fn f_waypostref23_Check [] []) [] [xEnds a] (xInt (chk a)) [] [] := ctr_of encOK wok (by decide) (Γ := Γ16) (a := []) (b := []) (Eq.mpr (v16 W0 a (chk a)) (checkR_ok W0 a))
set_option maxRecDepth 100000 in
theorem c51 (a : Ends) : Ctr E W0 (.fn f_ends_lengthsOf [] []) [] [xEnds a] (pairI (a.least, a.most)) [] [] := ctr_of encOK wok (by decide) (Γ := Γ51) (a := []) (b := []) (Eq.mpr (v51 W0 a (a.least, a.most)) (lengths_ok W0 a))
set_option maxRecDepth 100000 in
theorem c52 (a b : Int × Int) : Ctr E W0 (.fn f__ends_interval__meets [] []) [] [pairI a, pairI b] (xBool (meets a b)) [] [] := ctr_of encOK wok (by decide) (Γ := Γ52) (a := []) (b := []) (Eq.mpr (v52 W0 a b (meets a b)) (meets_ok W0 a b))
set_option maxRecDepth 100000 in
theorem c17 (a b : Ends) : Ctr E W0 (.fn f_ends_Both [] []) [] [xEnds a, xEnds b] (boolE (both a b)) [] [] := ctr_of encOK wok (by decide) (Γ := Γ17) (a := []) (b := []) (Eq.mpr (v17 W0 a b (both a b)) (bothB_ok W0 c15 c51 c52 c53 a b))
set_option maxRecDepth 100000 in
theorem c19 (a b : Ends) : Ctr E W0 (.fn f_waypostref23_Both [] []) [] [xEnds a, xEnds b] (boolE (both a b)) [] [] := ctr_of encOK wok (by decide) (Γ := Γ19) (a := []) (b := []) (Eq.mpr (v19 W0 a b (both a b)) (bothR_ok W0 c16 c55 a b))
set_option maxRecDepth 100000 in
theorem c18 (e : Ends) (h1 : e.lead.length ≤ 80) (h2 : e.trail.length ≤ 80) : Ctr E W0 (.fn f_waypostkit_OwnEnds [] []) [] [xEnds e] (xEnds e) [] [] := ctr18 wok (by decide) e h1 h2

theorem lkg_one {g : Nat} {t : Nat} {k cs : List (X TT)} (h : lkg [(t, k)] g = some cs) : g = t ∧ cs = k := by
  simp only [lkg] at h
  cases hb : Nat.beq t g with
  | true => rw [hb] at h; cases h; exact ⟨(Nat.eq_of_beq_eq_true hb).symm, rfl⟩
  | false => rw [hb] at h; cases h

theorem tabE : TabE E PP lds.tabs where
  ok := tabsOk
  nodup := by decide
  glob := fun g cs h => by
    obtain ⟨rfl, rfl⟩ := lkg_one h
    exact ⟨_, List.mem_cons_self .., rfl⟩
  all := fun p hp => by
    rcases List.mem_cons.1 hp with rfl | hp
    · rfl
    · cases hp

set_option maxRecDepth 100000 in
theorem c10 : Ctr E W0 (.fn f_waypostlaw23_awake [] []) [] [] (xBool true) [] [] := ctr_known tabE (xs := []) (by kernel_rfl) (fun _ => rfl) (by kernel_rfl)
set_option maxRecDepth 100000 in
theorem c4 (a b : Ends) : Ctr E W0 (.fn f_waypostlaw23_EndsTwo [] []) [] [xEnds a, xEnds b] (xBool true) [] [] := ctr_of encOK wok (by decide) (Γ := Γ4) (a := []) (b := []) (Eq.mpr (v4 W0 a b true) (two_ok W0 c10 c18 c17 c19 a b))

end Go.Proofs.YtcajalekkffcjaaDoor
