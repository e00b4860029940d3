/- The evaluator without a bound, and what is to be shown of typed code. -/
import Derived.Test.YtcajalekkffcjaaDoorEv20
import Derived.Laws.StructEq
namespace Go.Ev
open Go Go.RowKit

variable {P : Program}

structure RecLe (r s : Rec) : Prop where
  call : ∀ f args rc h x, r.call f args rc h = some x → s.call f args rc h = some x
  loop : ∀ c a h x, r.loop c a h = some x → s.loop c a h = some x

theorem RecLe.refl (r : Rec) : RecLe r r := ⟨fun _ _ _ _ _ h => h, fun _ _ _ _ h => h⟩
theorem RecLe.trans {r s t : Rec} (h : RecLe r s) (k : RecLe s t) : RecLe r t := ⟨fun f a rc h' x e => k.call _ _ _ _ _ (h.call f a rc h' x e), fun c a h' x e => k.loop _ _ _ _ (h.loop c a h' x e)⟩

section
variable {r s : Rec} (hl : RecLe r s)
include hl

theorem evOp_le {o : AO} {a : AAct} {h : H} {x : Step} (he : evOp P r o a h = some x) : evOp P s o a h = some x := by
  unfold evOp at he ⊢
  split at he
  · rename_i hw
    rw [if_pos hw]
    cases hop : o.op <;> rw [hop] at he <;> simp only at he ⊢ <;> try exact he
    all_goals
      split at he
      · rename_i v rc h1 hc
        rw [hl.call _ _ _ _ _ hc]; exact he
      · rename_i v rc h1 hc
        rw [hl.call _ _ _ _ _ hc]; exact he
      · cases he
  · rename_i hw
    rw [if_neg hw]; exact he

theorem evOps_le : ∀ {l : List AO} {a : AAct} {h : H} {x : AExit × AAct × H}, evOps P r l a h = some x → evOps P s l a h = some x
  | [], _, _, _, he => he
  | o :: l, a, h, x, he => by
    simp only [evOps] at he ⊢
    split at he
    · rename_i a1 h1 h1e
      rw [evOp_le hl h1e]; exact evOps_le he
    · rename_i v a1 h1 h1e
      rw [evOp_le hl h1e]; exact he
    · cases he

theorem opV_le {o : AO} {ts : List Value} {h : H} {x : Value × H} (he : opV P r o ts h = some x) : opV P s o ts h = some x := by
  unfold opV at he ⊢
  split at he
  · rename_i hw
    rw [if_pos hw]
    cases hop : o.op <;> rw [hop] at he <;> simp only at he ⊢ <;> try exact he
    all_goals
      split at he
      · rename_i v rc h1 hc
        rw [hl.call _ _ _ _ _ hc]; exact he
      · cases he
  · rename_i hw
    rw [if_neg hw]; exact he

theorem trace_le : ∀ {l : List AO} {ts : List Value} {h : H} {G : List (List Value × H)}, trace P r l ts h = some G → trace P s l ts h = some G
  | [], _, _, _, he => he
  | o :: l, ts, h, G, he => by
    simp only [trace] at he ⊢
    split at he
    · rename_i v h1 hv
      rw [opV_le hl hv]
      obtain ⟨G', hG', rfl⟩ := map_some_iff he
      simp only [trace_le hG', Option.map_some]
    · cases he
end

/-- The first panic fixes the cut. -/
theorem cutGo_le {r s : Rec} (hl : RecLe r s) {ops : List AO} {a : AAct} {h : H} {p : Nat} {G : List (List Value × H)} {o : AO} {ts : List Value} {h1 : H} {v : Value} {a1 : AAct} {h2 : H}
    (hG : trace P r (ops.take p) a.tmps h = some G) (ho : ops[p]? = some o) (hp : G[p]? = some (ts, h1)) (he : evOp P r o { a with tmps := ts } h1 = some (.panic v a1 h2)) :
    ∀ cs : Cuts, cutGo P s ops a h cs = cutGo P r ops a h cs
  | [] => rfl
  | c :: cs => by
    have ih := cutGo_le hl hG ho hp he cs
    have hplt : p < ops.length := (List.getElem?_eq_some_iff.1 ho).1
    have hGlen : G.length = p + 1 := by
      obtain ⟨vs, _, h2, _⟩ := trace_spec _ _ _ _ hG
      rw [h2, List.length_take]; omega
    rcases Nat.lt_trichotomy c.1 p with hlt | heq | hgt
    · -- ahead of the panic
      have h3 := trace_take c.1 hG
      rw [List.take_take, Nat.min_eq_left (Nat.le_of_lt hlt)] at h3
      have h4 := trace_le hl h3
      obtain ⟨vs, g1, g2, g3, g4⟩ := trace_spec _ _ _ _ hG
      have hclt : c.1 < ops.length := by omega
      obtain ⟨oc, hoc⟩ : ∃ oc, ops[c.1]? = some oc := ⟨_, List.getElem?_eq_getElem hclt⟩
      have hoc' : (ops.take p)[c.1]? = some oc := by rw [List.getElem?_take_of_lt hlt]; exact hoc
      have hvlt : c.1 < vs.length := by rw [g1, List.length_take]; omega
      obtain ⟨tsi, hi, h', f1, f2, f3⟩ := g4 c.1 oc _ hoc' (List.getElem?_eq_getElem hvlt)
      have f1' : (G.take (c.1 + 1))[c.1]? = some (tsi, hi) := by rw [List.getElem?_take_of_lt (by omega)]; exact f1
      have hne : ∀ q : Rec, RecLe r q → ∀ v a' h', evOp P q oc { a with tmps := tsi } hi ≠ some (.panic v a' h') := fun q hq v a' h' e => by
        have := opV_of_panic e
        simp only at this
        rw [opV_le hq f2] at this
        cases this
      have e1 := hne r (.refl r)
      have e2 := hne s hl
      simp only [cutGo, h3, h4, hoc, f1', ih]
    · subst heq
      simp only [cutGo, hG, trace_le hl hG, ho, hp, he, evOp_le hl he]
    · -- behind it
      have hnone : ∀ q : Rec, RecLe r q → trace P q (ops.take c.1) a.tmps h = none := fun q hq => by
        cases ht : trace P q (ops.take c.1) a.tmps h with
        | none => rfl
        | some G2 =>
          have h3 := trace_take p ht
          rw [List.take_take, Nat.min_eq_left (Nat.le_of_lt hgt)] at h3
          rw [trace_le hq hG] at h3
          obtain ⟨vs, g1, g2, g3, g4⟩ := trace_spec _ _ _ _ ht
          have ho' : (ops.take c.1)[p]? = some o := by rw [List.getElem?_take_of_lt hgt]; exact ho
          have hvlt : p < vs.length := by rw [g1, List.length_take]; omega
          obtain ⟨tsi, hi, h', f1, f2, f3⟩ := g4 p o _ ho' (List.getElem?_eq_getElem hvlt)
          have : G[p]? = some (tsi, hi) := by
            rw [Option.some.inj h3, List.getElem?_take_of_lt (by omega)]; exact f1
          rw [hp] at this
          cases this
          have := opV_of_panic (evOp_le hq he)
          simp only at this
          rw [f2] at this
          cases this
      simp only [cutGo, hnone r (.refl r), hnone s hl, ih]

theorem evRegD_le {r s : Rec} (hl : RecLe r s) {ops : List AO} {checks : List (Nat × Nat)} {cuts : Cuts} {a : AAct} {h : H} {x : AExit × AAct × H} (he : evRegD P r ops checks cuts a h = some x) :
    evRegD P s ops checks cuts a h = some x := by
  unfold evRegD at he ⊢
  split at he
  · rename_i G hG
    rw [trace_le hl hG]; exact he
  · obtain ⟨p, G, o, ts, h1, v, a1, h2, e1, e2, e3, e4⟩ := cutGo_inv he
    rw [trace_none_of_cut (trace_le hl e1) e2 e3 (evOp_le hl e4)]
    simp only
    rw [cutGo_le hl e1 e2 e3 e4]; exact he

theorem stepL_le {r s : Rec} (hl : RecLe r s) {b : List Nat} {base i : Nat} {o : AO} {t x : LS} (he : stepL P r b base i o t = some x) : stepL P s b base i o t = some x := by
  unfold stepL at he ⊢
  split at he
  · rename_i hw
    rw [if_pos hw]
    cases hf : isFill o.op with
    | true => rw [hf] at he; exact he
    | false =>
      rw [hf] at he
      simp only [cond_false] at he ⊢
      obtain ⟨y, h1, rfl⟩ := map_some_iff he
      rw [opV_le hl h1]; rfl
  · rename_i hw
    rw [if_neg hw]; exact he

theorem traceL_le {r s : Rec} (hl : RecLe r s) {b : List Nat} {base : Nat} : ∀ {l : List AO} {i : Nat} {t : LS} {K : List LS}, traceL P r b base l i t = some K → traceL P s b base l i t = some K
  | [], _, _, _, he => he
  | o :: l, i, t, K, he => by
    simp only [traceL] at he ⊢
    split at he
    · rename_i x hx
      rw [stepL_le hl hx]
      obtain ⟨K', hK', rfl⟩ := map_some_iff he
      simp only [traceL_le hl hK', Option.map_some]
    · cases he

theorem evRegL_le {r s : Rec} (hl : RecLe r s) {b : List Nat} {ops : List AO} {checks : List (Nat × Nat)} {a : AAct} {h : H} {x : AExit × AAct × H} (he : evRegL P r b ops checks a h = some x) : evRegL P s b ops checks a h = some x := by
  unfold evRegL at he ⊢
  split at he
  · rename_i K hK
    rw [traceL_le hl hK]; exact he
  · cases he

theorem evC_le {r s : Rec} (hl : RecLe r s) : ∀ {c : AC} {a : AAct} {h : H} {x : AExit × AAct × H}, evC P r c a h = some x → evC P s c a h = some x := by
  intro c
  induction c with
  | skip => intro a h x he; exact he
  | reg ops => intro a h x he; exact evOps_le hl he
  | regD ops checks cuts => intro a h x he; exact evRegD_le hl he
  | regL b ops checks => intro a h x he; exact evRegL_le hl he
  | seq c d ihc ihd =>
    intro a h x he
    simp only [evC] at he ⊢
    split at he
    · rename_i a1 h1 h1e
      rw [ihc h1e]; exact ihd he
    · rename_i hne
      rw [ihc he]
      split
      · rename_i a1 h1 e
        exact absurd (he.trans e) (hne _ _)
      · rfl
  | cond c x y ihx ihy =>
    intro a h z he
    simp only [evC] at he ⊢
    split at he
    · exact ihx he
    · exact ihy he
    · cases he
  | block id c ih =>
    intro a h x he
    simp only [evC] at he ⊢
    split at he
    · rename_i id' a1 h1 h1e
      rw [ih h1e]; exact he
    · rename_i hne
      rw [ih he]
      split
      · rename_i e
        exact absurd (he.trans e) (hne _ _ _)
      · rfl
  | loop c ih =>
    intro a h x he
    simp only [evC] at he ⊢
    split at he
    · rename_i a1 h1 h1e
      rw [ih h1e]; exact hl.loop _ _ _ _ he
    · rename_i hne
      rw [ih he]
      split
      · rename_i e
        exact absurd (he.trans e) (hne _ _)
      · rfl
  | rangeFunc f ps as bd iha ihb =>
    intro a h x he
    simp only [evC] at he ⊢
    split at he
    · cases he
    · rename_i hr
      rw [if_neg hr]
      split at he
      · rename_i hc; rw [hl.call _ _ _ _ _ hc]; exact he
      · rename_i hc; rw [hl.call _ _ _ _ _ hc]; exact he
      · cases he
  | exit id => intro a h x he; exact he
  | ret => intro a h x he; exact he
  | stuck => intro a h x he; cases he

theorem unwindA_le {r s : Rec} (hl : RecLe r s) : ∀ {l : List ADef} {m : Option Value} {h : H} {x : Option Value × H}, unwindA r l m h = some x → unwindA s l m h = some x
  | [], _, _, _, he => he
  | .coll d :: l, m, h, x, he => by
    simp only [unwindA] at he ⊢
    split at he
    · exact unwindA_le hl he
    · cases he
  | .call f args :: l, m, h, x, he => by
    simp only [unwindA] at he ⊢
    split at he
    · rename_i hc; rw [hl.call _ _ _ _ _ hc]; exact unwindA_le hl he
    · cases he

theorem finishA_le {r s : Rec} (hl : RecLe r s) {fn : AFn} {x : AExit} {a : AAct} {h : H} {y : ARes × RC × H} (he : finishA r fn x a h = some y) : finishA s fn x a h = some y := by
  unfold finishA at he ⊢
  split at he
  · cases he
  · rename_i m hm
    split at he
    · rename_i hu; rw [unwindA_le hl hu]; exact he
    · rename_i hu; rw [unwindA_le hl hu]; exact he
    · cases he

theorem roundA_le {r s : Rec} (hl : RecLe r s) {l : Nat} {args : List Value} {h : H} {y : ARes × RC × H} (he : roundA P r l args h = some y) : roundA P s l args h = some y := by
  unfold roundA at he ⊢
  split at he
  · rename_i ts ps as bd hg
    split at he
    · rename_i hlen
      rw [if_pos hlen]
      split at he
      · rename_i a1 h1 h1e
        rw [evC_le hl h1e]
        simp only
        split at he
        · split at he
          · rename_i x a2 h2 h2e
            rw [evC_le hl h2e]; exact he
          · cases he
        · cases he
      · cases he
    · cases he
  · cases he

theorem callA_le {r s : Rec} (hl : RecLe r s) {T : Nat → Option AFn} {f : Value} {args : List Value} {rc : RC} {h : H} {y : ARes × RC × H} (he : callA P r T f args rc h = some y) : callA P s T f args rc h = some y := by
  unfold callA at he ⊢
  split at he
  · split at he
    · split at he
      · rename_i h1e
        rw [evC_le hl h1e]; exact finishA_le hl he
      · cases he
    · cases he
  · split at he
    · split at he
      · rename_i hb
        rw [if_pos hb]; exact roundA_le hl he
      · cases he
    · cases he
  · cases he

theorem evK_succ {T : Nat → Option AFn} {tabs : Tabs} {cs : Cans} : ∀ n, RecLe (evK P T tabs cs n) (evK P T tabs cs (n + 1))
  | 0 => ⟨fun _ _ _ _ _ h => by simp [evK] at h, fun _ _ _ _ h => by simp [evK] at h⟩
  | n + 1 => by
    have ih := evK_succ (T := T) (tabs := tabs) (cs := cs) n
    refine ⟨fun f args rc h x he => ?_, fun c a h x he => evC_le ih he⟩
    have he' : callKn (canOf T tabs cs f args rc h) h (callA P (evK P T tabs cs n) T f args rc h) = some x := he
    show callKn (canOf T tabs cs f args rc h) h (callA P (evK P T tabs cs (n + 1)) T f args rc h) = some x
    cases hk : canOf T tabs cs f args rc h with
    | none => rw [hk] at he'; cases he'
    | some y =>
      rw [hk] at he'
      cases y with
      | some v => exact he'
      | none => exact callA_le ih he'

theorem evK_le {T : Nat → Option AFn} {tabs : Tabs} {cs : Cans} {n m : Nat} (h : n ≤ m) : RecLe (evK P T tabs cs n) (evK P T tabs cs m) := by
  induction h with
  | refl => exact .refl _
  | step _ ih => exact ih.trans (evK_succ _)

/-! ### The limit -/
open Classical in
noncomputable def limR (R : Nat → Rec) : Rec where
  call f args rc h := if e : ∃ x n, (R n).call f args rc h = some x then some (Classical.choose e) else none
  loop c a h := if e : ∃ x n, (R n).loop c a h = some x then some (Classical.choose e) else none

section
variable {R : Nat → Rec} (hR : ∀ n m, n ≤ m → RecLe (R n) (R m))

open Classical in
theorem limR_call {f : Value} {args : List Value} {rc : RC} {h : H} {x : ARes × RC × H} (he : (limR R).call f args rc h = some x) : ∃ n, (R n).call f args rc h = some x := by
  simp only [limR] at he
  split at he
  · rename_i e
    simp only [Option.some.injEq] at he
    obtain ⟨n, hn⟩ := Classical.choose_spec e
    exact ⟨n, by rw [hn, he]⟩
  · cases he

open Classical in
theorem limR_loop {c : AC} {a : AAct} {h : H} {x : AExit × AAct × H} (he : (limR R).loop c a h = some x) : ∃ n, (R n).loop c a h = some x := by
  simp only [limR] at he
  split at he
  · rename_i e
    simp only [Option.some.injEq] at he
    obtain ⟨n, hn⟩ := Classical.choose_spec e
    exact ⟨n, by rw [hn, he]⟩
  · cases he

include hR

open Classical in
theorem limR_le (n : Nat) : RecLe (R n) (limR R) := by
  have key : ∀ {α : Type} (F : Nat → Option α), (∀ n m x, n ≤ m → F n = some x → F m = some x) → ∀ n x (e : ∃ x n, F n = some x), F n = some x → Classical.choose e = x := by
    intro α F hF n x e hn
    obtain ⟨m, hm⟩ := Classical.choose_spec e
    have h1 := hF n (max n m) x (Nat.le_max_left ..) hn
    have h2 := hF m (max n m) _ (Nat.le_max_right ..) hm
    rw [h1] at h2
    exact (Option.some.inj h2).symm
  refine ⟨fun f args rc h x he => ?_, fun c a h x he => ?_⟩
  · have e : ∃ x n, (R n).call f args rc h = some x := ⟨x, n, he⟩
    simp only [limR]
    rw [dif_pos e, key (fun n => (R n).call f args rc h) (fun n m x hle hx => (hR n m hle).call _ _ _ _ _ hx) n x e he]
  · have e : ∃ x n, (R n).loop c a h = some x := ⟨x, n, he⟩
    simp only [limR]
    rw [dif_pos e, key (fun n => (R n).loop c a h) (fun n m x hle hx => (hR n m hle).loop _ _ _ _ hx) n x e he]

omit hR in
theorem evOp_lim {o : AO} {a : AAct} {h : H} {x : Step} (he : evOp P (limR R) o a h = some x) : ∃ n, evOp P (R n) o a h = some x := by
  unfold evOp at he ⊢
  split at he
  · rename_i hw
    simp only [if_pos hw]
    cases hop : o.op <;> rw [hop] at he <;> simp only at he ⊢ <;> try exact ⟨0, he⟩
    all_goals
      split at he
      · rename_i v rc h1 hc
        obtain ⟨n, hn⟩ := limR_call hc
        exact ⟨n, by rw [hn]; exact he⟩
      · rename_i v rc h1 hc
        obtain ⟨n, hn⟩ := limR_call hc
        exact ⟨n, by rw [hn]; exact he⟩
      · cases he
  · rename_i hw
    simp only [if_neg hw]; exact ⟨0, he⟩

theorem evOps_lim : ∀ {l : List AO} {a : AAct} {h : H} {x : AExit × AAct × H}, evOps P (limR R) l a h = some x → ∃ n, evOps P (R n) l a h = some x
  | [], _, _, _, he => ⟨0, he⟩
  | o :: l, a, h, x, he => by
    simp only [evOps] at he ⊢
    split at he
    · rename_i a1 h1 h1e
      obtain ⟨n, hn⟩ := evOp_lim h1e
      obtain ⟨m, hm⟩ := evOps_lim he
      exact ⟨max n m, by rw [evOp_le (hR n _ (Nat.le_max_left ..)) hn]; exact evOps_le (hR m _ (Nat.le_max_right ..)) hm⟩
    · rename_i v a1 h1 h1e
      obtain ⟨n, hn⟩ := evOp_lim h1e
      exact ⟨n, by rw [hn]; exact he⟩
    · cases he

omit hR in
theorem opV_lim {o : AO} {ts : List Value} {h : H} {x : Value × H} (he : opV P (limR R) o ts h = some x) : ∃ n, opV P (R n) o ts h = some x := by
  unfold opV at he ⊢
  split at he
  · rename_i hw
    simp only [if_pos hw]
    cases hop : o.op <;> rw [hop] at he <;> simp only at he ⊢ <;> try exact ⟨0, he⟩
    all_goals
      split at he
      · rename_i v rc h1 hc
        obtain ⟨n, hn⟩ := limR_call hc
        exact ⟨n, by rw [hn]; exact he⟩
      · cases he
  · rename_i hw
    simp only [if_neg hw]; exact ⟨0, he⟩

theorem trace_lim : ∀ {l : List AO} {ts : List Value} {h : H} {G : List (List Value × H)}, trace P (limR R) l ts h = some G → ∃ n, trace P (R n) l ts h = some G
  | [], _, _, _, he => ⟨0, he⟩
  | o :: l, ts, h, G, he => by
    simp only [trace] at he ⊢
    split at he
    · rename_i v h1 hv
      obtain ⟨n, hn⟩ := opV_lim hv
      obtain ⟨G', hG', rfl⟩ := map_some_iff he
      obtain ⟨m, hm⟩ := trace_lim hG'
      exact ⟨max n m, by rw [opV_le (hR n _ (Nat.le_max_left ..)) hn]; simp only [trace_le (hR m _ (Nat.le_max_right ..)) hm, Option.map_some]⟩
    · cases he

theorem evRegD_lim {ops : List AO} {checks : List (Nat × Nat)} {cuts : Cuts} {a : AAct} {h : H} {x : AExit × AAct × H} (he : evRegD P (limR R) ops checks cuts a h = some x) :
    ∃ n, evRegD P (R n) ops checks cuts a h = some x := by
  cases hT : trace P (limR R) ops a.tmps h with
  | some G =>
    obtain ⟨n, hn⟩ := trace_lim hR hT
    refine ⟨n, ?_⟩
    unfold evRegD at he ⊢
    rw [hT] at he
    rw [hn]; exact he
  | none =>
    have he2 : cutGo P (limR R) ops a h cuts = some x := by
      unfold evRegD at he
      rw [hT] at he; exact he
    obtain ⟨p, G, o, ts, h1, v, a1, h2, e1, e2, e3, e4⟩ := cutGo_inv he2
    obtain ⟨n, hn⟩ := trace_lim hR e1
    obtain ⟨m, hm⟩ := evOp_lim e4
    have k1 := trace_le (hR n (max n m) (Nat.le_max_left ..)) hn
    have k2 := evOp_le (hR m (max n m) (Nat.le_max_right ..)) hm
    refine ⟨max n m, ?_⟩
    unfold evRegD
    rw [trace_none_of_cut k1 e2 e3 k2]
    simp only
    rw [← cutGo_le (limR_le hR (max n m)) k1 e2 e3 k2]
    exact he2

omit hR in
theorem stepL_lim {b : List Nat} {base i : Nat} {o : AO} {t x : LS} (he : stepL P (limR R) b base i o t = some x) : ∃ n, stepL P (R n) b base i o t = some x := by
  unfold stepL at he ⊢
  split at he
  · rename_i hw
    simp only [if_pos hw]
    cases hf : isFill o.op with
    | true => rw [hf] at he; exact ⟨0, he⟩
    | false =>
      rw [hf] at he
      simp only [cond_false] at he ⊢
      obtain ⟨y, h1, rfl⟩ := map_some_iff he
      obtain ⟨n, hn⟩ := opV_lim h1
      exact ⟨n, by rw [hn]; rfl⟩
  · rename_i hw
    simp only [if_neg hw]; exact ⟨0, he⟩

theorem traceL_lim {b : List Nat} {base : Nat} : ∀ {l : List AO} {i : Nat} {t : LS} {K : List LS}, traceL P (limR R) b base l i t = some K → ∃ n, traceL P (R n) b base l i t = some K
  | [], _, _, _, he => ⟨0, he⟩
  | o :: l, i, t, K, he => by
    simp only [traceL] at he
    split at he
    · rename_i x hx
      obtain ⟨n, hn⟩ := stepL_lim hx
      obtain ⟨K', hK', rfl⟩ := map_some_iff he
      obtain ⟨m, hm⟩ := traceL_lim hK'
      refine ⟨max n m, ?_⟩
      simp only [traceL]
      rw [stepL_le (hR n _ (Nat.le_max_left ..)) hn]
      simp only [traceL_le (hR m _ (Nat.le_max_right ..)) hm, Option.map_some]
    · cases he

theorem evRegL_lim {b : List Nat} {ops : List AO} {checks : List (Nat × Nat)} {a : AAct} {h : H} {x : AExit × AAct × H} (he : evRegL P (limR R) b ops checks a h = some x) : ∃ n, evRegL P (R n) b ops checks a h = some x := by
  unfold evRegL at he
  split at he
  · rename_i K hK
    obtain ⟨n, hn⟩ := traceL_lim hR hK
    refine ⟨n, ?_⟩
    unfold evRegL
    rw [hn]; exact he
  · cases he

theorem evC_lim : ∀ {c : AC} {a : AAct} {h : H} {x : AExit × AAct × H}, evC P (limR R) c a h = some x → ∃ n, evC P (R n) c a h = some x := by
  intro c
  induction c with
  | skip => intro a h x he; exact ⟨0, he⟩
  | reg ops => intro a h x he; exact evOps_lim hR he
  | regD ops checks cuts => intro a h x he; exact evRegD_lim hR he
  | regL b ops checks => intro a h x he; exact evRegL_lim hR he
  | seq c d ihc ihd =>
    intro a h x he
    simp only [evC] at he
    split at he
    · rename_i a1 h1 h1e
      obtain ⟨n, hn⟩ := ihc h1e
      obtain ⟨m, hm⟩ := ihd he
      refine ⟨max n m, ?_⟩
      simp only [evC]
      rw [evC_le (hR n _ (Nat.le_max_left ..)) hn]
      exact evC_le (hR m _ (Nat.le_max_right ..)) hm
    · rename_i hne
      obtain ⟨n, hn⟩ := ihc he
      refine ⟨n, ?_⟩
      simp only [evC]
      rw [hn]
      split
      · rename_i a1 h1 e
        exact absurd (he.trans e) (hne _ _)
      · rfl
  | cond c x y ihx ihy =>
    intro a h z he
    simp only [evC] at he ⊢
    split at he
    · exact ihx he
    · exact ihy he
    · cases he
  | block id c ih =>
    intro a h x he
    simp only [evC] at he
    split at he
    · rename_i id' a1 h1 h1e
      obtain ⟨n, hn⟩ := ih h1e
      exact ⟨n, by simp only [evC]; rw [hn]; exact he⟩
    · rename_i hne
      obtain ⟨n, hn⟩ := ih he
      refine ⟨n, ?_⟩
      simp only [evC]
      rw [hn]
      split
      · rename_i e
        exact absurd (he.trans e) (hne _ _ _)
      · rfl
  | loop c ih =>
    intro a h x he
    simp only [evC] at he
    split at he
    · rename_i a1 h1 h1e
      obtain ⟨n, hn⟩ := ih h1e
      obtain ⟨m, hm⟩ := limR_loop he
      refine ⟨max n m, ?_⟩
      simp only [evC]
      rw [evC_le (hR n _ (Nat.le_max_left ..)) hn]
      exact (hR m _ (Nat.le_max_right ..)).loop _ _ _ _ hm
    · rename_i hne
      obtain ⟨n, hn⟩ := ih he
      refine ⟨n, ?_⟩
      simp only [evC]
      rw [hn]
      split
      · rename_i e
        exact absurd (he.trans e) (hne _ _)
      · rfl
  | rangeFunc f ps as bd iha ihb =>
    intro a h x he
    simp only [evC] at he ⊢
    split at he
    · cases he
    · rename_i hr
      simp only [if_neg hr]
      split at he
      · rename_i hc
        obtain ⟨n, hn⟩ := limR_call hc
        exact ⟨n, by rw [hn]; exact he⟩
      · rename_i hc
        obtain ⟨n, hn⟩ := limR_call hc
        exact ⟨n, by rw [hn]; exact he⟩
      · cases he
  | exit id => intro a h x he; exact ⟨0, he⟩
  | ret => intro a h x he; exact ⟨0, he⟩
  | stuck => intro a h x he; cases he

theorem unwindA_lim : ∀ {l : List ADef} {m : Option Value} {h : H} {x : Option Value × H}, unwindA (limR R) l m h = some x → ∃ n, unwindA (R n) l m h = some x
  | [], _, _, _, he => ⟨0, he⟩
  | .coll d :: l, m, h, x, he => by
    simp only [unwindA] at he ⊢
    split at he
    · exact unwindA_lim he
    · cases he
  | .call f args :: l, m, h, x, he => by
    simp only [unwindA] at he ⊢
    split at he
    · rename_i hc
      obtain ⟨n, hn⟩ := limR_call hc
      obtain ⟨k, hk⟩ := unwindA_lim he
      exact ⟨max n k, by rw [(hR n _ (Nat.le_max_left ..)).call _ _ _ _ _ hn]; exact unwindA_le (hR k _ (Nat.le_max_right ..)) hk⟩
    · cases he

theorem finishA_lim {fn : AFn} {x : AExit} {a : AAct} {h : H} {y : ARes × RC × H} (he : finishA (limR R) fn x a h = some y) : ∃ n, finishA (R n) fn x a h = some y := by
  unfold finishA at he ⊢
  split at he
  · cases he
  · rename_i m hm
    split at he
    · rename_i hu
      obtain ⟨n, hn⟩ := unwindA_lim hR hu
      exact ⟨n, by rw [hn]; exact he⟩
    · rename_i hu
      obtain ⟨n, hn⟩ := unwindA_lim hR hu
      exact ⟨n, by rw [hn]; exact he⟩
    · cases he

theorem roundA_lim {l : Nat} {args : List Value} {h : H} {y : ARes × RC × H} (he : roundA P (limR R) l args h = some y) : ∃ n, roundA P (R n) l args h = some y := by
  unfold roundA at he ⊢
  split at he
  · rename_i ts ps as bd hg
    split at he
    · rename_i hlen
      simp only [if_pos hlen]
      split at he
      · rename_i a1 h1 h1e
        obtain ⟨n, hn⟩ := evC_lim hR h1e
        split at he
        · rename_i hg1
          split at he
          · rename_i x a2 h2 h2e
            obtain ⟨m, hm⟩ := evC_lim hR h2e
            refine ⟨max n m, ?_⟩
            rw [evC_le (hR n _ (Nat.le_max_left ..)) hn]
            simp only [hg1]
            rw [evC_le (hR m _ (Nat.le_max_right ..)) hm]
            exact he
          · cases he
        · cases he
      · cases he
    · cases he
  · cases he

theorem callA_lim {T : Nat → Option AFn} {f : Value} {args : List Value} {rc : RC} {h : H} {y : ARes × RC × H} (he : callA P (limR R) T f args rc h = some y) : ∃ n, callA P (R n) T f args rc h = some y := by
  unfold callA at he ⊢
  split at he
  · split at he
    · rename_i hfn
      split at he
      · rename_i h1e
        obtain ⟨n, hn⟩ := evC_lim hR h1e
        obtain ⟨m, hm⟩ := finishA_lim hR he
        exact ⟨max n m, by rw [evC_le (hR n _ (Nat.le_max_left ..)) hn]; exact finishA_le (hR m _ (Nat.le_max_right ..)) hm⟩
      · cases he
    · cases he
  · split at he
    · split at he
      · rename_i hb
        obtain ⟨n, hn⟩ := roundA_lim hR he
        exact ⟨n, by rw [if_pos hb]; exact hn⟩
      · cases he
    · cases he
  · cases he
end

/-- **The evaluator without a bound.** -/
noncomputable def evW (P : Program) (T : Nat → Option AFn) (tabs : Tabs) (cs : Cans) : Rec := limR (evK P T tabs cs)

section
variable {T : Nat → Option AFn} {tabs : Tabs} {cs : Cans}

theorem evW_le (n : Nat) : RecLe (evK P T tabs cs n) (evW P T tabs cs) := limR_le (fun _ _ h => evK_le h) n

/-- A call that is not known is what its code comes to. -/
theorem evW_call {f : Value} {args : List Value} {rc : RC} {h : H} {x : ARes × RC × H} (hk : canOf T tabs cs f args rc h = some none) (he : callA P (evW P T tabs cs) T f args rc h = some x) :
    (evW P T tabs cs).call f args rc h = some x := by
  obtain ⟨n, hn⟩ := callA_lim (R := evK P T tabs cs) (fun _ _ h => evK_le h) he
  refine (evW_le (n + 1)).call _ _ _ _ _ ?_
  show callKn (canOf T tabs cs f args rc h) h (callA P (evK P T tabs cs n) T f args rc h) = some x
  rw [hk]; exact hn

/-- A known call. -/
theorem evW_known {f : Value} {args : List Value} {h : H} {v : Value} (hk : canOf T tabs cs f args .unk h = some (some v)) : (evW P T tabs cs).call f args .unk h = some (.ret v, .unk, h) := by
  refine (evW_le 1).call _ _ _ _ _ ?_
  show callKn (canOf T tabs cs f args .unk h) h (callA P (evK P T tabs cs 0) T f args .unk h) = _
  rw [hk]; rfl

theorem evW_loop {c : AC} {a : AAct} {h : H} {x : AExit × AAct × H} (he : evC P (evW P T tabs cs) (.loop c) a h = some x) : (evW P T tabs cs).loop c a h = some x := by
  obtain ⟨n, hn⟩ := evC_lim (R := evK P T tabs cs) (fun _ _ h => evK_le h) he
  exact (evW_le (n + 1)).loop _ _ _ _ hn
end

end Go.Ev

namespace Go.Ev
open Go

/-! ### Typed values -/
/-- A slice, as its header says. -/
structure SV where
  p : Option Addr
  n : Nat
  c : Nat

/-- A pointer that is not nil. -/
structure PV where
  b : Nat
  o : Nat

inductive At where
  | int (k : IntKind)
  | bool
  | str
  | sl
  | ptr
  | ptrO
  | val

def At.T : At → Type
  | .int _ => Int
  | .bool => Bool
  | .str => ByteArray
  | .sl => SV
  | .ptr => PV
  | .ptrO => Option Addr
  | .val => Value

def At.enc : (a : At) → a.T → Value
  | .int k, x => .int k x
  | .bool, x => .bool x
  | .str, x => .string x
  | .sl, x => .slice x.p x.n x.c
  | .ptr, x => .pointer (some ⟨x.b, x.o, none⟩)
  | .ptrO, x => .pointer x
  | .val, x => x

inductive Sh where
  | at (a : At)
  | agg (l : List At)

inductive RSh where
  | one (s : Sh)
  | tup (l : List Sh)

/-- A condition that is computed. -/
def need (b : Bool) (X : Prop) : Prop := match b with | true => X | false => False
def brB (b : Bool) (X Y : Prop) : Prop := match b with | true => X | false => Y
def brP (p X Y : Prop) : Prop := (p → X) ∧ (¬ p → Y)

def newH (h : H) (K : H → Prop) : Prop := ∀ h1, h1 = h → K h1
def newI (x : Int) (K : Int → Prop) : Prop := ∀ x1, x1 = x → K x1

def exA : List At → (List Value → Prop) → Prop
  | [], K => K []
  | a :: r, K => ∃ x : a.T, exA r fun l => K (a.enc x :: l)

def exSh : Sh → (Value → Prop) → Prop
  | .at a, K => ∃ x : a.T, K (a.enc x)
  | .agg l, K => exA l fun cs => K (.agg ⟨cs⟩)

def exShs : List Sh → (List Value → Prop) → Prop
  | [], K => K []
  | s :: r, K => exSh s fun v => exShs r fun l => K (v :: l)

def exR : RSh → (Value → Prop) → Prop
  | .one s, K => exSh s K
  | .tup l, K => exShs l fun vs => K (.tuple ⟨vs⟩)

def atsOf : RSh → List At
  | .one (.at a) => [a]
  | .one (.agg l) => l
  | .tup _ => []

/-- Curried functions of typed values. -/
def ArrT : List At → Type → Type
  | [], R => R
  | a :: r, R => a.T → ArrT r R

def Sh.ats : Sh → List At
  | .at a => [a]
  | .agg l => l

def carAts : List (Tmp × Sh) → List At
  | [] => []
  | (_, s) :: r => s.ats ++ carAts r

/-! ### Calls -/
def Ret (W : Rec) (f : Value) (args : List Value) (h : H) (v : Value) (h' : H) : Prop := ∃ rc, W.call f args .unk h = some (.ret v, rc, h')
def Pan (W : Rec) (f : Value) (args : List Value) (h : H) (v : Value) (h' : H) : Prop := ∃ rc, W.call f args .unk h = some (.panic v, rc, h')

structure Hints where
  sh : List (Tmp × RSh)
  loops : List (Tmp × List (Tmp × Sh))
  res : List Sh
  pan : Bool

def findSh : List (Tmp × RSh) → Tmp → RSh
  | [], _ => .one (.at .val)
  | (t, s) :: r, d => bif Nat.beq t d then s else findSh r d

def shOf (Γ : Hints) : Option Tmp → RSh
  | none => .one (.at .val)
  | some d => findSh Γ.sh d

def findL : List (Tmp × List (Tmp × Sh)) → Tmp → List (Tmp × Sh)
  | [], _ => []
  | (t, s) :: r, d => bif Nat.beq t d then s else findL r d

def memN : List Nat → Nat → Bool
  | [], _ => false
  | x :: r, n => bif Nat.beq x n then true else memN r n

def sPut (s : RSh) (dst : Option Tmp) (v : Value) (ts : List Value) (K : List Value → Prop) : Prop :=
  match dst with
  | none => K ts
  | some d => match s with
    | .one (.at .bool) => (match v with | .bool b => brB b (K (ts.set d (.bool true))) (K (ts.set d (.bool false))) | _ => False)
    | _ => K (ts.set d v)

def sGuard (g : Option (Tmp × Bool)) (ts : List Value) (X Y : Prop) : Prop :=
  match g with
  | none => X
  | some (t, b) => match ts.getD t undef with
    | .bool c => (match b with | true => brB c X Y | false => brB c Y X)
    | _ => Y

/-! ### Operations -/
def bAnd (k : IntKind) (x y : Int) : Int := k.wrap ((BitVec.ofInt k.bits x &&& BitVec.ofInt k.bits y).toNat : Int)
def bOr (k : IntKind) (x y : Int) : Int := k.wrap ((BitVec.ofInt k.bits x ||| BitVec.ofInt k.bits y).toNat : Int)
def bXor (k : IntKind) (x y : Int) : Int := k.wrap ((BitVec.ofInt k.bits x ^^^ BitVec.ofInt k.bits y).toNat : Int)
def bAndNot (k : IntKind) (x y : Int) : Int := k.wrap ((BitVec.ofInt k.bits x &&& ~~~(BitVec.ofInt k.bits y)).toNat : Int)
def bShl (k : IntKind) (x y : Int) : Int := k.wrap (x * 2 ^ min y.toNat k.bits)
def bShr (k : IntKind) (x y : Int) : Int := x.fdiv (2 ^ min y.toNat k.bits)

def sCmp (p : Prop) (K : Value → Prop) : Prop := brP p (K (.bool true)) (K (.bool false))

def sIbin (op : BinOp) (k k' : IntKind) (x y : Int) (K : Value → Prop) : Prop :=
  match op with
  | .shl => 0 ≤ y ∧ newI (bShl k x y) fun z => K (.int k z)
  | .shr => 0 ≤ y ∧ newI (bShr k x y) fun z => K (.int k z)
  | .add => need (decide (k = k')) (newI (k.wrap (x + y)) fun z => K (.int k z))
  | .sub => need (decide (k = k')) (newI (k.wrap (x - y)) fun z => K (.int k z))
  | .mul => need (decide (k = k')) (newI (k.wrap (x * y)) fun z => K (.int k z))
  | .eql => need (decide (k = k')) (sCmp (x = y) K)
  | .neq => need (decide (k = k')) (brP (x = y) (K (.bool false)) (K (.bool true)))
  | .lss => need (decide (k = k')) (sCmp (x < y) K)
  | .leq => need (decide (k = k')) (sCmp (x ≤ y) K)
  | .gtr => need (decide (k = k')) (sCmp (y < x) K)
  | .geq => need (decide (k = k')) (sCmp (y ≤ x) K)
  | .quo => need (decide (k = k')) (y ≠ 0 ∧ newI (k.wrap (x.tdiv y)) fun z => K (.int k z))
  | .rem => need (decide (k = k')) (y ≠ 0 ∧ newI (x.tmod y) fun z => K (.int k z))
  | .and => need (decide (k = k')) (newI (bAnd k x y) fun z => K (.int k z))
  | .or => need (decide (k = k')) (newI (bOr k x y) fun z => K (.int k z))
  | .xor => need (decide (k = k')) (newI (bXor k x y) fun z => K (.int k z))
  | .andNot => need (decide (k = k')) (newI (bAndNot k x y) fun z => K (.int k z))

def sStr (op : BinOp) (a b : ByteArray) (K : Value → Prop) : Prop :=
  match op with
  | .add => a.size + b.size ≤ 9223372036854775807 ∧ K (.string (a ++ b))
  | .eql => sCmp (a = b) K
  | .neq => brP (a = b) (K (.bool false)) (K (.bool true))
  | _ => False

/-- The kinds of cells of a type whose values are compared cell by cell. -/
inductive LK where
  | bool
  | str
  | int (k : IntKind)

def flatF (g : TypeId → Option (List LK)) : List Field → Nat → Option (List LK)
  | [], _ => some []
  | f :: r, off => bif f.name == "_" then none else match g f.type with
    | some l => bif Nat.beq f.offset off then (flatF g r (off + l.length)).map (l ++ ·) else none
    | none => none

def repK (l : List LK) : Nat → List LK
  | 0 => []
  | n + 1 => l ++ repK l n

def flatS (P : Program) : Nat → TypeId → Option (List LK)
  | 0, _ => none
  | d + 1, t => match P.info? t with
    | none => none
    | some i => match (match P.underlying t with
      | some .bool => some [LK.bool]
      | some .string => some [.str]
      | some (.int k) => some [.int k]
      | some (.struct fs) => bif P.stoodInHeld t then none else flatF (flatS P d) fs.toList 0
      | some (.array n e) => (flatS P d e).map fun l => repK l n
      | _ => none) with
      | some l => bif Nat.beq i.size l.length then some l else none
      | none => none

def LK.ok : LK → Value → Bool
  | .bool, .bool _ => true
  | .str, .string _ => true
  | .int k, .int k' _ => decide (k = k')
  | _, _ => false

def LK.oks : List LK → List Value → Bool
  | [], [] => true
  | k :: l, v :: vs => match k.ok v with | true => LK.oks l vs | false => false
  | _, _ => false

inductive GK where
  | not | neg | com | boolEq (neg : Bool) | str (op : BinOp) | agg (neg : Bool) (l : List LK) | idxStr | idxArr (n size : Nat) | slStr | conv (k : IntKind) | strStr | lenStr | max | min | other

/-- Of which kind a general operation is. -/
def gkOf (P : Program) (o : Oper) : GK :=
  match o.op with
  | .unOp .not _ _ => .not
  | .unOp .neg _ _ => .neg
  | .unOp .xor _ _ => .com
  | .binOp op t _ _ _ => match P.underlying t with
    | some .bool => (match op with | .eql => .boolEq false | .neq => .boolEq true | _ => .other)
    | some .string => .str op
    | some (.struct _) | some (.array _ _) => (match op, flatS P 4 t, P.eqGuardType P.depth t with | .eql, some l, false => .agg false l | .neq, some l, false => .agg true l | _, _, _ => .other)
    | _ => .other
  | .index t _ _ => match P.underlying t with
    | some .string => .idxStr
    | some (.array n e) => (match P.info? e, P.underlying e with | some i, some (.int _) => .idxArr n i.size | some i, some .bool => .idxArr n i.size | some i, some .string => .idxArr n i.size | _, _ => .other)
    | _ => .other
  | .slice t _ _ _ none => match P.underlying t with
    | some .string => .slStr
    | _ => .other
  | .convert s t _ => match P.underlying s, P.underlying t with
    | some (.int _), some (.int k) => .conv k
    | some .string, some .string => .strStr
    | _, _ => .other
  | .call c => match c.callee, c.argTypes.toList with
    | .builtin .len, t :: _ => (match P.underlying t with | some .string => .lenStr | _ => .other)
    | .builtin .max, _ => .max
    | .builtin .min, _ => .min
    | _, _ => .other
  | _ => .other

def sBound (ts : List Value) (d : Int) : Option Operand → (Int → Prop) → Prop
  | none, K => K d
  | some x, K => match aev ts x with
    | .int _ n => K n
    | _ => False

def sMax (gt : Int → Int → Int) : Int → List Operand → List Value → (Int → Prop) → Prop
  | x, [], _, K => K x
  | x, o :: r, ts, K => match aev ts o with
    | .int _ y => sMax gt (gt x y) r ts K
    | _ => False

def maxI (x y : Int) : Int := if y > x then y else x
def minI (x y : Int) : Int := if y < x then y else x

/-- The bytes of a string. -/
def byteAt (s : ByteArray) (i : Int) : Int := ((s.data.toList.getD i.toNat 0).toNat : Int)

def sGen (op : Op) (gk : GK) (sh : RSh) (ts : List Value) (K : Value → Prop) : Prop :=
  match gk, op with
  | .not, .unOp _ _ x => (match aev ts x with | .bool b => K (.bool (!b)) | _ => False)
  | .neg, .unOp _ _ x => (match aev ts x with | .int k n => newI (k.wrap (0 - n)) fun z => K (.int k z) | _ => False)
  | .com, .unOp _ _ x => (match aev ts x with | .int k n => newI (bXor k (if k.signed then -1 else k.max) n) fun z => K (.int k z) | _ => False)
  | .boolEq neg, .binOp _ _ x y _ => (match aev ts x, aev ts y with | .bool a, .bool b => K (.bool (neg != (a == b))) | _, _ => False)
  | .str op, .binOp _ _ x y _ => (match aev ts x, aev ts y with | .string a, .string b => sStr op a b K | _, _ => False)
  | .agg neg l, .binOp _ _ x y _ => (match aev ts x, aev ts y with
    | .agg a, .agg b => need (LK.oks l a.toList && LK.oks l b.toList) (brP (a.toList = b.toList) (K (.bool (!neg))) (K (.bool neg)))
    | _, _ => False)
  | .idxStr, .index _ x i => (match aev ts x, aev ts i with | .string s, .int _ n => 0 ≤ n ∧ n < (s.size : Int) ∧ newI (byteAt s n) fun z => K (.int .u8 z) | _, _ => False)
  | .idxArr len size, .index _ x i => (match aev ts x, aev ts i, size, sh with
      | .agg cs, .int _ n, 1, .one (.at a) => need (cs.toList.all isScal) (0 ≤ n ∧ n < (len : Int) ∧ (∃ v : a.T, cs.toList[n.toNat]? = some (a.enc v) ∧ K (a.enc v)))
      | _, _, _, _ => False)
  | .slStr, .slice _ x lo hi none => (match aev ts x with
      | .string s => sBound ts 0 lo fun l => sBound ts s.size hi fun u => 0 ≤ l ∧ l ≤ u ∧ u ≤ (s.size : Int) ∧ K (.string (s.extract l.toNat u.toNat))
      | _ => False)
  | .conv k, .convert _ _ x => (match aev ts x with | .int _ n => newI (k.wrap n) fun z => K (.int k z) | _ => False)
  | .strStr, .convert _ _ x => (match aev ts x with | .string s => K (.string s) | _ => False)
  | .lenStr, .call c => (match c.args.toList with | [x] => (match aev ts x with | .string s => K (.int .i64 (s.size : Int)) | _ => False) | _ => False)
  | .max, .call c => (match c.args.toList with | x :: r => (match aev ts x with | .int k n => sMax maxI n r ts fun m => newI m fun z => K (.int k z) | _ => False) | _ => False)
  | .min, .call c => (match c.args.toList with | x :: r => (match aev ts x with | .int k n => sMax minI n r ts fun m => newI m fun z => K (.int k z) | _ => False) | _ => False)
  | _, _ => False

/-- Values in place of operands. -/
def substO (ts : List Value) (x : Operand) : Operand := .const (aev ts x)

def wr (o : Nat) (xs cs : List Value) : List Value := cs.take o ++ xs ++ cs.drop (o + xs.length)

def appV (P : Program) (h : H) (e : TypeId) (size bytes : Nat) (s x : Value) : Option (Value × H) := aexec P [] h (.append e size bytes (.const s) (.const x))
def mkSlV (P : Program) (h : H) (e : TypeId) (bytes : Nat) (zero : List Value) (l c : Value) : Option (Value × H) := aexec P [] h (.makeSlice e bytes zero (.const l) (.const c))
def slSlV (P : Program) (h : H) (size : Nat) (x : Value) (lo hi : Option Value) : Option (Value × H) := aexec P [] h (.sliceSl size (.const x) (lo.map .const) (hi.map .const))
def opV1 (P : Program) (h : H) (op : Operand → AOp) (x : Value) : Option (Value × H) := aexec P [] h (op (.const x))
def opV2 (P : Program) (h : H) (op : Operand → Operand → AOp) (x y : Value) : Option (Value × H) := aexec P [] h (op (.const x) (.const y))

def sLoad (sh : RSh) (agg : Bool) (n : Nat) (p : Addr) (h : H) (K : Value → Prop) : Prop :=
  match agg with
  | true => exA (atsOf sh) fun cs => h.cells p n = some cs ∧ K (.agg ⟨cs⟩)
  | false => exSh (match sh with | .one s => s | _ => .at .val) fun v => h.cells p n = some [v] ∧ K v

def sStore (n : Nat) (p : Addr) (xs : List Value) (h : H) (K : H → Prop) : Prop :=
  need (Nat.beq xs.length n && xs.all (·.oneCell') && p.spot.isNone)
    (∃ (tight : Bool) (cs : List Value) (e rows : Nat), h.get p.block = some (.cells tight cs e rows) ∧ p.off + n ≤ cs.length ∧ newH (h.set p.block (.cells tight (wr p.off xs cs) e rows)) K)

def sSome (sh : RSh) (r : Option (Value × H)) (K : Value → H → Prop) : Prop := exR sh fun v => ∃ h', r = some (v, h') ∧ K v h'

def sVal (P : Program) (sh : RSh) (op : AOp) (ts : List Value) (h : H) (K : Value → H → Prop) : Prop :=
  match op with
  | .move x => K (aev ts x) h
  | .pick c a b => (match aev ts c with | .bool t => brB t (K (aev ts a) h) (K (aev ts b) h) | _ => False)
  | .alloc e zero => newH (h.alloc (.cells true zero e 1)) fun h' => K (.pointer (some ⟨h.next, 0, none⟩)) h'
  | .box e size x => need (Nat.beq (cellsL (aev ts x)).length size) (newH (h.alloc (.cells true (cellsL (aev ts x)) e 1)) fun h' => K (.pointer (some ⟨h.next, 0, none⟩)) h')
  | .build zero ps => (match partsOk ts zero.length ps with | some l => K (.agg ⟨fillL zero l⟩) h | none => False)
  | .buildSlice e n size zero ps => (match partsOk ts (n * size) ps with | some l => newH (h.alloc (.cells true (fillL (repL zero n) l) e n)) fun h' => K (.slice (some ⟨h.next, 0, none⟩) n 0) h' | none => False)
  | .load agg n a => (match aev ts a with | .pointer (some p) => sLoad sh agg n p h fun v => K v h | _ => False)
  | .store n a x => (match aev ts a with | .pointer (some p) => sStore n p (cellsL (aev ts x)) h fun h' => K undef h' | _ => False)
  | .nilCheck x => (match sh, aev ts x with
    | .one (.at .ptrO), .pointer a => ∃ b o, a = some ⟨b, o, none⟩ ∧ K (.pointer (some ⟨b, o, none⟩)) h
    | _, .pointer (some p) => K (.pointer (some p)) h
    | _, .func (.func f) a b => K (.func (.func f) a b) h
    | _, .func (.yield l) a b => K (.func (.yield l) a b) h
    | _, _ => False)
  | .ibin op x y => (match aev ts x, aev ts y with | .int k a, .int k' b => sIbin op k k' a b fun v => K v h | _, _ => False)
  | .gen o => sGen o.op (gkOf P o) sh ts fun v => K v h
  | .fieldAddr off x => (match aev ts x with | .pointer (some p) => need p.spot.isNone (K (.pointer (some ⟨p.block, p.off + off, none⟩)) h) | _ => False)
  | .field agg n off x => (match aev ts x with
    | .agg cs => need (Nat.ble (off + n) cs.toList.length) (match agg with
      | true => K (.agg ⟨(cs.toList.drop off).take n⟩) h
      | false => (match (cs.toList.drop off).take n with | [v] => K v h | _ => False))
    | _ => False)
  | .idxSl size x i => (match aev ts x, aev ts i with
    | .slice a len _, .int _ n => ∃ b o, a = some ⟨b, o, none⟩ ∧ 0 ≤ n ∧ n < (len : Int) ∧ K (.pointer (some ⟨b, o + n.toNat * size, none⟩)) h
    | _, _ => False)
  | .idxArr len size x i => (match aev ts x, aev ts i with
    | .pointer (some a), .int _ n => need a.spot.isNone (0 ≤ n ∧ n < (len : Int) ∧ K (.pointer (some ⟨a.block, a.off + n.toNat * size, none⟩)) h)
    | _, _ => False)
  | .sliceSl size x lo hi => sSome sh (slSlV P h size (aev ts x) (lo.map (aev ts)) (hi.map (aev ts))) K
  | .mkFunc f first captured => K (.func (.func f) ⟨first.map (aev ts)⟩ ⟨captured.map (aev ts)⟩) h
  | .mkIface t x => K (.iface t (aev ts x)) h
  | .extract x i => (match aev ts x with | .tuple vs => (match vs.toList[i]? with | some v => K v h | none => False) | _ => False)
  | .lenSl x => (match aev ts x with | .slice _ n _ => K (.int .i64 (n : Int)) h | _ => False)
  | .eqNil kind neg x y => (match kind, aev ts x, aev ts y with
    | 0, .pointer a, .pointer none => K (.bool (neg != a.isNone)) h
    | 0, .pointer none, .pointer b => K (.bool (neg != b.isNone)) h
    | 1, .slice a _ _, .slice none _ _ => K (.bool (neg != a.isNone)) h
    | 1, .slice none _ _, .slice b _ _ => K (.bool (neg != b.isNone)) h
    | 2, .func _ _ _, .nilFunc => K (.bool neg) h
    | _, _, _ => False)
  | .append e size bytes s x => sSome sh (appV P h e size bytes (aev ts s) (aev ts x)) K
  | .makeSlice e bytes zero l c => sSome sh (mkSlV P h e bytes zero (aev ts l) (aev ts c)) K
  | .strBytes e x => sSome sh (opV1 P h (.strBytes e) (aev ts x)) K
  | .bytesStr x => sSome sh (opV1 P h .bytesStr (aev ts x)) K
  | .toRo x => sSome sh (opV1 P h .toRo (aev ts x)) K
  | .capNil x => sSome sh (opV1 P h .capNil (aev ts x)) K
  | .indexByte s c => sSome sh (opV2 P h .indexByte (aev ts s) (aev ts c)) K
  | .copyNone x y => sSome sh (opV2 P h .copyNone (aev ts x) (aev ts y)) K
  | op => sSome sh (aexec P ts h op) K

section
variable (P : Program) (W : Rec) (Γ : Hints) (rd : Bool)

def sCall (f : Value) (args : List Value) (sh : RSh) (h : H) (K : Value → H → Prop) (Kp : Value → H → Prop) : Prop :=
  match Γ.pan with
  | false => exR sh fun v => ∃ h', Ret W f args h v h' ∧ K v h'
  | true => (exR sh fun v => ∃ h', Ret W f args h v h' ∧ K v h') ∨ (∃ v h', Pan W f args h v h' ∧ Kp v h')

def sOp (o : AO) (ts : List Value) (df : List ADef) (h : H) (K : List Value → List ADef → H → Prop) (Kp : Value → H → Prop) : Prop :=
  match o.op with
  | .call f args | .callP f args => sCall W Γ (aev ts f) (args.map (aev ts)) (shOf Γ o.dst) h (fun v h' => sPut (shOf Γ o.dst) o.dst v ts fun ts' => K ts' df h') Kp
  | .defer f args => (match rd, aev ts f with
    | false, .func (.func g) x y => K (putL o.dst undef ts) (.call (.func (.func g) x y) (args.map (aev ts)) :: df) h
    | _, _ => False)
  | .recover => False
  | .panic x => (match aev ts x with | .iface t v => Kp (.iface t v) h | _ => False)
  | op => sVal P (shOf Γ o.dst) op ts h fun v h' => sPut (shOf Γ o.dst) o.dst v ts fun ts' => K ts' df h'

def sOps : List AO → List Value → List ADef → H → (AExit → List Value → List ADef → H → Prop) → Prop
  | [], ts, df, h, Q => Q .normal ts df h
  | o :: r, ts, df, h, Q => sGuard o.guard ts (sOp P W Γ rd o ts df h (fun ts' df' h' => sOps r ts' df' h' Q) fun v h' => Q (.panic v) ts df h') (sOps r (putL o.dst undef ts) df h Q)

/-- The states ahead of the operations, the last one first. -/
def sTr : List AO → List (List Value × H) → List Value → H → (List (List Value × H) → List Value → H → Prop) → Prop
  | [], G, ts, h, K => K ((ts, h) :: G) ts h
  | o :: r, G, ts, h, K => sGuard o.guard ts (match o.op with
      | .call f args | .callP f args => exR (shOf Γ o.dst) fun v => ∃ h', Ret W (aev ts f) (args.map (aev ts)) h v h' ∧ sPut (shOf Γ o.dst) o.dst v ts fun ts' => sTr r ((ts, h) :: G) ts' h' K
      | .defer _ _ | .recover | .panic _ => False
      | op => sVal P (shOf Γ o.dst) op ts h fun v h' => sPut (shOf Γ o.dst) o.dst v ts fun ts' => sTr r ((ts, h) :: G) ts' h' K)
    (sTr r ((ts, h) :: G) (putL o.dst undef ts) h K)

def sChk (ops : List AO) (G : List (List Value × H)) : List (Nat × Nat) → Prop → Prop
  | [], K => K
  | c :: r, K => (match ops[c.1]?, G[c.1]?, G[c.2]? with
    | some o, some (ts, h), some (_, h') => sGuard o.guard ts (match o.op with
      | .load _ n x => (match aev ts x with | .pointer (some p) => sameCells h h' p n = true | _ => False)
      | _ => False) True
    | _, _, _ => False) ∧ sChk ops G r K

def H.res (h : H) (n : Nat) : H := { next := h.next + n, t := h.t }

def sPlug (p : Nat → Bool) (base : Nat) : List (Nat × Blk) → H → (H → Prop) → Prop
  | [], h, K => K h
  | (j, b) :: r, h, K => match p j with
    | true => newH (plug h (base + j) b) fun h' => sPlug p base r h' K
    | false => sPlug p base r h K

def sFill (n : Nat) (op : AOp) (ts : List Value) (K : Value → Option Blk → Prop) : Prop :=
  match op with
  | .alloc e zero => K (.pointer (some ⟨n, 0, none⟩)) (some (.cells true zero e 1))
  | .box e size x => need (Nat.beq (cellsL (aev ts x)).length size) (K (.pointer (some ⟨n, 0, none⟩)) (some (.cells true (cellsL (aev ts x)) e 1)))
  | .buildSlice e k size zero ps => (match partsOk ts (k * size) ps with | some l => K (.slice (some ⟨n, 0, none⟩) k 0) (some (.cells true (fillL (repL zero k) l) e k)) | none => False)
  | .makeSlice e bytes zero l c => (match aev ts l, aev ts c with
    | .int _ l, .int _ c => 0 ≤ l ∧ l = c ∧ l.toNat * bytes ≤ maxBytes ∧ l.toNat ≤ maxLen ∧ K (.slice (some ⟨n, 0, none⟩) l.toNat 0) (some (.cells true (repL zero l.toNat) e l.toNat))
    | _, _ => False)
  | _ => False

def sTrL (b : List Nat) (base : Nat) : List AO → Nat → List LS → LS → (List LS → LS → Prop) → Prop
  | [], _, G, s, K => K (s :: G) s
  | o :: r, i, G, s, K => sGuard o.guard s.ts (match isFill o.op with
      | true => sFill (base + i) o.op s.ts fun v ob => sPut (shOf Γ o.dst) o.dst v s.ts fun ts' => sTrL b base r (i + 1) (s :: G) { ts := ts', h := s.h, F := s.F ++ (ob.toList.map fun b => (i, b)) } K
      | false => (match o.op with
        | .call f args => sPlug (fun j => bitOf b j i) base s.F s.h fun h1 => exR (shOf Γ o.dst) fun v => ∃ h', Ret W (aev s.ts f) (args.map (aev s.ts)) h1 v h' ∧
            sPut (shOf Γ o.dst) o.dst v s.ts fun ts' => sTrL b base r (i + 1) (s :: G) { ts := ts', h := h', F := s.F } K
        | .callP f args => sPlug (fun j => bitOf b j i) base s.F s.h fun h1 => exR (shOf Γ o.dst) fun v => ∃ h', Ret W (aev s.ts f) (args.map (aev s.ts)) h1 v h' ∧
            sPut (shOf Γ o.dst) o.dst v s.ts fun ts' => sTrL b base r (i + 1) (s :: G) { ts := ts', h := s.h, F := s.F } K
        | .defer _ _ | .recover | .panic _ => False
        | op => (match loud op || needsHeap op with
          | true => sPlug (fun j => bitOf b j i) base s.F s.h fun h1 => sVal P (shOf Γ o.dst) op s.ts h1 fun v h' => sPut (shOf Γ o.dst) o.dst v s.ts fun ts' =>
              sTrL b base r (i + 1) (s :: G) { ts := ts', h := bif loud op then h' else s.h, F := s.F } K
          | false => sVal P (shOf Γ o.dst) op s.ts s.h fun v _ => sPut (shOf Γ o.dst) o.dst v s.ts fun ts' => sTrL b base r (i + 1) (s :: G) { ts := ts', h := s.h, F := s.F } K)))
    (sTrL b base r (i + 1) (s :: G) { ts := putL o.dst undef s.ts, h := s.h, F := s.F } K)

def sChkL (b : List Nat) (base : Nat) (ops : List AO) (F : List (Nat × Blk)) (G : List LS) : List (Nat × Nat) → Prop → Prop
  | [], K => K
  | c :: r, K => (match ops[c.1]?, G[c.1]?, G[c.2]? with
    | some o, some s, some s' => sGuard o.guard s.ts (match o.op with
      | .load _ n x => (match aev s.ts x with
        | .pointer (some p) => sameCells (plugs (fun j => bitOf b j c.1) base F s.h) (plugs (fun j => bitOf b j c.1) base F s'.h) p n = true
        | _ => False)
      | _ => False) True
    | _, _, _ => False) ∧ sChkL b base ops F G r K

def dstsO : List AO → List Tmp
  | [] => []
  | o :: r => match o.dst with
    | some d => d :: dstsO r
    | none => dstsO r

def dstsC : AC → List Tmp
  | .reg ops => dstsO ops
  | .regD ops _ _ => dstsO ops
  | .regL _ ops _ => dstsO ops
  | .seq a b => dstsC a ++ dstsC b
  | .cond _ a b => dstsC a ++ dstsC b
  | .block _ a => dstsC a
  | .loop a => dstsC a
  | _ => []

def findV : List (Tmp × Value) → Tmp → Option Value
  | [], _ => none
  | (t, v) :: r, d => bif Nat.beq t d then some v else findV r d

/-- The slots at the head of a loop: those that are carried, whatever stands in the others that the loop sets, and those that stay. -/
def headL (D : List Tmp) (car : List (Tmp × Value)) (j : Nat → Value) : Nat → List Value → List Value
  | _, [] => []
  | i, v :: r => (match findV car i with | some x => x | none => bif memN D i then j i else v) :: headL D car j (i + 1) r

def Sh.val : (s : Sh) → List Value → Value
  | .at _, v :: _ => v
  | .at _, [] => undef
  | .agg l, vs => .agg ⟨vs.take l.length⟩

def carVs : List (Tmp × Sh) → List Value → List (Tmp × Value)
  | [], _ => []
  | (t, s) :: r, vs => (t, s.val vs) :: carVs r (vs.drop s.ats.length)

def allS : (l : List At) → ArrT l (H → Prop) → ArrT l (H → Nat) → (List Value → (H → Prop) → (H → Nat) → Prop) → Prop
  | [], I, M, K => K [] I M
  | a :: r, I, M, K => ∀ x : a.T, allS r (I x) (M x) fun vs i m => K (a.enc x :: vs) i m

def At.look : (a : At) → Value → (a.T → Prop) → Prop
  | .int k, v, K => (match v with | .int k' n => need (decide (k = k')) (K n) | _ => False)
  | .bool, v, K => (match v with | .bool b => K b | _ => False)
  | .str, v, K => (match v with | .string s => K s | _ => False)
  | .sl, v, K => (match v with | .slice p n c => K ⟨p, n, c⟩ | _ => False)
  | .ptr, v, K => (match v with | .pointer (some ⟨b, o, none⟩) => K ⟨b, o⟩ | _ => False)
  | .ptrO, v, K => (match v with | .pointer p => K p | _ => False)
  | .val, v, K => K v

def rdS : (l : List At) → List Value → ArrT l (H → Prop) → ArrT l (H → Nat) → ((H → Prop) → (H → Nat) → Prop) → Prop
  | [], _, I, M, K => K I M
  | a :: r, v :: vs, I, M, K => a.look v fun x => rdS r vs (I x) (M x) K
  | _ :: _, [], _, _, _ => False

def carRd : List (Tmp × Sh) → List Value → List Value
  | [], _ => []
  | (t, .at _) :: r, ts => ts.getD t undef :: carRd r ts
  | (t, .agg l) :: r, ts => (match ts.getD t undef with | .agg cs => cs.toList.take l.length | _ => List.replicate l.length undef) ++ carRd r ts

/-- Aggregates that are carried are whole. -/
def carOK : List (Tmp × Sh) → List Value → Bool
  | [], _ => true
  | (_, .at _) :: r, ts => carOK r ts
  | (t, .agg l) :: r, ts => (match ts.getD t undef with | .agg cs => Nat.beq cs.toList.length l.length | _ => false) && carOK r ts

def firstT : List Tmp → Tmp
  | [] => 0
  | t :: _ => t

/-- What holds of an iteration: it calls what it is given with each of some values, one after the other, as long as that answers true; beyond that it does not turn what was there. -/
def Stab (C : List Nat → H → Prop) : Prop := ∀ L h h', C L h → h.next ≤ h'.next → (∀ i ∈ L, h'.get i = h.get i) → C L h'

def Keeps (L : List Nat) (h h' : H) : Prop := h.next ≤ h'.next ∧ ∀ i, i < h.next → i ∉ L → h'.get i = h.get i

def Iter (W : Rec) (f : Value) (xs : List Value) (h : H) : Prop :=
  ∀ (y : Value) (L0 : List Nat) (C : Nat → List Nat → H → Prop) (J : List Nat → H → Prop) (h0 : H),
    Keeps [] h h0 → (∀ i ∈ L0, h.next ≤ i ∨ i < h.next ∧ h.get i ≠ none) → (∀ i ∈ L0, i < h0.next) → (∀ k, Stab (C k)) → Stab J → C 0 L0 h0 →
    (∀ k x L h1, xs[k]? = some x → C k L h1 → ∃ b h2 L', Ret W y [x] h1 (.bool b) h2 ∧ Keeps L h1 h2 ∧ (∀ i ∈ L', i ∈ L ∨ h1.next ≤ i) ∧ (match b with | true => C (k + 1) L' h2 | false => J L' h2)) →
    ∃ v h' L', Ret W f [y] h0 v h' ∧ Keeps L0 h0 h' ∧ (C xs.length L' h' ∨ J L' h')

def S : AC → Bool → List Value → List ADef → H → (AExit → List Value → List ADef → H → Prop) → Prop
  | .skip, _, ts, df, h, Q => Q .normal ts df h
  | .reg ops, rd, ts, df, h, Q => sOps P W Γ rd ops ts df h Q
  | .regD ops checks _, _, ts, df, h, Q => sTr P W Γ ops [] ts h fun G ts' h' => sChk ops G.reverse checks (Q .normal ts' df h')
  | .regL b ops checks, _, ts, df, h, Q => newH (h.res ops.length) fun h1 => sTrL P W Γ b h.next ops 0 [] ⟨ts, h1, []⟩ fun G s => sChkL b h.next ops s.F G.reverse checks
      (sPlug (fun _ => true) h.next s.F s.h fun h' => Q .normal s.ts df h')
  | .seq a b, rd, ts, df, h, Q => S a rd ts df h fun x ts' df' h' => match x with
    | .normal => S b rd ts' df' h' Q
    | .exit id => Q (.exit id) ts' df' h'
    | .ret => Q .ret ts' df' h'
    | .panic v => Q (.panic v) ts' df' h'
  | .cond c a b, rd, ts, df, h, Q => (match aev ts c with | .bool t => brB t (S a rd ts df h Q) (S b rd ts df h Q) | _ => False)
  | .block id c, rd, ts, df, h, Q => S c rd ts df h fun x ts' df' h' => match x with
    | .exit id' => (match Nat.beq id' id with | true => Q .normal ts' df' h' | false => Q (.exit id') ts' df' h')
    | .normal => Q .normal ts' df' h'
    | .ret => Q .ret ts' df' h'
    | .panic v => Q (.panic v) ts' df' h'
  | .loop c, rd, ts, df, h, Q =>
    ∃ (I : ArrT (carAts (findL Γ.loops (firstT (dstsC c)))) (H → Prop)) (M : ArrT (carAts (findL Γ.loops (firstT (dstsC c)))) (H → Nat)),
      need (carOK (findL Γ.loops (firstT (dstsC c))) ts) (rdS _ (carRd (findL Γ.loops (firstT (dstsC c))) ts) I M (fun i _ => i h)) ∧
      ∀ j : Nat → Value, allS _ I M fun vs i m => ∀ h1, i h1 →
        S c rd (headL (dstsC c) (carVs (findL Γ.loops (firstT (dstsC c))) vs) j 0 ts) df h1 fun x ts' df' h' => match x with
          | .normal => df' = df ∧ need (carOK (findL Γ.loops (firstT (dstsC c))) ts') (rdS _ (carRd (findL Γ.loops (firstT (dstsC c))) ts') I M fun i' m' => i' h' ∧ m' h' < m h1)
          | .exit id => Q (.exit id) ts' df' h'
          | .ret => Q .ret ts' df' h'
          | .panic v => Q (.panic v) ts' df' h'
  | .rangeFunc _ _ _ _, _, _, _, _, _ => False
  | .exit id, _, ts, df, h, Q => Q (.exit id) ts df h
  | .ret, _, ts, df, h, Q => Q .ret ts df h
  | .stuck, _, _, _, _, _ => False

def sUnw : List ADef → H → (H → Prop) → Prop
  | [], h, K => K h
  | .coll d :: r, h, K => h.get d = some .dfr ∧ newH (h.set d .dead) fun h' => sUnw r h' K
  | .call _ _ :: _, _, _ => False

def sRes (h : H) (ts : List Value) : List ARV → List Sh → (List Value → Prop) → Prop
  | [], _, K => K []
  | .tmp t :: r, l, K => need (!(isBad (ts.getD t undef))) (sRes h ts r (l.drop 1) fun vs => K (ts.getD t undef :: vs))
  | .cell t agg n :: r, l, K => (match ts.getD t undef with
    | .pointer (some p) => sLoad (.one (l.headD (.at .val))) agg n p h fun v => sRes h ts r (l.drop 1) fun vs => K (v :: vs)
    | _ => False)

def sFin (fn : AFn) (x : AExit) (ts : List Value) (df : List ADef) (h : H) (R : ARes → H → Prop) : Prop :=
  match x with
  | .normal | .ret => sUnw df h fun h' => sRes h' ts fn.results Γ.res fun vs => R (.ret (tupleOf vs)) h'
  | .panic v => sUnw df h fun h' => R (.panic v) h'
  | .exit _ => False

def sFn (T : Nat → Option AFn) (g : Nat) (args : List Value) (h : H) (R : ARes → H → Prop) : Prop :=
  match T g with
  | some fn => S P W Γ fn.body false (args ++ List.replicate (fn.ntmps - args.length) undef) [] h fun x ts df h' => sFin Γ fn x ts df h' R
  | none => False

end

end Go.Ev

namespace Go.Ev
open Go Go.RowKit

/-! ### Small words -/
theorem need_iff {b : Bool} {X : Prop} : need b X ↔ b = true ∧ X := by cases b <;> simp [need]
theorem brB_elim {b : Bool} {X Y : Prop} (h : brB b X Y) : (b = true ∧ X) ∨ (b = false ∧ Y) := by cases b <;> simp_all [brB]
theorem newH_elim {h : H} {K : H → Prop} (x : newH h K) : K h := x h rfl
theorem newI_elim {i : Int} {K : Int → Prop} (x : newI i K) : K i := x i rfl

theorem exA_elim : ∀ {l : List At} {K : List Value → Prop}, exA l K → ∃ vs, vs.length = l.length ∧ K vs
  | [], _, h => ⟨[], rfl, h⟩
  | a :: l, K, h => by
    obtain ⟨x, hx⟩ := h
    obtain ⟨vs, h1, h2⟩ := exA_elim hx
    exact ⟨a.enc x :: vs, by simp [h1], h2⟩

theorem exSh_elim {s : Sh} {K : Value → Prop} (h : exSh s K) : ∃ v, K v := by
  cases s with
  | «at» a => obtain ⟨x, hx⟩ := h; exact ⟨_, hx⟩
  | agg l => obtain ⟨vs, _, h2⟩ := exA_elim (l := l) h; exact ⟨_, h2⟩

theorem exShs_elim : ∀ {l : List Sh} {K : List Value → Prop}, exShs l K → ∃ vs, K vs
  | [], _, h => ⟨[], h⟩
  | s :: l, K, h => by
    obtain ⟨v, hv⟩ := exSh_elim (s := s) h
    obtain ⟨vs, h2⟩ := exShs_elim (l := l) hv
    exact ⟨v :: vs, h2⟩

theorem exR_elim {s : RSh} {K : Value → Prop} (h : exR s K) : ∃ v, K v := by
  cases s with
  | one s => exact exSh_elim h
  | tup l => obtain ⟨vs, h2⟩ := exShs_elim (l := l) h; exact ⟨_, h2⟩

theorem sPut_elim {s : RSh} {dst : Option Tmp} {v : Value} {ts : List Value} {K : List Value → Prop} (h : sPut s dst v ts K) : K (putL dst v ts) := by
  unfold sPut at h
  cases dst with
  | none => exact h
  | some d =>
    simp only at h
    split at h
    · split at h
      · rename_i b
        rcases brB_elim h with ⟨rfl, h⟩ | ⟨rfl, h⟩ <;> exact h
      · exact h.elim
    · exact h

theorem sGuard_elim {g : Option (Tmp × Bool)} {ts : List Value} {X Y : Prop} (h : sGuard g ts X Y) : (wantedA g ts = true ∧ X) ∨ (wantedA g ts = false ∧ Y) := by
  unfold sGuard at h
  unfold wantedA
  cases g with
  | none => exact .inl ⟨rfl, h⟩
  | some p =>
    obtain ⟨t, b⟩ := p
    simp only at h ⊢
    cases hv : ts[t]? with
    | none =>
      have : ts.getD t undef = undef := by simp [List.getD_eq_getElem?_getD, hv]
      rw [this] at h
      exact .inr ⟨rfl, h⟩
    | some v =>
      have : ts.getD t undef = v := by simp [List.getD_eq_getElem?_getD, hv]
      rw [this] at h
      cases v with
      | bool c =>
        simp only at h ⊢
        cases b with
        | true => rcases brB_elim (X := X) (Y := Y) h with ⟨rfl, h⟩ | ⟨rfl, h⟩
                  · exact .inl ⟨rfl, h⟩
                  · exact .inr ⟨rfl, h⟩
        | false => rcases brB_elim (X := Y) (Y := X) h with ⟨rfl, h⟩ | ⟨rfl, h⟩
                   · exact .inr ⟨rfl, h⟩
                   · exact .inl ⟨rfl, h⟩
      | _ => exact .inr ⟨rfl, h⟩

theorem sCmp_elim {p : Prop} [Decidable p] {K : Value → Prop} (h : sCmp p K) : K (.bool (decide p)) := by
  by_cases hp : p
  · simpa [hp] using h.1 hp
  · simpa [hp] using h.2 hp

theorem brP_elim {p : Prop} [Decidable p] {K : Value → Prop} {n : Bool} (h : brP p (K (.bool (!n))) (K (.bool n))) : K (.bool (n != decide p)) := by
  by_cases hp : p
  · have := h.1 hp; cases n <;> simpa [hp] using this
  · have := h.2 hp; cases n <;> simpa [hp] using this

theorem sIbin_elim {op : BinOp} {k k' : IntKind} {x y : Int} {K : Value → Prop} (h : sIbin op k k' x y K) :
    (k = k' ∨ op = .shl ∨ op = .shr) ∧ ∃ v, ibin op k x y = some v ∧ K v := by
  cases op <;> simp only [sIbin, need_iff, decide_eq_true_eq] at h
  case add => exact ⟨.inl h.1, _, rfl, newI_elim h.2⟩
  case sub => exact ⟨.inl h.1, _, rfl, newI_elim h.2⟩
  case mul => exact ⟨.inl h.1, _, rfl, newI_elim h.2⟩
  case quo => exact ⟨.inl h.1, _, by simp only [ibin, if_neg h.2.1], newI_elim h.2.2⟩
  case rem => exact ⟨.inl h.1, _, by simp only [ibin, if_neg h.2.1], newI_elim h.2.2⟩
  case and => exact ⟨.inl h.1, _, rfl, newI_elim h.2⟩
  case or => exact ⟨.inl h.1, _, rfl, newI_elim h.2⟩
  case xor => exact ⟨.inl h.1, _, rfl, newI_elim h.2⟩
  case andNot => exact ⟨.inl h.1, _, rfl, newI_elim h.2⟩
  case shl => exact ⟨.inr (.inl rfl), _, by simp only [ibin, if_neg (Int.not_lt.2 h.1)]; rfl, newI_elim h.2⟩
  case shr => exact ⟨.inr (.inr rfl), _, by simp only [ibin, if_neg (Int.not_lt.2 h.1)]; rfl, newI_elim h.2⟩
  case eql =>
    refine ⟨.inl h.1, _, rfl, ?_⟩
    have := sCmp_elim h.2
    rwa [show (x == y) = decide (x = y) from rfl]
  case neq =>
    refine ⟨.inl h.1, _, rfl, ?_⟩
    have := brP_elim (n := true) (K := K) h.2
    have e : (x != y) = (true != decide (x = y)) := by
      by_cases hxy : x = y
      · subst hxy; simp
      · simp [hxy, bne]
    rw [e]; exact this
  case lss => exact ⟨.inl h.1, _, rfl, sCmp_elim h.2⟩
  case leq => exact ⟨.inl h.1, _, rfl, sCmp_elim h.2⟩
  case gtr => exact ⟨.inl h.1, _, rfl, sCmp_elim h.2⟩
  case geq => exact ⟨.inl h.1, _, rfl, sCmp_elim h.2⟩

theorem isNone_spot {a : Option Nat} (h : a.isNone = true) : a = none := by cases a <;> simp_all

section
variable {P : Program} {ts : List Value} {h : H}

theorem aev_const (v : Value) : aev [] (.const v) = v := rfl

theorem appV_eq {e : TypeId} {size bytes : Nat} {s x : Operand} : appV P h e size bytes (aev ts s) (aev ts x) = aexec P ts h (.append e size bytes s x) := rfl
theorem mkSlV_eq {e : TypeId} {bytes : Nat} {zero : List Value} {l c : Operand} : mkSlV P h e bytes zero (aev ts l) (aev ts c) = aexec P ts h (.makeSlice e bytes zero l c) := rfl
theorem slSlV_eq {size : Nat} {x : Operand} {lo hi : Option Operand} : slSlV P h size (aev ts x) (lo.map (aev ts)) (hi.map (aev ts)) = aexec P ts h (.sliceSl size x lo hi) := by
  cases lo <;> cases hi <;> rfl

theorem sSome_elim {sh : RSh} {r : Option (Value × H)} {K : Value → H → Prop} (hs : sSome sh r K) : ∃ v h', r = some (v, h') ∧ K v h' := by
  obtain ⟨v, h', h1, h2⟩ := exR_elim hs
  exact ⟨v, h', h1, h2⟩

theorem sLoad_elim {sh : RSh} {agg : Bool} {n : Nat} {p : Addr} {K : Value → Prop} (hs : sLoad sh agg n p h K) :
    ∃ cs v, h.cells p n = some cs ∧ (if agg then some (Value.agg cs.toArray) else one cs) = some v ∧ K v := by
  unfold sLoad at hs
  cases agg with
  | true =>
    obtain ⟨vs, _, h1, h2⟩ := exA_elim hs
    exact ⟨vs, _, h1, rfl, h2⟩
  | false =>
    obtain ⟨v, h1, h2⟩ := exSh_elim hs
    exact ⟨[v], v, h1, rfl, h2⟩

theorem opt_isNone {α : Type} (neg : Bool) (a : Option α) : (neg != a.isNone) = (neg != a.isNone) := rfl

/-! ### General operations: what the model says of them -/
theorem pureRun_pure {α : Type} (x : α) : pureRun P (pure x : Sem α) = some x := rfl

theorem pureRun_bind {α β : Type} (m : Sem α) (f : α → Sem β) : pureRun P (m >>= f) = (pureRun P m).bind fun x => pureRun P (f x) := by
  show pureRun P (Sem.bind m f) = _
  induction m with
  | pure a => rfl
  | program k ih => simp only [Sem.bind, pureRun, ih]
  | mark m k ih => simp only [Sem.bind, pureRun, ih]
  | _ => simp [Sem.bind, pureRun]

theorem pureRun_program : pureRun P program = some P := rfl
theorem pureRun_underlying {t : TypeId} {d : TypeDesc} (h : P.underlying t = some d) : pureRun P (underlying t) = some d := by
  simp only [underlying, pureRun_bind, pureRun_program, Option.bind_some, h]
  rfl
end

end Go.Ev

namespace Go.Ev
open Go Go.RowKit

variable {P : Program} {ts : List Value} {h : H}

theorem pureRun_ite {α : Type} (c : Prop) [Decidable c] (a b : Sem α) : pureRun P (if c then a else b) = if c then pureRun P a else pureRun P b := by split <;> rfl

theorem pureRun_typeInfo {t : TypeId} {i : TypeInfo} (h : P.info? t = some i) : pureRun P (typeInfo t) = some i := by
  simp only [typeInfo, pureRun_bind, pureRun_program, Option.bind_some, h]
  rfl

theorem pureRun_sizeOf {t : TypeId} {i : TypeInfo} (h : P.info? t = some i) : pureRun P (sizeOf t) = some i.size := by
  simp only [sizeOf, pureRun_bind, pureRun_typeInfo h, Option.bind_some]
  rfl

/-! ### Comparing cell by cell -/
def isAggB (P : Program) (t : TypeId) : Bool := match P.underlying t with
  | some (.struct _) | some (.array _ _) => true
  | _ => false

def packT (P : Program) (t : TypeId) (xs : List Value) : Value := bif isAggB P t then .agg xs.toArray else xs.headD undef

theorem pureRun_isAgg {t : TypeId} {d : TypeDesc} (hd : P.underlying t = some d) : pureRun P (isAgg t) = some (isAggB P t) := by
  simp only [isAgg, pureRun_bind, pureRun_underlying hd, Option.bind_some, isAggB, hd]
  cases d <;> rfl

theorem oks_length : ∀ {l : List LK} {xs : List Value}, LK.oks l xs = true → xs.length = l.length
  | [], [], _ => rfl
  | k :: l, v :: vs, h => by
    simp only [LK.oks] at h
    split at h
    · simp [oks_length h]
    · cases h
  | [], _ :: _, h => by cases h
  | _ :: _, [], h => by cases h

theorem oks_append : ∀ {l m : List LK} {xs : List Value}, LK.oks (l ++ m) xs = true → LK.oks l (xs.take l.length) = true ∧ LK.oks m (xs.drop l.length) = true
  | [], m, xs, h => by simpa [LK.oks] using h
  | k :: l, m, [], h => by cases h
  | k :: l, m, v :: vs, h => by
    simp only [List.cons_append, LK.oks] at h
    split at h
    · rename_i hk
      have := oks_append (l := l) h
      simp only [List.length_cons, List.take_succ_cons, List.drop_succ_cons, LK.oks, hk]
      exact this
    · cases h

theorem oks_scal : ∀ {l : List LK} {xs : List Value}, LK.oks l xs = true → xs.all isScal = true
  | [], [], _ => rfl
  | k :: l, v :: vs, h => by
    simp only [LK.oks] at h
    split at h
    · rename_i hk
      simp only [List.all_cons, oks_scal h, Bool.and_true]
      cases k <;> cases v <;> simp_all [LK.ok, isScal]
    · cases h
  | [], _ :: _, h => by cases h
  | _ :: _, [], h => by cases h

/-- What a comparison at this depth comes to. -/
def EqAt' (P : Program) (d : Nat) (t : TypeId) (l : List LK) : Prop :=
  ∀ xs ys, LK.oks l xs = true → LK.oks l ys = true → ∃ b, pureRun P (Op.equalIn d t (packT P t xs) (packT P t ys)) = some b ∧ (b = true ↔ xs = ys)

theorem pureRun_part {t : TypeId} {i : TypeInfo} {d : TypeDesc} (hd : P.underlying t = some d) (hi : P.info? t = some i) {xs : List Value} {off n : Nat} (hn : i.size = n) (hlen : off + n ≤ xs.length) (hne : isAggB P t = false → n = 1) :
    pureRun P (part t xs.toArray off) = some (packT P t ((xs.drop off).take n)) := by
  simp only [part, pureRun_bind, pureRun_isAgg hd, Option.bind_some]
  cases ha : isAggB P t with
  | true =>
    simp only [if_true, pureRun_bind, pureRun_sizeOf hi, Option.bind_some, packT, ha, cond_true, hn]
    have : xs.toArray.extract off (off + n) = ((xs.drop off).take n).toArray := by simp
    rw [this]; rfl
  | false =>
    have h1 := hne ha
    subst h1
    have hlt : off < xs.length := by omega
    simp only [Bool.false_eq_true, if_false, packT, ha, cond_false]
    have : xs.toArray[off]? = some xs[off] := by simp [hlt]
    rw [this]
    simp only [List.drop_eq_getElem_cons hlt, List.take_succ_cons, List.headD_cons]
    rfl

theorem flatS_parts {d : Nat} {t : TypeId} {l : List LK} (h : flatS P (d + 1) t = some l) : ∃ i, P.info? t = some i ∧ i.size = l.length ∧
    ((P.underlying t = some .bool ∧ l = [.bool]) ∨ (P.underlying t = some .string ∧ l = [.str]) ∨ (∃ k, P.underlying t = some (.int k) ∧ l = [.int k]) ∨
      (∃ fs, P.underlying t = some (.struct fs) ∧ P.stoodInHeld t = false ∧ flatF (flatS P d) fs.toList 0 = some l) ∨
      (∃ n e m, P.underlying t = some (.array n e) ∧ flatS P d e = some m ∧ l = repK m n)) := by
  simp only [flatS] at h
  split at h
  · cases h
  · rename_i i hi
    split at h
    · rename_i l' hl'
      cases hb : Nat.beq i.size l'.length with
      | false => rw [hb] at h; cases h
      | true =>
        rw [hb] at h
        simp only [cond_true, Option.some.injEq] at h
        subst h
        refine ⟨i, hi, Nat.eq_of_beq_eq_true hb, ?_⟩
        split at hl'
        · rename_i hu; cases hl'; exact .inl ⟨hu, rfl⟩
        · rename_i hu; cases hl'; exact .inr (.inl ⟨hu, rfl⟩)
        · rename_i k hu; cases hl'; exact .inr (.inr (.inl ⟨k, hu, rfl⟩))
        · rename_i fs hu
          cases hs : P.stoodInHeld t with
          | true => rw [hs] at hl'; cases hl'
          | false => rw [hs] at hl'; exact .inr (.inr (.inr (.inl ⟨fs, hu, by first | rfl | exact hs, hl'⟩)))
        · rename_i n e hu
          obtain ⟨m, hm, rfl⟩ := map_some_iff hl'
          exact .inr (.inr (.inr (.inr ⟨n, e, m, hu, hm, rfl⟩)))
        · cases hl'
    · cases h

theorem isAggB_false {d : Nat} {t : TypeId} {l : List LK} (h : flatS P d t = some l) (ha : isAggB P t = false) : l.length = 1 := by
  cases d with
  | zero => cases h
  | succ d =>
    obtain ⟨i, _, _, ⟨hu, rfl⟩ | ⟨hu, rfl⟩ | ⟨k, hu, rfl⟩ | ⟨fs, hu, _, _⟩ | ⟨n, e, m, hu, _, _⟩⟩ := flatS_parts h
    · rfl
    · rfl
    · rfl
    · simp [isAggB, hu] at ha
    · simp [isAggB, hu] at ha

theorem list_split {xs ys : List Value} {n : Nat} : xs = ys ↔ xs.take n = ys.take n ∧ xs.drop n = ys.drop n := by
  constructor
  · rintro rfl; exact ⟨rfl, rfl⟩
  · rintro ⟨h1, h2⟩; rw [← List.take_append_drop n xs, h1, h2, List.take_append_drop]

theorem fields_eq {g : Nat} {D : Nat} (ih : ∀ t l, flatS P g t = some l → EqAt' P D t l) {xs ys : List Value} : ∀ (fs : List Field) (off : Nat) (l : List LK), flatF (flatS P g) fs off = some l →
    LK.oks l (xs.drop off) = true → LK.oks l (ys.drop off) = true → off ≤ xs.length → off ≤ ys.length →
    ∃ b, pureRun P (Op.eqFields D xs.toArray ys.toArray fs) = some b ∧ (b = true ↔ xs.drop off = ys.drop off)
  | [], off, l, hf, hx, hy, _, _ => by
    simp only [flatF, Option.some.injEq] at hf
    subst hf
    have h1 := oks_length hx
    have h2 := oks_length hy
    refine ⟨true, rfl, by simp [List.eq_nil_of_length_eq_zero h1, List.eq_nil_of_length_eq_zero h2]⟩
  | f :: fs, off, l, hf, hx, hy, hlx, hly => by
    simp only [flatF] at hf
    cases hn : f.name == "_" with
    | true => rw [hn] at hf; cases hf
    | false =>
      rw [hn] at hf
      simp only [cond_false] at hf
      split at hf
      · rename_i m hm
        cases hb : Nat.beq f.offset off with
        | false => rw [hb] at hf; cases hf
        | true =>
          rw [hb] at hf
          simp only [cond_true] at hf
          obtain ⟨r, hr, rfl⟩ := map_some_iff hf
          have hoff := Nat.eq_of_beq_eq_true hb
          obtain ⟨hx1, hx2⟩ := oks_append hx
          obtain ⟨hy1, hy2⟩ := oks_append hy
          rw [List.drop_drop] at hx2 hy2
          have lx1 := oks_length hx1
          have ly1 := oks_length hy1
          rw [List.length_take, List.length_drop] at lx1 ly1
          have g0 : ∃ g', g = g' + 1 := by cases g with | zero => cases hm | succ g' => exact ⟨g', rfl⟩
          obtain ⟨g', rfl⟩ := g0
          obtain ⟨i, hi, hsz, hu⟩ := flatS_parts hm
          have hd : ∃ d, P.underlying f.type = some d := by
            rcases hu with ⟨hu, _⟩ | ⟨hu, _⟩ | ⟨k, hu, _⟩ | ⟨fs, hu, _, _⟩ | ⟨n, e, m, hu, _, _⟩ <;> exact ⟨_, hu⟩
          obtain ⟨d, hd⟩ := hd
          have px := pureRun_part (P := P) (xs := xs) (off := f.offset) hd hi hsz (by omega) (isAggB_false hm)
          have py := pureRun_part (P := P) (xs := ys) (off := f.offset) hd hi hsz (by omega) (isAggB_false hm)
          rw [hoff] at px py
          obtain ⟨b, hb1, hb2⟩ := ih _ _ hm _ _ hx1 hy1
          have hne : f.name ≠ "_" := by simpa using hn
          simp only [Op.eqFields, if_pos hne, hoff, pureRun_bind, px, py, Option.bind_some, hb1]
          cases b with
          | false =>
            refine ⟨false, rfl, ?_⟩
            simp only [Bool.false_eq_true, false_iff] at hb2 ⊢
            intro e; exact hb2 (by rw [e])
          | true =>
            obtain ⟨b', hb1', hb2'⟩ := fields_eq ih fs (off + m.length) r hr hx2 hy2 (by omega) (by omega)
            refine ⟨b', by simpa using hb1', ?_⟩
            rw [hb2', list_split (xs := xs.drop off) (n := m.length), List.drop_drop, List.drop_drop]
            have := hb2.1 rfl
            simp [this]
      · cases hf

theorem pureRun_struct {d : Nat} {t : TypeId} {fs : Array Field} {xs ys : Array Value} (ht : P.underlying t = some (.struct fs)) (hp : P.stoodInHeld t = false) :
    pureRun P (Op.equalIn (d + 1) t (.agg xs) (.agg ys)) = pureRun P (Op.eqFields d xs ys fs.toList) := by
  simp only [Op.equalIn, pureRun_bind, pureRun_underlying ht, pureRun_program, Option.bind_some, hp, Bool.false_eq_true, if_false]
  rw [← Array.forIn_toList]
  generalize fs.toList = fs
  clear ht
  induction fs with
  | nil => simp [Op.eqFields, pureRun_pure]
  | cons f fs ih =>
    simp only [List.forIn_cons, Op.eqFields, pureRun_bind, pureRun_ite]
    split
    · generalize pureRun P (part f.type xs f.offset) = r1
      cases r1 with
      | none => simp
      | some a =>
        simp only [Option.bind_some]
        generalize pureRun P (part f.type ys f.offset) = r2
        cases r2 with
        | none => simp
        | some b =>
          simp only [Option.bind_some]
          generalize pureRun P (Op.equalIn d f.type a b) = r3
          cases r3 with
          | none => simp
          | some r =>
            cases r
            · simp [pureRun_pure]
            · simpa [pureRun_pure] using ih
    · simpa [pureRun_pure] using ih

def eqItems' (d : Nat) (e : TypeId) (n : Nat) (xs ys : Array Value) : List Nat → Sem Bool
  | [] => pure true
  | i :: r => do
    let a ← part e xs (i * n)
    let b ← part e ys (i * n)
    let c ← Op.equalIn d e a b
    if (!c) = true then pure false else eqItems' d e n xs ys r

theorem pureRun_array {d : Nat} {t e : TypeId} {n : Nat} {i : TypeInfo} {xs ys : Array Value} (hu : P.underlying t = some (.array n e)) (hi : P.info? e = some i) :
    pureRun P (Op.equalIn (d + 1) t (.agg xs) (.agg ys)) = pureRun P (eqItems' d e i.size xs ys (List.range n)) := by
  simp only [Op.equalIn, pureRun_bind, pureRun_underlying hu, Option.bind_some, pureRun_sizeOf hi]
  simp only [Std.Legacy.Range.forIn_eq_forIn_range', Std.Legacy.Range.size, Nat.sub_zero, Nat.add_one_sub_one, Nat.div_one, List.range_eq_range']
  generalize List.range' 0 n = is
  induction is with
  | nil => simp [eqItems', pureRun_pure]
  | cons j is ih =>
    simp only [List.forIn_cons, eqItems', pureRun_bind, pureRun_ite]
    generalize pureRun P (part e xs (j * i.size)) = r1
    cases r1 with
    | none => simp
    | some a =>
      simp only [Option.bind_some]
      generalize pureRun P (part e ys (j * i.size)) = r2
      cases r2 with
      | none => simp
      | some b =>
        simp only [Option.bind_some]
        generalize pureRun P (Op.equalIn d e a b) = r3
        cases r3 with
        | none => simp
        | some r =>
          cases r
          · simp [pureRun_pure]
          · simpa [pureRun_pure] using ih

theorem repK_length (l : List LK) : ∀ n, (repK l n).length = n * l.length
  | 0 => by simp [repK]
  | n + 1 => by simp [repK, repK_length l n, Nat.add_mul, Nat.add_comm]

theorem items_eq {D : Nat} {e : TypeId} {m : List LK} {i : TypeInfo} {d : TypeDesc} (ih : EqAt' P D e m) (hd : P.underlying e = some d) (hi : P.info? e = some i) (hsz : i.size = m.length) (hne : isAggB P e = false → m.length = 1) {xs ys : List Value} :
    ∀ (n k : Nat), LK.oks (repK m n) (xs.drop (k * m.length)) = true → LK.oks (repK m n) (ys.drop (k * m.length)) = true → k * m.length ≤ xs.length → k * m.length ≤ ys.length →
    ∃ b, pureRun P (eqItems' D e i.size xs.toArray ys.toArray (List.range' k n)) = some b ∧ (b = true ↔ xs.drop (k * m.length) = ys.drop (k * m.length))
  | 0, k, hx, hy, _, _ => by
    simp only [repK] at hx hy
    have h1 := oks_length hx
    have h2 := oks_length hy
    refine ⟨true, rfl, by simp [List.eq_nil_of_length_eq_zero h1, List.eq_nil_of_length_eq_zero h2]⟩
  | n + 1, k, hx, hy, hlx, hly => by
    simp only [repK] at hx hy
    obtain ⟨hx1, hx2⟩ := oks_append hx
    obtain ⟨hy1, hy2⟩ := oks_append hy
    rw [List.drop_drop] at hx2 hy2
    have lx1 := oks_length hx1
    have ly1 := oks_length hy1
    rw [List.length_take, List.length_drop] at lx1 ly1
    have px := pureRun_part (P := P) (xs := xs) (off := k * m.length) hd hi hsz (by omega) hne
    have py := pureRun_part (P := P) (xs := ys) (off := k * m.length) hd hi hsz (by omega) hne
    obtain ⟨b, hb1, hb2⟩ := ih _ _ hx1 hy1
    have hk : k * m.length + m.length = (k + 1) * m.length := by rw [Nat.add_mul, Nat.one_mul]
    rw [hk] at hx2 hy2
    simp only [List.range'_succ, eqItems', hsz, pureRun_bind, px, py, Option.bind_some, hb1]
    cases b with
    | false =>
      refine ⟨false, rfl, ?_⟩
      simp only [Bool.false_eq_true, false_iff] at hb2 ⊢
      intro e; exact hb2 (by rw [e])
    | true =>
      obtain ⟨b', hb1', hb2'⟩ := items_eq ih hd hi hsz hne n (k + 1) hx2 hy2 (by omega) (by omega)
      rw [hsz] at hb1'
      refine ⟨b', by simpa using hb1', ?_⟩
      rw [hb2', list_split (xs := xs.drop (k * m.length)) (n := m.length), List.drop_drop, List.drop_drop, hk]
      have := hb2.1 rfl
      simp [this]

theorem bytes_beq (a b : ByteArray) : (a == b) = true ↔ a = b := by
  constructor
  · intro h
    obtain ⟨⟨x⟩⟩ := a
    obtain ⟨⟨y⟩⟩ := b
    have : ((⟨x⟩ : Array UInt8) == ⟨y⟩) = true := h
    simp at this
    rw [this]
  · rintro rfl
    obtain ⟨⟨x⟩⟩ := a
    show ((⟨x⟩ : Array UInt8) == ⟨x⟩) = true
    simp

theorem equal_flat : ∀ (d : Nat) (t : TypeId) (l : List LK) (k : Nat), flatS P d t = some l → EqAt' P (d + k) t l
  | 0, _, _, _, h => by cases h
  | d + 1, t, l, k, h => by
    have ih := fun t l h => equal_flat d t l k h
    intro xs ys hx hy
    have hlx := oks_length hx
    have hly := oks_length hy
    rw [show d + 1 + k = d + k + 1 by omega]
    obtain ⟨i, hi, hsz, ⟨hu, rfl⟩ | ⟨hu, rfl⟩ | ⟨kk, hu, rfl⟩ | ⟨fs, hu, hst, hfl⟩ | ⟨n, e, m, hu, hm, rfl⟩⟩ := flatS_parts h
    · match xs, ys, hx, hy with
      | [.bool a], [.bool b], _, _ =>
        refine ⟨a == b, ?_, by simp⟩
        simp only [packT, isAggB, hu, cond_false, List.headD_cons, Op.equalIn, pureRun_bind, pureRun_underlying hu, Option.bind_some]
        rfl
    · match xs, ys, hx, hy with
      | [.string a], [.string b], _, _ =>
        refine ⟨a == b, ?_, by rw [bytes_beq]; simp⟩
        simp only [packT, isAggB, hu, cond_false, List.headD_cons, Op.equalIn, pureRun_bind, pureRun_underlying hu, Option.bind_some]
        rfl
    · match xs, ys, hx, hy with
      | [.int k1 a], [.int k2 b], hx, hy =>
        have e1 : kk = k1 := by simp only [LK.oks, LK.ok] at hx; split at hx <;> simp_all
        have e2 : kk = k2 := by simp only [LK.oks, LK.ok] at hy; split at hy <;> simp_all
        subst e1 e2
        refine ⟨a == b, ?_, by simp⟩
        simp only [packT, isAggB, hu, cond_false, List.headD_cons, Op.equalIn, pureRun_bind, pureRun_underlying hu, Option.bind_some, if_true]
        rfl
    · have hag : isAggB P t = true := by simp [isAggB, hu]
      simp only [packT, hag, cond_true]
      rw [pureRun_struct hu hst]
      simpa using fields_eq ih (xs := xs) (ys := ys) fs.toList 0 l hfl (by simpa using hx) (by simpa using hy) (by omega) (by omega)
    · have hag : isAggB P t = true := by simp [isAggB, hu]
      simp only [packT, hag, cond_true]
      have g0 : ∃ g', d = g' + 1 := by cases d with | zero => cases hm | succ g' => exact ⟨g', rfl⟩
      obtain ⟨g', rfl⟩ := g0
      obtain ⟨j, hj, hjs, hue⟩ := flatS_parts hm
      have hd : ∃ d, P.underlying e = some d := by
        rcases hue with ⟨hu, _⟩ | ⟨hu, _⟩ | ⟨k, hu, _⟩ | ⟨fs, hu, _, _⟩ | ⟨n, e, m, hu, _, _⟩ <;> exact ⟨_, hu⟩
      obtain ⟨dd, hd⟩ := hd
      rw [pureRun_array hu hj, List.range_eq_range']
      simpa using items_eq (ih e m hm) hd hj hjs (isAggB_false hm) (xs := xs) (ys := ys) n 0 (by simpa using hx) (by simpa using hy) (by simp) (by simp)

end Go.Ev

namespace Go.Ev
open Go Go.RowKit

variable {P : Program} {ts : List Value} {h : H}

theorem gen_val {o : Oper} {v : Value} (hc : ∀ x ∈ o.op.operands, closedV (aev ts x) = true) (hr : pureRun P (execOp (aev ts) o) = some (.value v)) (hv : closedV v = true) : aexec P ts h (.gen o) = some (v, h) := by
  have : (o.op.operands.all fun x => closedV (aev ts x)) = true := by rw [Array.all_eq_true_iff_forall_mem]; exact hc
  simp only [aexec]
  rw [if_pos this, hr]
  simp only
  rw [if_pos hv]

theorem oks_closed {l : List LK} {a : Array Value} (h : LK.oks l a.toList = true) : closedV (.agg a) = true := by
  simp only [closedV, isFlat]; exact oks_scal h

theorem eqGuard_off {op : BinOp} {t : TypeId} {x y : Operand} {a b : Array Value} (hg : P.eqGuardType P.depth t = false) (ho : op = .eql ∨ op = .neq) : pureRun P (eqGuard op t x y (.agg a) (.agg b)) = some () := by
  rcases ho with rfl | rfl <;> simp [eqGuard, pureRun_bind, pureRun_program, hg, pureRun_pure]

theorem sMax_closed {gt : Int → Int → Int} : ∀ {r : List Operand} {x : Int} {K : Int → Prop}, sMax gt x r ts K → ∀ o ∈ r, ∃ k y, aev ts o = .int k y
  | [], _, _, _, _, h => by cases h
  | o :: r, x, K, hs, o', hm => by
    simp only [sMax] at hs
    split at hs
    · rename_i k y hy
      rcases List.mem_cons.1 hm with rfl | hm
      · exact ⟨k, y, hy⟩
      · exact sMax_closed hs o' hm
    · exact hs.elim

theorem sMax_run {gt : Int → Int → Int} {f : Value → Value → Sem Value} (hf : ∀ k k' x y, pureRun P (f (.int k x) (.int k' y)) = some (.int k (gt x y))) {k : IntKind} : ∀ {r : List Operand} {x : Int} {K : Int → Prop}, sMax gt x r ts K →
    ∃ m, pureRun P ((r.map (aev ts)).foldlM f (.int k x)) = some (.int k m) ∧ K m
  | [], x, K, h => ⟨x, rfl, h⟩
  | o :: r, x, K, hs => by
    simp only [sMax] at hs
    split at hs
    · rename_i k' y hy
      obtain ⟨m, h1, h2⟩ := sMax_run hf (k := k) hs
      refine ⟨m, ?_, h2⟩
      simp only [List.map_cons, List.foldlM_cons, hy, pureRun_bind, hf, Option.bind_some, h1]
    · exact hs.elim

theorem sBound_elim {d : Int} {o : Option Operand} {K : Int → Prop} (hs : sBound ts d o K) : ∃ n, K n ∧ ((o = none ∧ n = d) ∨ ∃ x k, o = some x ∧ aev ts x = .int k n) := by
  cases o with
  | none => exact ⟨d, hs, .inl ⟨rfl, rfl⟩⟩
  | some x =>
    simp only [sBound] at hs
    split at hs
    · rename_i k n hn; exact ⟨n, hs, .inr ⟨x, k, rfl, hn⟩⟩
    · exact hs.elim

theorem pureRun_sliceBound {k : IntKind} {i : Int} {y : Nat} {c : BoundsCode} (h1 : 0 ≤ i) (h2 : i ≤ y) : pureRun P (Instr.sliceBound (.int k i) y c) = some i.toNat := by
  simp only [Instr.sliceBound, pureRun_bind]
  have : pureRun P (asIntOf (.int k i)) = some (k, i) := rfl
  rw [this]
  simp only [Option.bind_some]
  rw [if_pos ⟨h1, h2⟩]; rfl

theorem byteAt_get {s : ByteArray} {n : Int} (h0 : 0 ≤ n) (h1 : n < (s.size : Int)) : ∃ b, s[n.toNat]? = some b ∧ byteAt s n = (b.toNat : Int) := by
  have hlt : n.toNat < s.size := by omega
  refine ⟨s[n.toNat], by simp [hlt], ?_⟩
  unfold byteAt
  have hl : n.toNat < s.data.toList.length := by simpa using hlt
  have : s.data.toList.getD n.toNat 0 = s[n.toNat] := by
    rw [List.getD_eq_getElem?_getD, List.getElem?_eq_getElem hl]
    rfl
  rw [this]

theorem equal_at (t : TypeId) (x y : Value) : Op.equal t x y = Op.equalIn (4 + 9996) t x y := rfl

theorem pureRun_eqBool {t : TypeId} (hu : P.underlying t = some .bool) (a b : Bool) (d : Nat) : pureRun P (Op.equalIn (d + 1) t (.bool a) (.bool b)) = some (a == b) := by
  simp only [Op.equalIn, pureRun_bind, pureRun_underlying hu, Option.bind_some]
  rfl

theorem pureRun_eqGuardBool {op : BinOp} {t : TypeId} {x y : Operand} {a b : Bool} : pureRun P (eqGuard op t x y (.bool a) (.bool b)) = some () := by
  cases op <;> rfl

theorem pureRun_eqGuardStr {op : BinOp} {t : TypeId} {x y : Operand} {a b : ByteArray} : pureRun P (eqGuard op t x y (.string a) (.string b)) = some () := by
  cases op <;> rfl

theorem pureRun_binOp_eql {t : TypeId} {a b : Bool} (hu : P.underlying t = some .bool) : pureRun P (binOp .eql t (.bool a) (.bool b)) = some (.bool (a == b)) := by
  have e : binOp .eql t (.bool a) (.bool b) = (do pure (.bool (← Op.equal t (.bool a) (.bool b)))) := rfl
  rw [e, pureRun_bind, equal_at, pureRun_eqBool hu a b (3 + 9996)]
  rfl

theorem pureRun_binOp_neq {t : TypeId} {a b : Bool} (hu : P.underlying t = some .bool) : pureRun P (binOp .neq t (.bool a) (.bool b)) = some (.bool (!(a == b))) := by
  have e : binOp .neq t (.bool a) (.bool b) = (do pure (.bool !(← Op.equal t (.bool a) (.bool b)))) := rfl
  rw [e, pureRun_bind, equal_at, pureRun_eqBool hu a b (3 + 9996)]
  rfl

theorem pureRun_binOp_eqlA {t : TypeId} {a b : Array Value} {r : Bool} (hr : pureRun P (Op.equalIn (4 + 9996) t (.agg a) (.agg b)) = some r) : pureRun P (binOp .eql t (.agg a) (.agg b)) = some (.bool r) := by
  have e : binOp .eql t (.agg a) (.agg b) = (do pure (.bool (← Op.equal t (.agg a) (.agg b)))) := rfl
  rw [e, pureRun_bind, equal_at, hr]
  rfl

theorem pureRun_binOp_neqA {t : TypeId} {a b : Array Value} {r : Bool} (hr : pureRun P (Op.equalIn (4 + 9996) t (.agg a) (.agg b)) = some r) : pureRun P (binOp .neq t (.agg a) (.agg b)) = some (.bool (!r)) := by
  have e : binOp .neq t (.agg a) (.agg b) = (do pure (.bool !(← Op.equal t (.agg a) (.agg b)))) := rfl
  rw [e, pureRun_bind, equal_at, hr]
  rfl

theorem pureRun_binOp_str {op : BinOp} {t : TypeId} {a b : ByteArray} (ho : op ≠ .shl ∧ op ≠ .shr) : pureRun P (binOp op t (.string a) (.string b)) = pureRun P (Op.stringOp op a b) := by
  cases op <;> first | rfl | (exact absurd rfl ho.1) | (exact absurd rfl ho.2)

section
variable {sh : RSh} {K : Value → Prop} {dst : Option Tmp} {ty : TypeId} {pos : String} {after : Array Edge} {guard : Option (Nat × Bool)}

theorem gk_agg {op : BinOp} {t : TypeId} {x y : Operand} {yt : TypeId} {neg : Bool} {l : List LK} (hop : op = .eql ∧ neg = false ∨ op = .neq ∧ neg = true) (hfl : flatS P 4 t = some l) (hg : P.eqGuardType P.depth t = false) (hag : isAggB P t = true)
    (h1 : sGen (.binOp op t x y yt) (.agg neg l) sh ts K) :
    ∃ v, aexec P ts h (.gen { dst := dst, op := .binOp op t x y yt, type := ty, pos := pos, after := after, guard := guard }) = some (v, h) ∧ K v := by
  simp only [sGen] at h1
  split at h1
  · rename_i a b ha hb
    obtain ⟨hok, hbr⟩ := need_iff.1 h1
    simp only [Bool.and_eq_true] at hok
    obtain ⟨r, hr1, hr2⟩ := equal_flat (P := P) 4 t l 9996 hfl a.toList b.toList hok.1 hok.2
    simp only [packT, hag, cond_true, Array.toArray_toList] at hr1
    have hcl : ∀ z ∈ (Op.binOp op t x y yt).operands, closedV (aev ts z) = true := by
      simp only [Op.operands]
      intro z hz
      simp only [Array.mem_def, List.mem_cons, List.not_mem_nil, or_false] at hz
      rcases hz with rfl | rfl
      · rw [ha]; exact oks_closed hok.1
      · rw [hb]; exact oks_closed hok.2
    refine ⟨.bool (neg != r), gen_val hcl ?_ rfl, ?_⟩
    · have e : execOp (aev ts) { dst := dst, op := .binOp op t x y yt, type := ty, pos := pos, after := after, guard := guard } = (do pure (.value (← (do eqGuard op t x y (aev ts x) (aev ts y); binOp op t (aev ts x) (aev ts y))))) := rfl
      rw [e, ha, hb, pureRun_bind, pureRun_bind, eqGuard_off hg (by rcases hop with ⟨rfl, _⟩ | ⟨rfl, _⟩ <;> simp)]
      rcases hop with ⟨rfl, rfl⟩ | ⟨rfl, rfl⟩
      · simp only [Option.bind_some, pureRun_binOp_eqlA hr1]
        cases r <;> rfl
      · simp only [Option.bind_some, pureRun_binOp_neqA hr1]
        cases r <;> rfl
    · cases r with
      | true => have := hbr.1 (hr2.1 rfl); cases neg <;> exact this
      | false =>
        have hne : ¬ (a.toList = b.toList) := fun e => by have := hr2.2 e; cases this
        have := hbr.2 hne
        cases neg <;> exact this
  · exact h1.elim

theorem gk_unOp (u : UnOp) (t : TypeId) (x : Operand) (hs : sGen (.unOp u t x) (gkOf P { dst := dst, op := .unOp u t x, type := ty, pos := pos, after := after, guard := guard }) sh ts K) :
    ∃ v, aexec P ts h (.gen { dst := dst, op := .unOp u t x, type := ty, pos := pos, after := after, guard := guard }) = some (v, h) ∧ K v := by
  have hgk : ∀ g, gkOf P { dst := dst, op := .unOp u t x, type := ty, pos := pos, after := after, guard := guard } = g → sGen (.unOp u t x) g sh ts K := fun g e => by rw [← e]; exact hs
  unfold gkOf at hgk
  simp only at hgk
  cases u <;> simp only at hgk
  case not =>
    have h1 := hgk _ rfl
    simp only [sGen] at h1
    split at h1
    · rename_i b hb
      exact ⟨_, gen_val (by simp [Op.operands, hb, closedV, isFlat, isScal]) (by simp only [execOp, hb]; rfl) rfl, h1⟩
    · exact h1.elim
  case neg =>
    have h1 := hgk _ rfl
    simp only [sGen] at h1
    split at h1
    · rename_i k n hb
      exact ⟨_, gen_val (by simp [Op.operands, hb, closedV, isFlat, isScal]) (by simp only [execOp, hb]; rfl) rfl, newI_elim h1⟩
    · exact h1.elim
  case xor =>
    have h1 := hgk _ rfl
    simp only [sGen] at h1
    split at h1
    · rename_i k n hb
      exact ⟨_, gen_val (by simp [Op.operands, hb, closedV, isFlat, isScal]) (by simp only [execOp, hb]; rfl) rfl, newI_elim h1⟩
    · exact h1.elim
  case plus => exact (hgk _ rfl).elim

theorem gk_binOp (op : BinOp) (t : TypeId) (x y : Operand) (yt : TypeId) (hs : sGen (.binOp op t x y yt) (gkOf P { dst := dst, op := .binOp op t x y yt, type := ty, pos := pos, after := after, guard := guard }) sh ts K) :
    ∃ v, aexec P ts h (.gen { dst := dst, op := .binOp op t x y yt, type := ty, pos := pos, after := after, guard := guard }) = some (v, h) ∧ K v := by
  have hgk : ∀ g, gkOf P { dst := dst, op := .binOp op t x y yt, type := ty, pos := pos, after := after, guard := guard } = g → sGen (.binOp op t x y yt) g sh ts K := fun g e => by rw [← e]; exact hs
  unfold gkOf at hgk
  simp only at hgk
  split at hgk
  · rename_i hu
    cases op <;> simp only at hgk
    case eql =>
      have h1 := hgk _ rfl
      simp only [sGen] at h1
      split at h1
      · rename_i a b ha hb
        refine ⟨_, gen_val (by simp [Op.operands, ha, hb, closedV, isFlat, isScal]) (v := .bool (a == b)) ?_ rfl, by simpa using h1⟩
        simp only [execOp, ha, hb, pureRun_bind, pureRun_eqGuardBool, pureRun_binOp_eql hu, Option.bind_some]
        rfl
      · exact h1.elim
    case neq =>
      have h1 := hgk _ rfl
      simp only [sGen] at h1
      split at h1
      · rename_i a b ha hb
        refine ⟨_, gen_val (by simp [Op.operands, ha, hb, closedV, isFlat, isScal]) (v := .bool (!(a == b))) ?_ rfl, by simpa using h1⟩
        simp only [execOp, ha, hb, pureRun_bind, pureRun_eqGuardBool, pureRun_binOp_neq hu, Option.bind_some]
        rfl
      · exact h1.elim
    all_goals (have h1 := hgk _ rfl; exact h1.elim)
  · rename_i hu
    have h1 := hgk _ rfl
    simp only [sGen] at h1
    split at h1
    · rename_i a b ha hb
      have hcl : ∀ z ∈ (Op.binOp op t x y yt).operands, closedV (aev ts z) = true := by simp [Op.operands, ha, hb, closedV, isFlat, isScal]
      cases op <;> simp only [sStr] at h1
      case add =>
        refine ⟨_, gen_val hcl (v := .string (a ++ b)) ?_ rfl, h1.2⟩
        have : ¬ (((a.size + b.size : Nat) : Int) > IntKind.i64.max) := by
          have h2 : IntKind.i64.max = 9223372036854775807 := by decide
          rw [h2]; omega
        simp only [execOp, ha, hb, pureRun_bind, pureRun_eqGuardStr, Option.bind_some, pureRun_binOp_str (op := .add) ⟨by decide, by decide⟩, Op.stringOp, pureRun_ite]
        rw [if_neg this]
        rfl
      case eql =>
        refine ⟨_, gen_val hcl (v := .bool (a.toList == b.toList)) ?_ rfl, ?_⟩
        · simp only [execOp, ha, hb, pureRun_bind, pureRun_eqGuardStr, Option.bind_some, pureRun_binOp_str (P := P) (op := .eql) ⟨by decide, by decide⟩, Op.stringOp]
          rfl
        · have := sCmp_elim h1
          rw [← beq_toListBytes]
          by_cases hab : a = b
          · have e : (a == b) = true := (bytes_beq a b).2 hab
            rw [e]; simpa [hab] using this
          · have e : (a == b) = false := by
              cases hc : a == b with
              | false => rfl
              | true => exact absurd ((bytes_beq a b).1 hc) hab
            rw [e]; simpa [hab] using this
      case neq =>
        refine ⟨_, gen_val hcl (v := .bool (!(a.toList == b.toList))) ?_ rfl, ?_⟩
        · simp only [execOp, ha, hb, pureRun_bind, pureRun_eqGuardStr, Option.bind_some, pureRun_binOp_str (P := P) (op := .neq) ⟨by decide, by decide⟩, Op.stringOp]
          rfl
        · have := brP_elim (n := true) (K := K) h1
          rw [← beq_toListBytes]
          by_cases hab : a = b
          · have e : (a == b) = true := (bytes_beq a b).2 hab
            rw [e]; simpa [hab] using this
          · have e : (a == b) = false := by
              cases hc : a == b with
              | false => rfl
              | true => exact absurd ((bytes_beq a b).1 hc) hab
            rw [e]; simpa [hab] using this
      all_goals exact h1.elim
    · exact h1.elim
  · rename_i hu
    have hag : isAggB P t = true := by simp [isAggB, hu]
    split at hgk
    · rename_i l hfl hg
      exact gk_agg (.inl ⟨rfl, rfl⟩) hfl hg hag (hgk _ rfl)
    · rename_i l hfl hg
      exact gk_agg (.inr ⟨rfl, rfl⟩) hfl hg hag (hgk _ rfl)
    · have h1 := hgk _ rfl; exact h1.elim
  · rename_i hu
    have hag : isAggB P t = true := by simp [isAggB, hu]
    split at hgk
    · rename_i l hfl hg
      exact gk_agg (.inl ⟨rfl, rfl⟩) hfl hg hag (hgk _ rfl)
    · rename_i l hfl hg
      exact gk_agg (.inr ⟨rfl, rfl⟩) hfl hg hag (hgk _ rfl)
    · have h1 := hgk _ rfl; exact h1.elim
  · have h1 := hgk _ rfl; exact h1.elim

theorem gk_index (t : TypeId) (x i : Operand) (hs : sGen (.index t x i) (gkOf P { dst := dst, op := .index t x i, type := ty, pos := pos, after := after, guard := guard }) sh ts K) :
    ∃ v, aexec P ts h (.gen { dst := dst, op := .index t x i, type := ty, pos := pos, after := after, guard := guard }) = some (v, h) ∧ K v := by
  have hgk : ∀ g, gkOf P { dst := dst, op := .index t x i, type := ty, pos := pos, after := after, guard := guard } = g → sGen (.index t x i) g sh ts K := fun g e => by rw [← e]; exact hs
  unfold gkOf at hgk
  simp only at hgk
  split at hgk
  · rename_i hu
    have h1 := hgk _ rfl
    simp only [sGen] at h1
    split at h1
    · rename_i s k n hs' hn
      obtain ⟨b, hb1, hb2⟩ := byteAt_get h1.1 h1.2.1
      refine ⟨_, gen_val (by simp [Op.operands, hs', hn, closedV, isFlat, isScal]) (v := .int .u8 (byteAt s n)) ?_ rfl, newI_elim h1.2.2⟩
      have : pureRun P (asIntOf (.int k n)) = some (k, n) := rfl
      simp only [execOp, Instr.index, hs', hn, pureRun_bind, this, Option.bind_some, pureRun_underlying hu, if_pos h1.1, hb1, hb2]
      rfl
    · exact h1.elim
  · rename_i len e hu
    have key : ∀ (size : Nat) (d : TypeDesc) (inf : TypeInfo), P.underlying e = some d → isAggB P e = false → P.info? e = some inf → inf.size = size → sGen (.index t x i) (.idxArr len size) sh ts K →
        ∃ v, aexec P ts h (.gen { dst := dst, op := .index t x i, type := ty, pos := pos, after := after, guard := guard }) = some (v, h) ∧ K v := by
      intro size d inf hd ha hi hsz h1
      simp only [sGen] at h1
      split at h1
      · rename_i cs k n a hcs hn
        obtain ⟨hsc, h0, hlt, v, hv1, hv2⟩ := need_iff.1 h1
        have hmem : a.enc v ∈ cs.toList := List.mem_of_getElem? hv1
        have hsv := List.all_eq_true.1 hsc _ hmem
        have hclv : closedV (a.enc v) = true := by
          have : isFlat (a.enc v) = true := by
            revert hsv
            generalize a.enc v = z
            intro hsv
            cases z <;> simp_all [isScal, isFlat]
          revert this hsv
          generalize a.enc v = z
          intro hsv this
          cases z <;> simp_all [isScal, isFlat, closedV]
        have hcl : ∀ z ∈ (Op.index t x i).operands, closedV (aev ts z) = true := by
          simp only [Op.operands]
          intro z hz
          simp only [Array.mem_def, List.mem_cons, List.not_mem_nil, or_false] at hz
          rcases hz with rfl | rfl
          · rw [hcs]; simpa [closedV, isFlat] using hsc
          · rw [hn]; rfl
        refine ⟨a.enc v, gen_val hcl ?_ hclv, hv2⟩
        have h2 : pureRun P (asIntOf (.int k n)) = some (k, n) := rfl
        have h3 : cs[n.toNat]? = some (a.enc v) := by simpa using hv1
        simp only [execOp, Instr.index, hcs, hn, pureRun_bind, h2, Option.bind_some, pureRun_underlying hu, pureRun_ite]
        rw [if_pos ⟨h0, hlt⟩]
        simp only [pureRun_bind, pureRun_sizeOf hi, Option.bind_some, hsz, Nat.mul_one, part, pureRun_isAgg hd, ha, Bool.false_eq_true, if_false, h3]
        rfl
      · exact h1.elim
    split at hgk
    · rename_i inf k hi he
      exact key _ _ inf he (by simp [isAggB, he]) hi rfl (hgk _ rfl)
    · rename_i inf hi he
      exact key _ _ inf he (by simp [isAggB, he]) hi rfl (hgk _ rfl)
    · rename_i inf hi he
      exact key _ _ inf he (by simp [isAggB, he]) hi rfl (hgk _ rfl)
    · have h1 := hgk _ rfl; exact h1.elim
  · have h1 := hgk _ rfl; exact h1.elim

theorem gk_slice (t : TypeId) (x : Operand) (lo hi mx : Option Operand) (hs : sGen (.slice t x lo hi mx) (gkOf P { dst := dst, op := .slice t x lo hi mx, type := ty, pos := pos, after := after, guard := guard }) sh ts K) :
    ∃ v, aexec P ts h (.gen { dst := dst, op := .slice t x lo hi mx, type := ty, pos := pos, after := after, guard := guard }) = some (v, h) ∧ K v := by
  have hgk : ∀ g, gkOf P { dst := dst, op := .slice t x lo hi mx, type := ty, pos := pos, after := after, guard := guard } = g → sGen (.slice t x lo hi mx) g sh ts K := fun g e => by rw [← e]; exact hs
  unfold gkOf at hgk
  simp only at hgk
  cases mx with
  | some m => have h1 := hgk _ rfl; exact h1.elim
  | none =>
    simp only at hgk
    split at hgk
    · rename_i hu
      have h1 := hgk _ rfl
      simp only [sGen] at h1
      split at h1
      · rename_i s hs'
        obtain ⟨l, hl, hlo⟩ := sBound_elim h1
        obtain ⟨u, ⟨g1, g2, g3, g4⟩, hhi⟩ := sBound_elim hl
        have hsz : pureRun P (Instr.sliceBounds false s.size s.size (lo.map (aev ts)) (hi.map (aev ts)) none) = some (l.toNat, u.toNat, s.size) := by
          rcases hhi with ⟨rfl, rfl⟩ | ⟨x2, k2, rfl, hk2⟩ <;> rcases hlo with ⟨rfl, rfl⟩ | ⟨x1, k1, rfl, hk1⟩
          · simp [-bind_pure_comp, -pure_bind, Instr.sliceBounds, pureRun_bind, pureRun_pure]
          · simp [-bind_pure_comp, -pure_bind, Instr.sliceBounds, pureRun_bind, pureRun_pure, hk1, pureRun_sliceBound g1 g2]
          · simp [-bind_pure_comp, -pure_bind, Instr.sliceBounds, pureRun_bind, pureRun_pure, hk2, pureRun_sliceBound (show 0 ≤ u by omega) g3]
          · have g2' : l ≤ (u.toNat : Int) := by omega
            simp [-bind_pure_comp, -pure_bind, Instr.sliceBounds, pureRun_bind, pureRun_pure, hk1, hk2, pureRun_sliceBound (show 0 ≤ u by omega) g3, pureRun_sliceBound g1 g2']
        refine ⟨_, gen_val ?_ (v := .string (s.extract l.toNat u.toNat)) ?_ rfl, g4⟩
        · simp only [Op.operands]
          intro z hz
          have hcs : ∀ w, (∃ k n, w = Value.int k n) ∨ (∃ s, w = Value.string s) → closedV w = true := by
            rintro w (⟨k, n, rfl⟩ | ⟨s, rfl⟩) <;> rfl
          refine hcs _ ?_
          rcases hlo with ⟨rfl, rfl⟩ | ⟨x1, k1, rfl, hk1⟩ <;> rcases hhi with ⟨rfl, rfl⟩ | ⟨x2, k2, rfl, hk2⟩ <;> simp at hz
          · subst hz; exact .inr ⟨_, hs'⟩
          · rcases hz with rfl | rfl
            · exact .inr ⟨_, hs'⟩
            · exact .inl ⟨_, _, hk2⟩
          · rcases hz with rfl | rfl
            · exact .inr ⟨_, hs'⟩
            · exact .inl ⟨_, _, hk1⟩
          · rcases hz with rfl | rfl | rfl
            · exact .inr ⟨_, hs'⟩
            · exact .inl ⟨_, _, hk1⟩
            · exact .inl ⟨_, _, hk2⟩
        · simp only [execOp, Instr.sliceAt, Instr.slice, hs', pureRun_bind, pureRun_underlying hu, Option.bind_some, Option.map_none, Option.isSome_none, Bool.false_eq_true, if_false, hsz]
          rfl
      · exact h1.elim
    · have h1 := hgk _ rfl; exact h1.elim

theorem gk_convert (s t : TypeId) (x : Operand) (hs : sGen (.convert s t x) (gkOf P { dst := dst, op := .convert s t x, type := ty, pos := pos, after := after, guard := guard }) sh ts K) :
    ∃ v, aexec P ts h (.gen { dst := dst, op := .convert s t x, type := ty, pos := pos, after := after, guard := guard }) = some (v, h) ∧ K v := by
  have hgk : ∀ g, gkOf P { dst := dst, op := .convert s t x, type := ty, pos := pos, after := after, guard := guard } = g → sGen (.convert s t x) g sh ts K := fun g e => by rw [← e]; exact hs
  unfold gkOf at hgk
  simp only at hgk
  split at hgk
  · rename_i k0 k hus hut
    have h1 := hgk _ rfl
    simp only [sGen] at h1
    split at h1
    · rename_i k1 n hn
      refine ⟨_, gen_val (by simp [Op.operands, hn, closedV, isFlat, isScal]) (v := .int k (k.wrap n)) ?_ rfl, newI_elim h1⟩
      simp only [execOp, hn, convert, pureRun_bind, pureRun_underlying hus, pureRun_underlying hut, Option.bind_some]
      rfl
    · exact h1.elim
  · rename_i hus hut
    have h1 := hgk _ rfl
    simp only [sGen] at h1
    split at h1
    · rename_i s' hn
      refine ⟨_, gen_val (by simp [Op.operands, hn, closedV, isFlat, isScal]) (v := .string s') ?_ rfl, h1⟩
      simp only [execOp, hn, convert, pureRun_bind, pureRun_underlying hus, pureRun_underlying hut, Option.bind_some]
      rfl
    · exact h1.elim
  · have h1 := hgk _ rfl; exact h1.elim

theorem gk_call (c : Call) (hs : sGen (.call c) (gkOf P { dst := dst, op := .call c, type := ty, pos := pos, after := after, guard := guard }) sh ts K) :
    ∃ v, aexec P ts h (.gen { dst := dst, op := .call c, type := ty, pos := pos, after := after, guard := guard }) = some (v, h) ∧ K v := by
  have hgk : ∀ g, gkOf P { dst := dst, op := .call c, type := ty, pos := pos, after := after, guard := guard } = g → sGen (.call c) g sh ts K := fun g e => by rw [← e]; exact hs
  unfold gkOf at hgk
  simp only at hgk
  obtain ⟨callee, args, argTypes⟩ := c
  simp only at hgk
  split at hgk
  · rename_i t l hty
    have hty0 : argTypes[0]? = some t := by
      have : argTypes.toList[0]? = some t := by rw [hty]; rfl
      simpa using this
    split at hgk
    · rename_i hu
      have h1 := hgk _ rfl
      simp only [sGen] at h1
      split at h1
      · rename_i x hx
        split at h1
        · rename_i s hs'
          refine ⟨_, gen_val (by
            intro z hz
            simp only [Op.operands, Call.operands, Array.mem_append] at hz
            rcases hz with hz | hz
            · simp at hz
            · have : z ∈ args.toList := by simpa using hz
              rw [hx] at this
              simp at this
              subst this
              rw [hs']; rfl) (v := .int .i64 (s.size : Int)) ?_ rfl, h1⟩
          have ha : (args.map (aev ts))[0]? = some (.string s) := by
            have : (args.map (aev ts)).toList = [.string s] := by simp [hx, hs']
            have h2 := congrArg (fun l => l[0]?) this
            simpa using h2
          simp only [execOp, resolve, invoke, builtin, Builtin.len_, pureRun_bind, pureRun_pure, Option.bind_some, hty0, ha, pureRun_underlying hu]
          rfl
        · exact h1.elim
      · exact h1.elim
    · have h1 := hgk _ rfl; exact h1.elim
  · have h1 := hgk _ rfl
    simp only [sGen] at h1
    split at h1
    · rename_i x r hx
      split at h1
      · rename_i k n hn
        have hall := sMax_closed h1
        obtain ⟨m, hm1, hm2⟩ := sMax_run (P := P) (f := Builtin.max2) (fun k k' x y => rfl) (k := k) h1
        refine ⟨.int k m, gen_val (by
            intro z hz
            simp only [Op.operands, Call.operands, Array.mem_append] at hz
            rcases hz with hz | hz
            · simp at hz
            · have : z ∈ args.toList := by simpa using hz
              rw [hx] at this
              rcases List.mem_cons.1 this with rfl | this
              · rw [hn]; rfl
              · obtain ⟨k', y, hy⟩ := hall z this
                rw [hy]; rfl) ?_ rfl, newI_elim hm2⟩
        have ha : (args.map (aev ts)).toList = .int k n :: r.map (aev ts) := by simp [hx, hn]
        simp only [execOp, resolve, invoke, builtin, Builtin.max_, pureRun_bind, pureRun_pure, Option.bind_some, ha, hm1]
      · exact h1.elim
    · exact h1.elim
  · have h1 := hgk _ rfl
    simp only [sGen] at h1
    split at h1
    · rename_i x r hx
      split at h1
      · rename_i k n hn
        have hall := sMax_closed h1
        obtain ⟨m, hm1, hm2⟩ := sMax_run (P := P) (f := Builtin.min2) (fun k k' x y => rfl) (k := k) h1
        refine ⟨.int k m, gen_val (by
            intro z hz
            simp only [Op.operands, Call.operands, Array.mem_append] at hz
            rcases hz with hz | hz
            · simp at hz
            · have : z ∈ args.toList := by simpa using hz
              rw [hx] at this
              rcases List.mem_cons.1 this with rfl | this
              · rw [hn]; rfl
              · obtain ⟨k', y, hy⟩ := hall z this
                rw [hy]; rfl) ?_ rfl, newI_elim hm2⟩
        have ha : (args.map (aev ts)).toList = .int k n :: r.map (aev ts) := by simp [hx, hn]
        simp only [execOp, resolve, invoke, builtin, Builtin.min_, pureRun_bind, pureRun_pure, Option.bind_some, ha, hm1]
      · exact h1.elim
    · exact h1.elim
  · have h1 := hgk _ rfl; exact h1.elim

end

theorem gkOf_sound {o : Oper} {sh : RSh} {K : Value → Prop} (hs : sGen o.op (gkOf P o) sh ts K) : ∃ v, aexec P ts h (.gen o) = some (v, h) ∧ K v := by
  obtain ⟨dst, op, ty, pos, after, guard⟩ := o
  cases op
  case unOp u t x => exact gk_unOp u t x hs
  case binOp op t x y yt => exact gk_binOp op t x y yt hs
  case index t x i => exact gk_index t x i hs
  case slice t x lo hi mx => exact gk_slice t x lo hi mx hs
  case convert s t x => exact gk_convert s t x hs
  case call c => exact gk_call c hs
  all_goals exact hs.elim

end Go.Ev

namespace Go.Ev
open Go Go.RowKit

variable {P : Program} {ts : List Value} {h : H}

theorem sStore_elim {n : Nat} {p : Addr} {xs : List Value} {K : H → Prop} (hs : sStore n p xs h K) :
    ∃ tight cs e rows, xs.length = n ∧ (xs.all (·.oneCell')) = true ∧ p.spot = none ∧ h.get p.block = some (.cells tight cs e rows) ∧ p.off + n ≤ cs.length ∧
      K (h.set p.block (.cells tight (cs.take p.off ++ xs ++ cs.drop (p.off + n)) e rows)) := by
  obtain ⟨h1, tight, cs, e, rows, h2, h3, h4⟩ := need_iff.1 hs
  simp only [Bool.and_eq_true] at h1
  obtain ⟨⟨hl, ho⟩, hsp⟩ := h1
  have hl' := Nat.eq_of_beq_eq_true hl
  refine ⟨tight, cs, e, rows, hl', ho, isNone_spot hsp, h2, h3, ?_⟩
  have := newH_elim h4
  unfold wr at this
  rwa [hl'] at this

theorem sVal_elim {sh : RSh} {op : AOp} {K : Value → H → Prop} (hs : sVal P sh op ts h K) : ∃ v h', aexec P ts h op = some (v, h') ∧ K v h' := by
  cases op
  case move x => exact ⟨_, _, rfl, hs⟩
  case pick c a b =>
    simp only [sVal] at hs
    simp only [aexec]
    split at hs
    · rename_i t ht
      rw [ht]
      rcases brB_elim hs with ⟨rfl, h⟩ | ⟨rfl, h⟩
      · exact ⟨_, _, rfl, h⟩
      · exact ⟨_, _, rfl, h⟩
    · exact hs.elim
  case alloc e zero => exact ⟨_, _, rfl, newH_elim hs⟩
  case box e size x =>
    simp only [sVal] at hs
    obtain ⟨h1, h2⟩ := need_iff.1 hs
    exact ⟨_, _, by simp only [aexec]; rw [if_pos (Nat.eq_of_beq_eq_true h1)], newH_elim h2⟩
  case build zero ps =>
    simp only [sVal] at hs
    split at hs
    · rename_i l hl
      exact ⟨_, _, by simp only [aexec, hl, Option.map_some], hs⟩
    · exact hs.elim
  case buildSlice e n size zero ps =>
    simp only [sVal] at hs
    split at hs
    · rename_i l hl
      exact ⟨_, _, by simp only [aexec, hl, Option.map_some], newH_elim hs⟩
    · exact hs.elim
  case load agg n a =>
    simp only [sVal] at hs
    split at hs
    · rename_i p hp
      obtain ⟨cs, v, h1, h2, h3⟩ := sLoad_elim hs
      refine ⟨v, h, ?_, h3⟩
      simp only [aexec, hp, h1]
      cases agg with
      | true => simp only [if_true, Option.some.injEq] at h2 ⊢; rw [h2]
      | false => simp only [Bool.false_eq_true, if_false] at h2 ⊢; rw [h2]; rfl
    · exact hs.elim
  case store n a x =>
    simp only [sVal] at hs
    split at hs
    · rename_i p hp
      obtain ⟨tight, cs, e, rows, h1, h2, h3, h4, h5, h6⟩ := sStore_elim hs
      refine ⟨_, _, ?_, h6⟩
      simp only [aexec, hp, h3, h4]
      have hc : (decide ((cellsL (aev ts x)).length = n) && Nat.ble (p.off + n) cs.length && (cellsL (aev ts x)).all (·.oneCell')) = true := by
        simp only [Bool.and_eq_true, decide_eq_true_eq, Nat.ble_eq]
        exact ⟨⟨h1, h5⟩, h2⟩
      rw [if_pos hc]
    · exact hs.elim
  case nilCheck x =>
    simp only [sVal] at hs
    simp only [aexec]
    split at hs
    · rename_i a ha
      obtain ⟨b, o, rfl, h1⟩ := hs
      rw [ha]
      exact ⟨_, _, rfl, h1⟩
    · rename_i p _ hp
      rw [hp]; exact ⟨_, _, rfl, hs⟩
    · rename_i f a b hp
      rw [hp]; exact ⟨_, _, rfl, hs⟩
    · rename_i f a b hp
      rw [hp]; exact ⟨_, _, rfl, hs⟩
    · exact hs.elim
  case ibin op x y =>
    simp only [sVal] at hs
    simp only [aexec]
    split at hs
    · rename_i k a k' b ha hb
      obtain ⟨h1, v, h2, h3⟩ := sIbin_elim hs
      rw [ha, hb]
      simp only
      have hc : (decide (k = k') || decide (op = BinOp.shl) || decide (op = BinOp.shr)) = true := by
        rcases h1 with h1 | h1 | h1 <;> simp [h1]
      simp only [Bool.or_eq_true, decide_eq_true_eq] at hc ⊢
      first | rw [if_pos hc, h2] | rw [if_pos h1, h2] | (rw [if_pos (by rcases h1 with h1 | h1 | h1 <;> simp [h1]), h2])
      exact ⟨_, _, rfl, h3⟩
    · exact hs.elim
  case gen o =>
    obtain ⟨v, h1, h2⟩ := gkOf_sound (P := P) (h := h) (K := fun v => K v h) hs
    exact ⟨v, h, h1, h2⟩
  case fieldAddr off x =>
    simp only [sVal] at hs
    simp only [aexec]
    split at hs
    · rename_i p hp
      obtain ⟨h1, h2⟩ := need_iff.1 hs
      rw [hp]
      simp only
      rw [if_pos (isNone_spot h1)]
      exact ⟨_, _, rfl, h2⟩
    · exact hs.elim
  case field agg n off x =>
    simp only [sVal] at hs
    simp only [aexec]
    split at hs
    · rename_i cs hcs
      obtain ⟨h1, h2⟩ := need_iff.1 hs
      rw [hcs]
      simp only
      rw [if_pos (by simpa [Nat.ble_eq] using h1)]
      cases agg with
      | true => exact ⟨_, _, rfl, h2⟩
      | false =>
        simp only at h2
        split at h2
        · rename_i v hv
          refine ⟨v, h, ?_, h2⟩
          simp only [Bool.false_eq_true, if_false, hv, one, Option.map_some]
        · exact h2.elim
    · exact hs.elim
  case idxSl size x i =>
    simp only [sVal] at hs
    simp only [aexec]
    split at hs
    · rename_i a len c k n ha hn
      obtain ⟨b, o, rfl, h1, h2, h3⟩ := hs
      rw [ha, hn]
      simp only
      rw [if_pos ⟨h1, h2, trivial⟩]
      exact ⟨_, _, rfl, h3⟩
    · exact hs.elim
  case idxArr len size x i =>
    simp only [sVal] at hs
    simp only [aexec]
    split at hs
    · rename_i a k n ha hn
      obtain ⟨h0, h1, h2, h3⟩ := need_iff.1 hs
      rw [ha, hn]
      simp only
      rw [if_pos ⟨h1, h2, isNone_spot h0⟩]
      exact ⟨_, _, rfl, h3⟩
    · exact hs.elim
  case sliceSl size x lo hi =>
    simp only [sVal] at hs
    obtain ⟨v, h', h1, h2⟩ := sSome_elim hs
    rw [slSlV_eq] at h1
    exact ⟨v, h', h1, h2⟩
  case mkFunc f a b => exact ⟨_, _, rfl, hs⟩
  case mkIface t x => exact ⟨_, _, rfl, hs⟩
  case extract x i =>
    simp only [sVal] at hs
    simp only [aexec]
    split at hs
    · rename_i vs hvs
      split at hs
      · rename_i v hv
        rw [hvs]
        simp only [hv, Option.map_some]
        exact ⟨_, _, rfl, hs⟩
      · exact hs.elim
    · exact hs.elim
  case lenSl x =>
    simp only [sVal] at hs
    simp only [aexec]
    split at hs
    · rename_i hv; rw [hv]; exact ⟨_, _, rfl, hs⟩
    · exact hs.elim
  case eqNil kind neg x y =>
    simp only [sVal] at hs
    simp only [aexec]
    split at hs
    · rename_i a hx hy
      rw [hx, hy]
      cases a with
      | none => exact ⟨_, _, rfl, hs⟩
      | some a => exact ⟨_, _, rfl, hs⟩
    · rename_i b _ hx hy
      rw [hx, hy]
      exact ⟨_, _, rfl, hs⟩
    · rename_i a _ _ _ _ hx hy
      rw [hx, hy]
      cases a with
      | none => exact ⟨_, _, rfl, hs⟩
      | some a => exact ⟨_, _, rfl, hs⟩
    · rename_i hx hy
      rw [hx, hy]
      exact ⟨_, _, rfl, hs⟩
    · rename_i hx hy
      rw [hx, hy]
      refine ⟨_, _, rfl, ?_⟩
      simpa using hs
    · exact hs.elim
  all_goals
    simp only [sVal] at hs
    obtain ⟨v, h', h1, h2⟩ := sSome_elim hs
    exact ⟨v, h', h1, h2⟩

/-! ### Regions -/
section
variable {W : Rec} {Γ : Hints}

theorem sCall_elim {f : Value} {args : List Value} {sh : RSh} {K Kp : Value → H → Prop} (hs : sCall W Γ f args sh h K Kp) :
    (∃ v rc h', W.call f args .unk h = some (.ret v, rc, h') ∧ K v h') ∨ (∃ v rc h', W.call f args .unk h = some (.panic v, rc, h') ∧ Kp v h') := by
  unfold sCall at hs
  split at hs
  · obtain ⟨v, h', ⟨rc, h1⟩, h2⟩ := exR_elim hs
    exact .inl ⟨v, rc, h', h1, h2⟩
  · rcases hs with hs | ⟨v, h', ⟨rc, h1⟩, h2⟩
    · obtain ⟨v, h', ⟨rc, h1⟩, h2⟩ := exR_elim hs
      exact .inl ⟨v, rc, h', h1, h2⟩
    · exact .inr ⟨v, rc, h', h1, h2⟩

def mkA (ts : List Value) (df : List ADef) (rc : RC) (rd : Bool) : AAct := { tmps := ts, defers := df, rc := rc, round := rd }

theorem sOp_elim {rd : Bool} {o : AO} {df : List ADef} {rc : RC} {K : List Value → List ADef → H → Prop} {Kp : Value → H → Prop} (hw : wantedA o.guard ts = true) (hs : sOp P W Γ rd o ts df h K Kp) :
    (∃ ts' df' h', evOp P W o (mkA ts df rc rd) h = some (.on (mkA ts' df' rc rd) h') ∧ K ts' df' h') ∨ (∃ v h', evOp P W o (mkA ts df rc rd) h = some (.panic v (mkA ts df rc rd) h') ∧ Kp v h') := by
  have hw' : wantedA o.guard (mkA ts df rc rd).tmps = true := hw
  unfold evOp
  rw [if_pos hw']
  unfold sOp at hs
  have other : ∀ (hx : ∃ v h', aexec P ts h o.op = some (v, h') ∧ K (putL o.dst v ts) df h'),
      ∃ ts' df' h', (match aexec P (mkA ts df rc rd).tmps h o.op with
        | some (v, h') => some (Step.on ((mkA ts df rc rd).put o.dst v) h')
        | none => none) = some (.on (mkA ts' df' rc rd) h') ∧ K ts' df' h' := by
    rintro ⟨v, h', h1, h2⟩
    refine ⟨putL o.dst v ts, df, h', ?_, h2⟩
    show (match aexec P ts h o.op with
        | some (v, h') => some (Step.on ((mkA ts df rc rd).put o.dst v) h')
        | none => none) = _
    rw [h1]; rfl
  cases hop : o.op <;> rw [hop] at hs other <;> simp only at hs ⊢
  case call f args =>
    rcases sCall_elim hs with ⟨v, rc', h', h1, h2⟩ | ⟨v, rc', h', h1, h2⟩
    · left
      refine ⟨putL o.dst v ts, df, h', ?_, sPut_elim (K := fun ts' => K ts' df h') h2⟩
      simp only [mkA] at h1 ⊢; rw [h1]; rfl
    · right
      refine ⟨v, h', ?_, h2⟩
      simp only [mkA] at h1 ⊢; rw [h1]
  case callP f args =>
    rcases sCall_elim hs with ⟨v, rc', h', h1, h2⟩ | ⟨v, rc', h', h1, h2⟩
    · left
      refine ⟨putL o.dst v ts, df, h', ?_, sPut_elim (K := fun ts' => K ts' df h') h2⟩
      simp only [mkA] at h1 ⊢; rw [h1]; rfl
    · right
      refine ⟨v, h', ?_, h2⟩
      simp only [mkA] at h1 ⊢; rw [h1]
  case defer f args =>
    left
    split at hs
    · rename_i g x y hf
      refine ⟨_, _, h, ?_, hs⟩
      simp only [mkA, hf]; rfl
    · exact hs.elim
  case panic x =>
    right
    split at hs
    · rename_i t v hv
      refine ⟨_, h, ?_, hs⟩
      simp only [mkA, hv]
    · exact hs.elim
  all_goals
    left
    obtain ⟨v, h', h1, h2⟩ := sVal_elim hs
    exact other ⟨v, h', h1, sPut_elim (K := fun ts' => K ts' df h') h2⟩

theorem sOps_elim {rd : Bool} {rc : RC} : ∀ {l : List AO} {ts : List Value} {df : List ADef} {h : H} {Q : AExit → List Value → List ADef → H → Prop}, sOps P W Γ rd l ts df h Q →
    ∃ x ts' df' h', evOps P W l (mkA ts df rc rd) h = some (x, mkA ts' df' rc rd, h') ∧ Q x ts' df' h'
  | [], ts, df, h, Q, hs => ⟨.normal, ts, df, h, rfl, hs⟩
  | o :: r, ts, df, h, Q, hs => by
    simp only [sOps] at hs
    simp only [evOps]
    rcases sGuard_elim hs with ⟨hw, hs⟩ | ⟨hw, hs⟩
    · rcases sOp_elim (rc := rc) hw hs with ⟨ts', df', h', h1, h2⟩ | ⟨v, h', h1, h2⟩
      · rw [h1]; exact sOps_elim h2
      · rw [h1]; exact ⟨_, _, _, _, rfl, h2⟩
    · have h1 : evOp P W o (mkA ts df rc rd) h = some (.on (mkA (putL o.dst undef ts) df rc rd) h) := by
        unfold evOp
        rw [if_neg (by show ¬ wantedA o.guard ts = true; rw [hw]; simp)]
        rfl
      rw [h1]; exact sOps_elim hs

theorem sTr_elim : ∀ {l : List AO} {G : List (List Value × H)} {ts : List Value} {h : H} {K : List (List Value × H) → List Value → H → Prop}, sTr P W Γ l G ts h K →
    ∃ G' ts' h', trace P W l ts h = some G' ∧ K (G'.reverse ++ G) ts' h' ∧ G'[l.length]? = some (ts', h') ∧ G'.length = l.length + 1
  | [], G, ts, h, K, hs => ⟨[(ts, h)], ts, h, rfl, hs, rfl, rfl⟩
  | o :: r, G, ts, h, K, hs => by
    simp only [sTr] at hs
    simp only [trace]
    have go : ∀ v h', opV P W o ts h = some (v, h') → sTr P W Γ r ((ts, h) :: G) (putL o.dst v ts) h' K → ∃ G' ts' h'', (match opV P W o ts h with
          | some (v, h') => (trace P W r (putL o.dst v ts) h').map ((ts, h) :: ·)
          | none => none) = some G' ∧ K (G'.reverse ++ G) ts' h'' ∧ G'[(o :: r).length]? = some (ts', h'') ∧ G'.length = (o :: r).length + 1 := by
      intro v h' hv hr
      obtain ⟨G', ts', h'', h1, h2, h3, h4⟩ := sTr_elim hr
      refine ⟨(ts, h) :: G', ts', h'', ?_, by simpa using h2, by simpa using h3, by simp [h4]⟩
      rw [hv]; simp [h1]
    rcases sGuard_elim hs with ⟨hw, hs⟩ | ⟨hw, hs⟩
    · have other : ∀ {v h'}, aexec P ts h o.op = some (v, h') → (∀ f a, o.op ≠ .call f a) → (∀ f a, o.op ≠ .callP f a) → opV P W o ts h = some (v, h') := by
        intro v h' hx hc hp
        unfold opV
        rw [if_pos hw]
        cases hop : o.op <;> rw [hop] at hx hc hp <;> simp only at hx ⊢ <;> first | exact hx | exact absurd rfl (hc _ _) | exact absurd rfl (hp _ _)
      cases hop : o.op <;> rw [hop] at hs other <;> simp only at hs
      case call f args =>
        obtain ⟨v, h', ⟨rc, h1⟩, h2⟩ := exR_elim hs
        exact go v h' (by unfold opV; rw [if_pos hw, hop]; simp only; rw [h1]) (sPut_elim (K := fun ts' => sTr P W Γ r ((ts, h) :: G) ts' h' K) h2)
      case callP f args =>
        obtain ⟨v, h', ⟨rc, h1⟩, h2⟩ := exR_elim hs
        exact go v h' (by unfold opV; rw [if_pos hw, hop]; simp only; rw [h1]) (sPut_elim (K := fun ts' => sTr P W Γ r ((ts, h) :: G) ts' h' K) h2)
      all_goals
        obtain ⟨v, h', h1, h2⟩ := sVal_elim hs
        exact go v h' (other h1 (fun _ _ e => by cases e) (fun _ _ e => by cases e)) (sPut_elim (K := fun ts' => sTr P W Γ r ((ts, h) :: G) ts' h' K) h2)
    · exact go undef h (by unfold opV; rw [if_neg (by rw [hw]; simp)]) hs

theorem sChk_elim {ops : List AO} {G : List (List Value × H)} : ∀ {cs : List (Nat × Nat)} {K : Prop}, sChk ops G cs K → (cs.all (checkG ops G)) = true ∧ K
  | [], K, h => ⟨rfl, h⟩
  | c :: cs, K, hs => by
    obtain ⟨h1, h2⟩ := hs
    obtain ⟨h3, h4⟩ := sChk_elim h2
    refine ⟨?_, h4⟩
    simp only [List.all_cons, h3, Bool.and_true]
    split at h1
    · rename_i o ts h h' _ e1 e2 e3
      simp only [checkG, e1, e2, e3]
      rcases sGuard_elim h1 with ⟨hw, h1⟩ | ⟨hw, h1⟩
      · rw [if_pos hw]
        cases hop : o.op <;> rw [hop] at h1 <;> simp only at h1 ⊢ <;> try exact h1.elim
        split at h1
        · rename_i p hp; rw [hp]; exact h1
        · exact h1.elim
      · rw [if_neg (by rw [hw]; simp)]
    · exact h1.elim

theorem sPlug_elim {p : Nat → Bool} {base : Nat} : ∀ {F : List (Nat × Blk)} {h : H} {K : H → Prop}, sPlug p base F h K → K (plugs p base F h)
  | [], _, _, hs => hs
  | (j, b) :: F, h, K, hs => by
    simp only [sPlug] at hs
    simp only [plugs]
    split at hs
    · rename_i hp; rw [hp]; exact sPlug_elim (newH_elim hs)
    · rename_i hp; rw [hp]; exact sPlug_elim hs

theorem sFill_elim {n : Nat} {op : AOp} {ts : List Value} {K : Value → Option Blk → Prop} (hs : sFill n op ts K) : ∃ v ob, fillV n ts op = some (v, ob) ∧ K v ob := by
  unfold sFill at hs
  split at hs
  · exact ⟨_, _, rfl, hs⟩
  · obtain ⟨h1, h2⟩ := need_iff.1 hs
    exact ⟨_, _, by simp only [fillV]; rw [if_pos (Nat.eq_of_beq_eq_true h1)], h2⟩
  · split at hs
    · rename_i l hl
      exact ⟨_, _, by simp only [fillV, hl, Option.map_some], hs⟩
    · exact hs.elim
  · split at hs
    · rename_i h1 h2
      obtain ⟨g1, g2, g3, g4, g5⟩ := hs
      exact ⟨_, _, by simp only [fillV, h1, h2]; rw [if_pos ⟨g1, g2, g3, g4⟩], g5⟩
    · exact hs.elim
  · exact hs.elim

theorem sTrL_elim {b : List Nat} {base : Nat} : ∀ {l : List AO} {i : Nat} {G : List LS} {s : LS} {K : List LS → LS → Prop}, sTrL P W Γ b base l i G s K →
    ∃ G' s', traceL P W b base l i s = some G' ∧ K (G'.reverse ++ G) s' ∧ G'[l.length]? = some s' ∧ G'.length = l.length + 1 ∧ G'[0]? = some s
  | [], i, G, s, K, hs => ⟨[s], s, rfl, hs, rfl, rfl, rfl⟩
  | o :: r, i, G, s, K, hs => by
    simp only [sTrL] at hs
    simp only [traceL]
    have go : ∀ s1, stepL P W b base i o s = some s1 → sTrL P W Γ b base r (i + 1) (s :: G) s1 K → ∃ G' s', (match stepL P W b base i o s with
        | some s' => (traceL P W b base r (i + 1) s').map (s :: ·)
        | none => none) = some G' ∧ K (G'.reverse ++ G) s' ∧ G'[(o :: r).length]? = some s' ∧ G'.length = (o :: r).length + 1 ∧ G'[0]? = some s := by
      intro s1 hv hr
      obtain ⟨G', s', h1, h2, h3, h4, h5⟩ := sTrL_elim hr
      refine ⟨s :: G', s', ?_, by simpa using h2, by simpa using h3, by simp [h4], rfl⟩
      rw [hv]; simp [h1]
    rcases sGuard_elim hs with ⟨hw, hs⟩ | ⟨hw, hs⟩
    · cases hf : isFill o.op with
      | true =>
        rw [hf] at hs
        obtain ⟨v, ob, h1, h2⟩ := sFill_elim hs
        exact go _ (by unfold stepL; rw [if_pos hw, hf]; simp only [cond_true, h1, Option.map_some]) (sPut_elim (K := fun ts' => sTrL P W Γ b base r (i + 1) (s :: G) { ts := ts', h := s.h, F := s.F ++ (ob.toList.map fun b => (i, b)) } K) h2)
      | false =>
        rw [hf] at hs
        have fin : ∀ v h', opV P W o s.ts (plugs (fun j => bitOf b j i) base s.F s.h) = some (v, h') → sTrL P W Γ b base r (i + 1) (s :: G) { ts := putL o.dst v s.ts, h := bif loud o.op then h' else s.h, F := s.F } K → ∃ G' s', (match stepL P W b base i o s with
        | some s' => (traceL P W b base r (i + 1) s').map (s :: ·)
        | none => none) = some G' ∧ K (G'.reverse ++ G) s' ∧ G'[(o :: r).length]? = some s' ∧ G'.length = (o :: r).length + 1 ∧ G'[0]? = some s :=
          fun v h' h1 h2 => go _ (by unfold stepL; rw [if_pos hw, hf]; simp only [cond_false, h1, Option.map_some]) h2
        have other : ∀ {v h1 h'}, aexec P s.ts h1 o.op = some (v, h') → (∀ f a, o.op ≠ .call f a) → (∀ f a, o.op ≠ .callP f a) → opV P W o s.ts h1 = some (v, h') := by
          intro v h1 h' hx hc hp
          unfold opV
          rw [if_pos hw]
          cases hop : o.op <;> rw [hop] at hx hc hp <;> simp only at hx ⊢ <;> first | exact hx | exact absurd rfl (hc _ _) | exact absurd rfl (hp _ _)
        have rest : ∀ op, o.op = op → (∀ f a, op ≠ .call f a) → (∀ f a, op ≠ .callP f a) → (match loud op || needsHeap op with
          | true => sPlug (fun j => bitOf b j i) base s.F s.h fun h1 => sVal P (shOf Γ o.dst) op s.ts h1 fun v h' => sPut (shOf Γ o.dst) o.dst v s.ts fun ts' =>
              sTrL P W Γ b base r (i + 1) (s :: G) { ts := ts', h := bif loud op then h' else s.h, F := s.F } K
          | false => sVal P (shOf Γ o.dst) op s.ts s.h fun v _ => sPut (shOf Γ o.dst) o.dst v s.ts fun ts' => sTrL P W Γ b base r (i + 1) (s :: G) { ts := ts', h := s.h, F := s.F } K) → ∃ G' s', (match stepL P W b base i o s with
        | some s' => (traceL P W b base r (i + 1) s').map (s :: ·)
        | none => none) = some G' ∧ K (G'.reverse ++ G) s' ∧ G'[(o :: r).length]? = some s' ∧ G'.length = (o :: r).length + 1 ∧ G'[0]? = some s := by
          intro op hop hc hp hs
          subst hop
          cases hl : (loud o.op || needsHeap o.op) with
          | true =>
            rw [hl] at hs
            obtain ⟨v, h', h1, h2⟩ := sVal_elim (sPlug_elim (K := fun h1 => sVal P (shOf Γ o.dst) o.op s.ts h1 fun v h' => sPut (shOf Γ o.dst) o.dst v s.ts fun ts' =>
              sTrL P W Γ b base r (i + 1) (s :: G) { ts := ts', h := bif loud o.op then h' else s.h, F := s.F } K) hs)
            exact fin v h' (other h1 hc hp) (sPut_elim (K := fun ts' => sTrL P W Γ b base r (i + 1) (s :: G) { ts := ts', h := bif loud o.op then h' else s.h, F := s.F } K) h2)
          | false =>
            rw [hl] at hs
            simp only [Bool.or_eq_false_iff] at hl
            obtain ⟨v, h', h1, h2⟩ := sVal_elim hs
            refine fin v (plugs (fun j => bitOf b j i) base s.F s.h) (other (aexec_any hl.1 hl.2 h1 _) hc hp) ?_
            rw [hl.1]
            exact sPut_elim (K := fun ts' => sTrL P W Γ b base r (i + 1) (s :: G) { ts := ts', h := s.h, F := s.F } K) h2
        cases hop : o.op
        case call f args =>
          rw [hop] at hs
          obtain ⟨v, h', ⟨rc, h1⟩, h2⟩ := exR_elim (sPlug_elim (K := fun h1 => exR (shOf Γ o.dst) fun v => ∃ h', Ret W (aev s.ts f) (args.map (aev s.ts)) h1 v h' ∧
            sPut (shOf Γ o.dst) o.dst v s.ts fun ts' => sTrL P W Γ b base r (i + 1) (s :: G) { ts := ts', h := h', F := s.F } K) hs)
          refine fin v h' (by unfold opV; rw [if_pos hw, hop]; simp only; rw [h1]) ?_
          rw [hop]
          exact sPut_elim (K := fun ts' => sTrL P W Γ b base r (i + 1) (s :: G) { ts := ts', h := h', F := s.F } K) h2
        case callP f args =>
          rw [hop] at hs
          obtain ⟨v, h', ⟨rc, h1⟩, h2⟩ := exR_elim (sPlug_elim (K := fun h1 => exR (shOf Γ o.dst) fun v => ∃ h', Ret W (aev s.ts f) (args.map (aev s.ts)) h1 v h' ∧
            sPut (shOf Γ o.dst) o.dst v s.ts fun ts' => sTrL P W Γ b base r (i + 1) (s :: G) { ts := ts', h := s.h, F := s.F } K) hs)
          refine fin v h' (by unfold opV; rw [if_pos hw, hop]; simp only; rw [h1]) ?_
          rw [hop]
          exact sPut_elim (K := fun ts' => sTrL P W Γ b base r (i + 1) (s :: G) { ts := ts', h := s.h, F := s.F } K) h2
        case defer f args => rw [hop] at hs; exact hs.elim
        case recover => rw [hop] at hs; exact hs.elim
        case panic x => rw [hop] at hs; exact hs.elim
        all_goals (rw [hop] at hs; exact rest _ hop (fun _ _ e => by cases e) (fun _ _ e => by cases e) hs)
    · exact go _ (by unfold stepL; rw [if_neg (by rw [hw]; simp)]) hs

theorem sChkL_elim {b : List Nat} {base : Nat} {ops : List AO} {F : List (Nat × Blk)} {G : List LS} : ∀ {cs : List (Nat × Nat)} {K : Prop}, sChkL b base ops F G cs K → (cs.all (checkL b base ops F G)) = true ∧ K
  | [], K, h => ⟨rfl, h⟩
  | c :: cs, K, hs => by
    obtain ⟨h1, h2⟩ := hs
    obtain ⟨h3, h4⟩ := sChkL_elim h2
    refine ⟨?_, h4⟩
    simp only [List.all_cons, h3, Bool.and_true]
    split at h1
    · rename_i o s s' e1 e2 e3
      simp only [checkL, e1, e2, e3]
      rcases sGuard_elim h1 with ⟨hw, h1⟩ | ⟨hw, h1⟩
      · rw [if_pos hw]
        cases hop : o.op <;> rw [hop] at h1 <;> simp only at h1 ⊢ <;> try exact h1.elim
        split at h1
        · rename_i p hp; rw [hp]; exact h1
        · exact h1.elim
      · rw [if_neg (by rw [hw]; simp)]
    · exact h1.elim
end

end Go.Ev

namespace Go.Ev
open Go Go.RowKit

variable {P : Program}

/-! ### Which slots code sets -/
def FrD (D : List Tmp) (a b : List Value) : Prop := b.length = a.length ∧ ∀ t, memN D t = false → b.getD t undef = a.getD t undef

theorem FrD.refl (D : List Tmp) (a : List Value) : FrD D a a := ⟨rfl, fun _ _ => rfl⟩
theorem FrD.trans {D : List Tmp} {a b c : List Value} (h : FrD D a b) (k : FrD D b c) : FrD D a c := ⟨k.1.trans h.1, fun t ht => (k.2 t ht).trans (h.2 t ht)⟩

theorem memN_iff {D : List Nat} {n : Nat} : memN D n = true ↔ n ∈ D := by
  induction D with
  | nil => simp [memN]
  | cons x r ih =>
    simp only [memN, List.mem_cons]
    cases hb : Nat.beq x n with
    | true => simp [Nat.eq_of_beq_eq_true hb]
    | false =>
      simp only [cond_false, ih]
      have : n ≠ x := fun e => by subst e; simp [Nat.beq_refl] at hb
      simp [this]

theorem FrD.mono {D D' : List Tmp} {a b : List Value} (h : FrD D a b) (hs : ∀ t ∈ D, t ∈ D') : FrD D' a b :=
  ⟨h.1, fun t ht => h.2 t (by
    cases hm : memN D t with
    | false => rfl
    | true => have := memN_iff.2 (hs t (memN_iff.1 hm)); rw [ht] at this; cases this)⟩

theorem putL_fr {d : Option Tmp} {v : Value} {ts : List Value} {D : List Tmp} (h : ∀ t, d = some t → t ∈ D) : FrD D ts (putL d v ts) := by
  cases d with
  | none => exact .refl _ _
  | some t =>
    refine ⟨by simp [putL], fun u hu => ?_⟩
    have hne : t ≠ u := by
      rintro rfl
      have := memN_iff.2 (h t rfl)
      rw [hu] at this; cases this
    simp [putL, List.getD_eq_getElem?_getD, List.getElem?_set_ne hne]

section
variable {W : Rec}

theorem evOp_fr {o : AO} {a : AAct} {h : H} {st : Step} (he : evOp P W o a h = some st) : match st with
    | .on a' _ => FrD (dstsO [o]) a.tmps a'.tmps
    | .panic _ a' _ => a' = a := by
  have hput : ∀ (v : Value), FrD (dstsO [o]) a.tmps (putL o.dst v a.tmps) := fun v => putL_fr fun t ht => by simp [dstsO, ht]
  unfold evOp at he
  split at he
  · cases hop : o.op <;> rw [hop] at he <;> simp only at he <;> (repeat' split at he) <;> first
      | (cases he; done)
      | (cases he; exact hput _)
      | (cases he; rfl)
  · cases he; exact hput _

theorem evOps_fr : ∀ {l : List AO} {a : AAct} {h : H} {x : AExit} {a' : AAct} {h' : H}, evOps P W l a h = some (x, a', h') → FrD (dstsO l) a.tmps a'.tmps
  | [], _, _, _, _, _, he => by cases he; exact .refl _ _
  | o :: l, a, h, x, a', h', he => by
    have s1 : ∀ t ∈ dstsO [o], t ∈ dstsO (o :: l) := fun t ht => by
      simp only [dstsO] at ht ⊢
      split at ht
      · simp at ht; subst ht; exact List.mem_cons_self ..
      · cases ht
    have s2 : ∀ t ∈ dstsO l, t ∈ dstsO (o :: l) := fun t ht => by
      simp only [dstsO]
      split
      · exact List.mem_cons_of_mem _ ht
      · exact ht
    simp only [evOps] at he
    split at he
    · rename_i h1
      exact ((evOp_fr h1).mono s1).trans ((evOps_fr he).mono s2)
    · rename_i h1
      cases he
      have := evOp_fr h1
      simp only at this
      subst this
      exact .refl _ _
    · cases he

theorem trace_fr : ∀ {l : List AO} {ts : List Value} {h : H} {G : List (List Value × H)}, trace P W l ts h = some G → ∀ (m : Nat) (us : List Value) (h' : H), G[m]? = some (us, h') → FrD (dstsO l) ts us
  | [], ts, h, G, he, m, us, h', hm => by
    simp only [trace, Option.some.injEq] at he
    subst he
    cases m with
    | zero => simp at hm; rw [← hm.1]; exact .refl _ _
    | succ m => simp at hm
  | o :: l, ts, h, G, he, m, us, h', hm => by
    simp only [trace] at he
    split at he
    · rename_i v h1 hv
      obtain ⟨G', hG', rfl⟩ := map_some_iff he
      cases m with
      | zero => simp at hm; rw [← hm.1]; exact .refl _ _
      | succ m =>
        have := trace_fr hG' m us h' (by simpa using hm)
        refine FrD.trans (putL_fr (v := v) (d := o.dst) fun t ht => ?_) (this.mono fun t ht => ?_)
        · simp only [dstsO, ht]; exact List.mem_cons_self ..
        · simp only [dstsO]
          split
          · exact List.mem_cons_of_mem _ ht
          · exact ht
    · cases he
end

theorem traceL_fr {W : Rec} {b : List Nat} {base : Nat} : ∀ {l : List AO} {i : Nat} {s : LS} {G : List LS}, traceL P W b base l i s = some G → ∀ (m : Nat) (u : LS), G[m]? = some u → FrD (dstsO l) s.ts u.ts
  | [], i, s, G, he, m, u, hm => by
    simp only [traceL, Option.some.injEq] at he
    subst he
    cases m with
    | zero => simp at hm; rw [← hm]; exact .refl _ _
    | succ m => simp at hm
  | o :: l, i, s, G, he, m, u, hm => by
    simp only [traceL] at he
    split at he
    · rename_i s' hs
      obtain ⟨G', hG', rfl⟩ := map_some_iff he
      cases m with
      | zero => simp at hm; rw [← hm]; exact .refl _ _
      | succ m =>
        have := traceL_fr hG' m u (by simpa using hm)
        have hput : ∃ v, s'.ts = putL o.dst v s.ts := by
          unfold stepL at hs
          split at hs
          · cases hf : isFill o.op with
            | true => rw [hf] at hs; obtain ⟨x, _, rfl⟩ := map_some_iff hs; exact ⟨_, rfl⟩
            | false => rw [hf] at hs; obtain ⟨x, _, rfl⟩ := map_some_iff hs; exact ⟨_, rfl⟩
          · cases hs; exact ⟨_, rfl⟩
        obtain ⟨v, hv⟩ := hput
        rw [hv] at this
        refine FrD.trans (putL_fr (v := v) (d := o.dst) fun t ht => ?_) (this.mono fun t ht => ?_)
        · simp only [dstsO, ht]; exact List.mem_cons_self ..
        · simp only [dstsO]
          split
          · exact List.mem_cons_of_mem _ ht
          · exact ht
    · cases he

/-- A call without a bound on the depth knows its code. -/
structure WOK (P : Program) (T : Nat → Option AFn) (nk : Nat → Bool) (W : Rec) : Prop where
  loop : ∀ c a h x, evC P W (.loop c) a h = some x → W.loop c a h = some x
  call : ∀ g a b args h x, nk g = true → callA P W T (.func (.func g) a b) args .unk h = some x → W.call (.func (.func g) a b) args .unk h = some x
  yield : ∀ l a b args h x, callA P W T (.func (.yield l) a b) args .unk h = some x → W.call (.func (.yield l) a b) args .unk h = some x

/-! ### The head of a loop -/
section
variable {D : List Tmp} {car : List (Tmp × Value)} {j : Nat → Value}

theorem headL_get : ∀ (ts : List Value) (i t : Nat), t < ts.length → (headL D car j i ts)[t]? = some (match findV car (i + t) with | some x => x | none => bif memN D (i + t) then j (i + t) else ts.getD t undef)
  | [], _, _, h => by simp at h
  | v :: ts, i, 0, _ => by
    simp only [headL, List.getElem?_cons_zero, Nat.add_zero, List.getD_cons_zero]
    all_goals rfl
  | v :: ts, i, t + 1, h => by
    simp only [headL, List.getElem?_cons_succ]
    rw [headL_get ts (i + 1) t (by simpa using h)]
    simp [Nat.add_assoc, Nat.add_comm 1 t]

theorem headL_length : ∀ (ts : List Value) (i : Nat), (headL D car j i ts).length = ts.length
  | [], _ => rfl
  | _ :: ts, i => by simp [headL, headL_length ts]

/-- Slots that differ from the first ones where the loop sets them alone are those of a head. -/
theorem headL_of {ts us : List Value} (hf : FrD D ts us) (hc : ∀ t v, findV car t = some v → t < us.length → us.getD t undef = v) : us = headL D car (fun i => us.getD i undef) 0 ts := by
  apply List.ext_getElem?
  intro t
  by_cases ht : t < ts.length
  · rw [headL_get ts 0 t ht]
    have htu : t < us.length := by rw [hf.1]; exact ht
    have hget : us[t]? = some (us.getD t undef) := by simp [List.getD_eq_getElem?_getD, htu]
    rw [hget, Nat.zero_add]
    congr 1
    cases hv : findV car t with
    | some v => exact hc t v hv htu
    | none =>
      simp only
      cases hm : memN D t with
      | true => rfl
      | false => exact hf.2 t hm
  · rw [List.getElem?_eq_none (by rw [hf.1]; omega), List.getElem?_eq_none (by rw [headL_length]; omega)]
end

/-- What a list of typed values says. -/
theorem at_look {a : At} {v : Value} {K : a.T → Prop} (h : a.look v K) : ∃ x, v = a.enc x ∧ K x := by
  cases a <;> simp only [At.look] at h
  case int k =>
    split at h
    · obtain ⟨h1, h2⟩ := need_iff.1 h
      simp only [decide_eq_true_eq] at h1
      subst h1
      exact ⟨_, rfl, h2⟩
    · exact h.elim
  case val => exact ⟨v, rfl, h⟩
  all_goals
    split at h
    · exact ⟨_, rfl, h⟩
    · exact h.elim

/-- Some typed values stand there, and the conditions are those of them. -/
inductive Typed : (l : List At) → ArrT l (H → Prop) → ArrT l (H → Nat) → List Value → (H → Prop) → (H → Nat) → Prop where
  | nil (I : H → Prop) (M : H → Nat) : Typed [] I M [] I M
  | cons {a : At} {l : List At} (x : a.T) {I : ArrT (a :: l) (H → Prop)} {M : ArrT (a :: l) (H → Nat)} {vs : List Value} {i : H → Prop} {m : H → Nat} (h : Typed l (I x) (M x) vs i m) : Typed (a :: l) I M (a.enc x :: vs) i m

theorem rdS_typed : ∀ {l : List At} {vs : List Value} {I : ArrT l (H → Prop)} {M : ArrT l (H → Nat)} {K : (H → Prop) → (H → Nat) → Prop}, rdS l vs I M K → ∃ i m, Typed l I M (vs.take l.length) i m ∧ K i m
  | [], vs, I, M, K, h => ⟨I, M, by simpa using Typed.nil I M, h⟩
  | a :: l, [], _, _, _, h => h.elim
  | a :: l, v :: vs, I, M, K, h => by
    obtain ⟨x, rfl, h2⟩ := at_look h
    obtain ⟨i, m, h3, h4⟩ := rdS_typed h2
    exact ⟨i, m, by simpa using Typed.cons x h3, h4⟩

theorem allS_typed {l : List At} {I : ArrT l (H → Prop)} {M : ArrT l (H → Nat)} {vs : List Value} {i : H → Prop} {m : H → Nat} (t : Typed l I M vs i m) :
    ∀ {K : List Value → (H → Prop) → (H → Nat) → Prop}, allS l I M K → K vs i m := by
  induction t with
  | nil I M => intro K h; exact h
  | cons x t ih => intro K h; exact ih (h x)

theorem carRd_length : ∀ {car : List (Tmp × Sh)} {ts : List Value}, carOK car ts = true → (carRd car ts).length = (carAts car).length
  | [], _, _ => rfl
  | (t, .at a) :: r, ts, h => by simp [carRd, carAts, Sh.ats, carRd_length (car := r) (ts := ts) h]
  | (t, .agg l) :: r, ts, h => by
    simp only [carOK, Bool.and_eq_true] at h
    have ih := carRd_length (car := r) (ts := ts) h.2
    have h1 := h.1
    split at h1
    · rename_i cs hcs
      simp only [carRd, hcs, carAts, Sh.ats, List.length_append, ih, List.length_take, Nat.eq_of_beq_eq_true h1, Nat.min_self]
    · cases h1

theorem carVs_get : ∀ {car : List (Tmp × Sh)} {ts : List Value}, carOK car ts = true → ∀ {t : Tmp} {v : Value}, findV (carVs car (carRd car ts)) t = some v → ts.getD t undef = v
  | [], _, _, _, _, h => by simp [carVs, findV] at h
  | (t, .at a) :: r, ts, hok, u, v, h => by
    simp only [carRd, carVs, Sh.val, Sh.ats, List.length_cons, List.length_nil, Nat.zero_add, List.drop_succ_cons, List.drop_zero, findV] at h
    cases hb : Nat.beq t u with
    | true =>
      rw [hb] at h
      simp only [cond_true, Option.some.injEq] at h
      rw [← Nat.eq_of_beq_eq_true hb]; exact h
    | false =>
      rw [hb] at h
      exact carVs_get (car := r) hok h
  | (t, .agg l) :: r, ts, hok, u, v, h => by
    simp only [carOK, Bool.and_eq_true] at hok
    have h1 := hok.1
    split at h1
    · rename_i cs hcs
      have hl := Nat.eq_of_beq_eq_true h1
      simp only [carRd, hcs, carVs, Sh.val, Sh.ats, findV] at h
      have e1 : (cs.toList.take l.length ++ carRd r ts).take l.length = cs.toList := by
        rw [← hl, List.take_length, List.take_left']; rfl
      have e2 : (cs.toList.take l.length ++ carRd r ts).drop l.length = carRd r ts := by
        rw [← hl, List.take_length, List.drop_left']; rfl
      rw [e1, e2] at h
      cases hb : Nat.beq t u with
      | true =>
        rw [hb] at h
        simp only [cond_true, Option.some.injEq] at h
        rw [← Nat.eq_of_beq_eq_true hb, hcs]; exact h
      | false =>
        rw [hb] at h
        exact carVs_get (car := r) hok.2 h
    · cases h1

end Go.Ev

namespace Go.Ev
open Go Go.RowKit

variable {P : Program} {W : Rec} {Γ : Hints} {T : Nat → Option AFn} {nk : Nat → Bool}

theorem S_sound (hW : WOK P T nk W) : ∀ (c : AC) {rd : Bool} {ts : List Value} {df : List ADef} {h : H} {Q : AExit → List Value → List ADef → H → Prop} (rc : RC), S P W Γ c rd ts df h Q →
    ∃ x ts' df' h', evC P W c (mkA ts df rc rd) h = some (x, mkA ts' df' rc rd, h') ∧ Q x ts' df' h' ∧ FrD (dstsC c) ts ts' := by
  intro c
  induction c with
  | skip => intro rd ts df h Q rc hs; exact ⟨_, _, _, _, rfl, hs, .refl _ _⟩
  | reg ops =>
    intro rd ts df h Q rc hs
    obtain ⟨x, ts', df', h', h1, h2⟩ := sOps_elim (rc := rc) hs
    exact ⟨x, ts', df', h', h1, h2, evOps_fr h1⟩
  | regD ops checks cuts =>
    intro rd ts df h Q rc hs
    obtain ⟨G, ts', h', h1, h2, h3, h4⟩ := sTr_elim (P := P) (W := W) (Γ := Γ) hs
    simp only [List.append_nil, List.reverse_reverse] at h2
    obtain ⟨h5, h6⟩ := sChk_elim h2
    refine ⟨.normal, ts', df, h', ?_, h6, trace_fr h1 _ _ _ h3⟩
    simp only [evC, evRegD]
    have h1' : trace P W ops (mkA ts df rc rd).tmps h = some G := h1
    rw [h1']
    simp only [h5, if_true, h3]
    rfl
  | regL b ops checks =>
    intro rd ts df h Q rc hs
    obtain ⟨G, s', h1, h2, h3, h4, h5⟩ := sTrL_elim (P := P) (W := W) (Γ := Γ) (newH_elim hs)
    simp only [List.append_nil, List.reverse_reverse] at h2
    obtain ⟨h6, h7⟩ := sChkL_elim h2
    refine ⟨.normal, s'.ts, df, _, ?_, sPlug_elim h7, traceL_fr h1 _ _ h3⟩
    simp only [evC, evRegL]
    have h1' : traceL P W b h.next ops 0 { ts := (mkA ts df rc rd).tmps, h := { next := h.next + ops.length, t := h.t }, F := [] } = some G := h1
    rw [h1']
    cases G with
    | nil => simp at h4
    | cons s0 r =>
      have hl : lastL s0 r = s' := by
        have hr : r.length = ops.length := by simpa using h4
        have := lastL_get r s0
        rw [hr, h3] at this
        exact (Option.some.inj this).symm
      simp only [hl, h6, if_true]
      rfl
  | seq a b iha ihb =>
    intro rd ts df h Q rc hs
    obtain ⟨x, ts1, df1, h1, e1, q1, f1⟩ := iha rc hs
    have m1 : ∀ t ∈ dstsC a, t ∈ dstsC (a.seq b) := fun t ht => List.mem_append.2 (.inl ht)
    have m2 : ∀ t ∈ dstsC b, t ∈ dstsC (a.seq b) := fun t ht => List.mem_append.2 (.inr ht)
    simp only [evC, e1]
    cases x with
    | normal =>
      obtain ⟨y, ts2, df2, h2, e2, q2, f2⟩ := ihb rc q1
      exact ⟨y, ts2, df2, h2, e2, q2, (f1.mono m1).trans (f2.mono m2)⟩
    | exit id => exact ⟨_, ts1, df1, h1, rfl, q1, f1.mono m1⟩
    | ret => exact ⟨_, ts1, df1, h1, rfl, q1, f1.mono m1⟩
    | panic v => exact ⟨_, ts1, df1, h1, rfl, q1, f1.mono m1⟩
  | cond c a b iha ihb =>
    intro rd ts df h Q rc hs
    have m1 : ∀ t ∈ dstsC a, t ∈ dstsC (.cond c a b) := fun t ht => List.mem_append.2 (.inl ht)
    have m2 : ∀ t ∈ dstsC b, t ∈ dstsC (.cond c a b) := fun t ht => List.mem_append.2 (.inr ht)
    simp only [S] at hs
    split at hs
    · rename_i t ht
      have ht' : aev (mkA ts df rc rd).tmps c = .bool t := ht
      simp only [evC, ht']
      rcases brB_elim hs with ⟨rfl, h1⟩ | ⟨rfl, h1⟩
      · obtain ⟨x, ts1, df1, h1, e1, q1, f1⟩ := iha rc h1
        exact ⟨x, ts1, df1, h1, e1, q1, f1.mono m1⟩
      · obtain ⟨x, ts1, df1, h1, e1, q1, f1⟩ := ihb rc h1
        exact ⟨x, ts1, df1, h1, e1, q1, f1.mono m2⟩
    · exact hs.elim
  | block id c ih =>
    intro rd ts df h Q rc hs
    obtain ⟨x, ts1, df1, h1, e1, q1, f1⟩ := ih rc hs
    simp only [evC]
    rw [e1]
    cases x with
    | normal => exact ⟨_, ts1, df1, h1, rfl, q1, f1⟩
    | exit id' =>
      simp only at q1 ⊢
      cases hb : Nat.beq id' id with
      | true =>
        rw [hb] at q1
        rw [if_pos (Nat.eq_of_beq_eq_true hb)]
        exact ⟨_, ts1, df1, h1, rfl, q1, f1⟩
      | false =>
        rw [hb] at q1
        rw [if_neg (fun e => by subst e; simp [Nat.beq_refl] at hb)]
        exact ⟨_, ts1, df1, h1, rfl, q1, f1⟩
    | ret => exact ⟨_, ts1, df1, h1, rfl, q1, f1⟩
    | panic v => exact ⟨_, ts1, df1, h1, rfl, q1, f1⟩
  | loop c ih =>
    intro rd ts df h Q rc hs
    simp only [S] at hs
    generalize hcar : findL Γ.loops (firstT (dstsC c)) = car at hs
    obtain ⟨I, M, hentry, hall⟩ := hs
    obtain ⟨hok, hrd⟩ := need_iff.1 hentry
    have key : ∀ (n : Nat) (ts1 : List Value) (h1 : H) (i : H → Prop) (m : H → Nat), m h1 ≤ n → FrD (dstsC c) ts ts1 → carOK car ts1 = true → Typed (carAts car) I M (carRd car ts1) i m → i h1 →
        ∃ x ts' df' h', evC P W (.loop c) (mkA ts1 df rc rd) h1 = some (x, mkA ts' df' rc rd, h') ∧ Q x ts' df' h' ∧ FrD (dstsC c) ts ts' := by
      intro n
      induction n with
      | zero =>
        intro ts1 h1 i m hm hf hk ht hi
        have hb := allS_typed ht (hall fun i => ts1.getD i undef) h1 hi
        rw [← headL_of hf (fun t v hv hlt => carVs_get hk hv)] at hb
        obtain ⟨x, ts2, df2, h2, e2, q2, f2⟩ := ih rc hb
        simp only [evC, e2]
        cases x with
        | normal =>
          obtain ⟨rfl, q3⟩ := q2
          obtain ⟨hk2, hr2⟩ := need_iff.1 q3
          obtain ⟨i', m', ht2, hi2, hm2⟩ := rdS_typed hr2
          omega
        | exit id => exact ⟨_, _, _, _, rfl, q2, hf.trans f2⟩
        | ret => exact ⟨_, _, _, _, rfl, q2, hf.trans f2⟩
        | panic v => exact ⟨_, _, _, _, rfl, q2, hf.trans f2⟩
      | succ n ihn =>
        intro ts1 h1 i m hm hf hk ht hi
        have hb := allS_typed ht (hall fun i => ts1.getD i undef) h1 hi
        rw [← headL_of hf (fun t v hv hlt => carVs_get hk hv)] at hb
        obtain ⟨x, ts2, df2, h2, e2, q2, f2⟩ := ih rc hb
        simp only [evC, e2]
        cases x with
        | normal =>
          obtain ⟨rfl, q3⟩ := q2
          obtain ⟨hk2, hr2⟩ := need_iff.1 q3
          obtain ⟨i', m', ht2, hi2, hm2⟩ := rdS_typed hr2
          rw [List.take_of_length_le (by rw [carRd_length hk2]; exact Nat.le_refl _)] at ht2
          obtain ⟨y, ts3, df3, h3, e3, q4, f3⟩ := ihn ts2 h2 i' m' (by omega) (hf.trans f2) hk2 ht2 hi2
          exact ⟨y, ts3, df3, h3, hW.loop _ _ _ _ e3, q4, f3⟩
        | exit id => exact ⟨_, _, _, _, rfl, q2, hf.trans f2⟩
        | ret => exact ⟨_, _, _, _, rfl, q2, hf.trans f2⟩
        | panic v => exact ⟨_, _, _, _, rfl, q2, hf.trans f2⟩
    obtain ⟨i, m, ht, hi⟩ := rdS_typed hrd
    rw [List.take_of_length_le (by rw [carRd_length hok]; exact Nat.le_refl _)] at ht
    exact key (m h) ts h i m (Nat.le_refl _) (.refl _ _) hok ht hi
  | rangeFunc f ps as bd iha ihb => intro rd ts df h Q rc hs; exact hs.elim
  | exit id => intro rd ts df h Q rc hs; exact ⟨_, _, _, _, rfl, hs, .refl _ _⟩
  | ret => intro rd ts df h Q rc hs; exact ⟨_, _, _, _, rfl, hs, .refl _ _⟩
  | stuck => intro rd ts df h Q rc hs; exact hs.elim

/-! ### Functions -/
theorem sUnw_elim : ∀ {df : List ADef} {h : H} {K : H → Prop} (m : Option Value), sUnw df h K → ∃ h', unwindA W df m h = some (m, h') ∧ K h'
  | [], h, K, m, hs => ⟨h, rfl, hs⟩
  | .coll d :: r, h, K, m, hs => by
    obtain ⟨h1, h2⟩ := hs
    obtain ⟨h', h3, h4⟩ := sUnw_elim m (newH_elim h2)
    exact ⟨h', by simp only [unwindA, h1, h3], h4⟩
  | .call _ _ :: _, _, _, _, hs => hs.elim

theorem sRes_elim {ts : List Value} {h : H} : ∀ {l : List ARV} {sh : List Sh} {K : List Value → Prop}, sRes h ts l sh K → ∃ vs, resA h ts l = some vs ∧ K vs
  | [], _, K, hs => ⟨[], rfl, hs⟩
  | .tmp t :: r, sh, K, hs => by
    obtain ⟨h1, h2⟩ := need_iff.1 hs
    simp only [Bool.not_eq_true'] at h1
    obtain ⟨vs, h3, h4⟩ := sRes_elim h2
    exact ⟨_, by simp only [resA, h1, Bool.false_eq_true, if_false, h3, Option.map_some], h4⟩
  | .cell t agg n :: r, sh, K, hs => by
    simp only [sRes] at hs
    split at hs
    · rename_i p hp
      obtain ⟨cs, v, h1, h2, h3⟩ := sLoad_elim hs
      obtain ⟨vs, h4, h5⟩ := sRes_elim h3
      refine ⟨v :: vs, ?_, h5⟩
      simp only [resA, hp, h1, h2, h4]
    · exact hs.elim

theorem sFin_elim {fn : AFn} {x : AExit} {ts : List Value} {df : List ADef} {h : H} {R : ARes → H → Prop} {rc : RC} {rd : Bool} (hs : sFin Γ fn x ts df h R) :
    ∃ r h', finishA W fn x (mkA ts df rc rd) h = some (r, rc, h') ∧ R r h' := by
  have fin : ∀ (K : H → Prop), (∀ h', K h' → ∃ vs, resA h' ts fn.results = some vs ∧ R (.ret (tupleOf vs)) h') → sUnw df h K →
      ∃ r h', (match unwindA W df none h with
        | some (none, h') => (resA h' ts fn.results).map fun l => (ARes.ret (tupleOf l), rc, h')
        | some (some v, h') => some (.panic v, rc, h')
        | none => none) = some (r, rc, h') ∧ R r h' := by
    intro K hK hu
    obtain ⟨h', h1, h2⟩ := sUnw_elim (W := W) none hu
    obtain ⟨vs, h3, h4⟩ := hK h' h2
    exact ⟨_, h', by rw [h1]; simp only [h3, Option.map_some], h4⟩
  cases x with
  | normal => exact fin _ (fun h' k => sRes_elim k) hs
  | ret => exact fin _ (fun h' k => sRes_elim k) hs
  | panic v =>
    obtain ⟨h', h1, h2⟩ := sUnw_elim (W := W) (some v) hs
    refine ⟨.panic v, h', ?_, h2⟩
    show (match unwindA W df (some v) h with
        | some (none, h') => (resA h' ts fn.results).map fun l => (ARes.ret (tupleOf l), rc, h')
        | some (some v, h') => some (.panic v, rc, h')
        | none => none) = _
    rw [h1]
  | exit id => exact hs.elim

/-- A call comes to an end as wanted. -/
def Gives (W : Rec) (f : Value) (args : List Value) (h : H) (R : ARes → H → Prop) : Prop := ∃ r rc h', W.call f args .unk h = some (r, rc, h') ∧ R r h'

theorem Gives.mono {f : Value} {args : List Value} {h : H} {R R' : ARes → H → Prop} (g : Gives W f args h R) (k : ∀ r h', R r h' → R' r h') : Gives W f args h R' := by
  obtain ⟨r, rc, h', h1, h2⟩ := g
  exact ⟨r, rc, h', h1, k _ _ h2⟩

/-- **WHAT IS ASKED OF A FUNCTION, ONCE SHOWN.** -/
theorem sFn_gives (hW : WOK P T nk W) {g : Nat} (hg : nk g = true) {a b : Array Value} {args : List Value} {h : H} {R : ARes → H → Prop} (hs : sFn P W Γ T g (a.toList ++ args ++ b.toList) h R) :
    Gives W (.func (.func g) a b) args h R := by
  unfold sFn at hs
  split at hs
  · rename_i fn hfn
    obtain ⟨x, ts', df', h', h1, h2, _⟩ := S_sound hW fn.body .unk hs
    obtain ⟨r, h'', h3, h4⟩ := sFin_elim (W := W) (rc := .unk) (rd := false) h2
    refine ⟨r, .unk, h'', hW.call _ _ _ _ _ _ hg ?_, h4⟩
    unfold callA
    simp only [hfn]
    have e : startA fn (a.toList ++ args ++ b.toList) .unk = mkA (a.toList ++ args ++ b.toList ++ List.replicate (fn.ntmps - (a.toList ++ args ++ b.toList).length) undef) [] .unk false := rfl
    rw [e, h1]
    exact h3
  · exact hs.elim

theorem Gives.ret {f : Value} {args : List Value} {h : H} {Q : Value → H → Prop} (g : Gives W f args h fun r h' => ∃ v, r = .ret v ∧ Q v h') : ∃ v h', Ret W f args h v h' ∧ Q v h' := by
  obtain ⟨r, rc, h', h1, v, rfl, h2⟩ := g
  exact ⟨v, h', ⟨rc, h1⟩, h2⟩

/-- No known call of this function. -/
def noCan (cs : Cans) (g : Nat) : Bool := cs.all fun c => !(Nat.beq c.g g)

theorem canFind_no {hh : H} : ∀ {cs : Cans} {g : Nat} {args : List Value}, noCan cs g = true → canFind hh cs g args = some none
  | [], _, _, _ => rfl
  | c :: cs, g, args, h => by
    simp only [noCan, List.all_cons, Bool.and_eq_true, Bool.not_eq_true'] at h
    simp only [canFind, h.1]
    exact canFind_no h.2

theorem wok_evW {tabs : Tabs} {cs : Cans} : WOK P T (noCan cs) (evW P T tabs cs) := by
  refine ⟨fun c a h x he => evW_loop he, fun g a b args h x hg he => evW_call ?_ he, fun l a b args h x he => evW_call rfl he⟩
  simp only [canOf, canFind_no hg]
  split <;> rfl

end Go.Ev

namespace Go.Ev
open Go Go.RowKit

/-! ### What stays -/
def Top (h : H) : Prop := ∀ i, h.next ≤ i → h.get i = none

theorem Top.lt {h : H} (t : Top h) {i : Nat} {b : Blk} (hg : h.get i = some b) : i < h.next := by
  rcases Nat.lt_or_ge i h.next with h1 | h1
  · exact h1
  · rw [t i h1] at hg; cases hg

theorem Top.alloc {h : H} (t : Top h) (b : Blk) : Top (h.alloc b) := fun i hi => by
  rw [H.next_alloc] at hi
  rw [H.get_alloc_ne h b (by omega)]; exact t i (by omega)

theorem Top.set {h : H} (t : Top h) {r : Nat} (hr : r < h.next) (b : Blk) : Top (h.set r b) := fun i hi => by
  have hi' : h.next ≤ i := hi
  rw [H.get_set_ne h b (by omega)]; exact t i hi'

theorem Top.res {h : H} (t : Top h) (n : Nat) : Top (h.res n) := fun i hi => t i (by have : h.next + n ≤ i := hi; omega)

theorem H.res_next (h : H) (n : Nat) : (h.res n).next = h.next + n := rfl
theorem H.res_get (h : H) (n i : Nat) : (h.res n).get i = h.get i := rfl

theorem plug_none {h : H} {r : Nat} {b : Blk} (hg : h.get r = none) : plug h r b = h.set r b := by unfold plug; rw [hg]
theorem plug_some {h : H} {r : Nat} {b c : Blk} (hg : h.get r = some c) : plug h r b = h := by unfold plug; rw [hg]

/-- What there was stays, but for some blocks. -/
structure Keep (L : List Nat) (h h' : H) : Prop where
  top : Top h'
  next : h.next ≤ h'.next
  get : ∀ i, i < h.next → i ∉ L → h'.get i = h.get i

theorem Keep.refl {h : H} (t : Top h) (L : List Nat) : Keep L h h := ⟨t, Nat.le_refl _, fun _ _ _ => rfl⟩

theorem Keep.trans {L : List Nat} {h h' h'' : H} (k : Keep L h h') (k' : Keep L h' h'') : Keep L h h'' :=
  ⟨k'.top, Nat.le_trans k.next k'.next, fun i hi hl => (k'.get i (Nat.lt_of_lt_of_le hi k.next) hl).trans (k.get i hi hl)⟩

theorem Keep.mono {L L' : List Nat} {h h' : H} (k : Keep L h h') (hs : ∀ i ∈ L, i < h.next → i ∈ L') : Keep L' h h' :=
  ⟨k.top, k.next, fun i hi hl => k.get i hi fun hm => hl (hs i hm hi)⟩

theorem Keep.alloc {L : List Nat} {h h' : H} (k : Keep L h h') (b : Blk) : Keep L h (h'.alloc b) :=
  ⟨k.top.alloc b, Nat.le_trans k.next (by rw [H.next_alloc]; omega), fun i hi hl => by
    rw [H.get_alloc_ne h' b (by have := k.next; omega)]; exact k.get i hi hl⟩

theorem Keep.set {L : List Nat} {h h' : H} (k : Keep L h h') {r : Nat} (hr : r < h'.next) (hn : h.next ≤ r ∨ r ∈ L) (b : Blk) : Keep L h (h'.set r b) :=
  ⟨k.top.set hr b, k.next, fun i hi hl => by
    rw [H.get_set_ne h' b (by rintro rfl; rcases hn with h1 | h1 <;> first | omega | exact hl h1)]; exact k.get i hi hl⟩

theorem Keep.res {L : List Nat} {h h' : H} (k : Keep L h h') (n : Nat) : Keep L h (h'.res n) := ⟨k.top.res n, Nat.le_trans k.next (Nat.le_add_right _ _), k.get⟩

/-- On behind more that has been made, a smaller start. -/
theorem Keep.from {L : List Nat} {h h1 h' : H} (k1 : Keep [] h h1) (k : Keep L h1 h') (hL : ∀ i ∈ L, h.next ≤ i) : Keep [] h h' :=
  ⟨k.top, Nat.le_trans k1.next k.next, fun i hi _ => by
    rw [k.get i (Nat.lt_of_lt_of_le hi k1.next) (fun hm => by have := hL i hm; omega)]
    exact k1.get i hi (by simp)⟩

/-! ### What lies where -/
structure Lay (h : H) (b : Nat) (cs : List Value) : Prop where
  lt : b < h.next
  at' : ∃ k, h.get b = some k ∧ k.read = some cs

theorem Lay.keep {L : List Nat} {h h' : H} {b : Nat} {cs : List Value} (l : Lay h b cs) (k : Keep L h h') (hb : b ∉ L) : Lay h' b cs := by
  obtain ⟨x, h1, h2⟩ := l.at'
  exact ⟨Nat.lt_of_lt_of_le l.lt k.next, x, by rw [k.get b l.lt hb]; exact h1, h2⟩

theorem Lay.cells {h : H} {b : Nat} {cs : List Value} (l : Lay h b cs) {o n : Nat} (hl : o + n ≤ cs.length) : h.cells ⟨b, o, none⟩ n = some ((cs.drop o).take n) := by
  obtain ⟨x, h1, h2⟩ := l.at'
  simp only [H.cells, h1, Option.bind_some, h2]
  rw [if_pos hl]

theorem lay_alloc {h : H} {t : Bool} {cs : List Value} {e r : Nat} : Lay (h.alloc (.cells t cs e r)) h.next cs :=
  ⟨by rw [H.next_alloc]; omega, _, H.get_alloc_same _ _, rfl⟩

theorem Lay.alloc {h : H} {b : Nat} {cs : List Value} (l : Lay h b cs) (x : Blk) : Lay (h.alloc x) b cs := by
  obtain ⟨k, h1, h2⟩ := l.at'
  exact ⟨by rw [H.next_alloc]; have := l.lt; omega, k, by rw [H.get_alloc_ne h x (by have := l.lt; omega)]; exact h1, h2⟩

theorem Lay.set_ne {h : H} {b r : Nat} {cs : List Value} (l : Lay h b cs) (x : Blk) (hn : b ≠ r) : Lay (h.set r x) b cs := by
  obtain ⟨k, h1, h2⟩ := l.at'
  exact ⟨l.lt, k, by rw [H.get_set_ne h x (Ne.symm hn)]; exact h1, h2⟩

theorem lay_set {h : H} {r : Nat} (hr : r < h.next) {t : Bool} {cs : List Value} {e n : Nat} : Lay (h.set r (.cells t cs e n)) r cs := ⟨hr, _, H.get_set_same _ _ _, rfl⟩

/-- Reading at once what was made. -/
theorem cells_alloc {h : H} {t : Bool} {cs : List Value} {e r o n : Nat} (hl : o + n ≤ cs.length) : (h.alloc (.cells t cs e r)).cells ⟨h.next, o, none⟩ n = some ((cs.drop o).take n) := lay_alloc.cells hl

/-! ### Slices -/
structure Sli (h : H) (q : SV) (sz : Nat) (rows : List (List Value)) : Prop where
  len : q.n = rows.length
  all : ∀ r ∈ rows, r.length = sz
  lay : 0 < rows.length → ∃ b o cs, q.p = some ⟨b, o, none⟩ ∧ Lay h b cs ∧ o + rows.length * sz ≤ cs.length ∧ ∀ i r, rows[i]? = some r → (cs.drop (o + i * sz)).take sz = r

theorem Sli.keep {L : List Nat} {h h' : H} {q : SV} {sz : Nat} {rows : List (List Value)} (s : Sli h q sz rows) (k : Keep L h h') (hL : ∀ b o, q.p = some ⟨b, o, none⟩ → b ∉ L) : Sli h' q sz rows :=
  ⟨s.len, s.all, fun hp => by
    obtain ⟨b, o, cs, h1, h2, h3⟩ := s.lay hp
    exact ⟨b, o, cs, h1, h2.keep k (hL b o h1), h3⟩⟩

theorem Sli.keep0 {h h' : H} {q : SV} {sz : Nat} {rows : List (List Value)} (s : Sli h q sz rows) (k : Keep [] h h') : Sli h' q sz rows := s.keep k fun _ _ _ => by simp

theorem Sli.idx {h : H} {q : SV} {sz : Nat} {rows : List (List Value)} (s : Sli h q sz rows) {i : Int} (h0 : 0 ≤ i) (h1 : i < (q.n : Int)) :
    ∃ b o r, q.p = some ⟨b, o, none⟩ ∧ rows[i.toNat]? = some r ∧ r.length = sz ∧ ∀ k n, k + n ≤ sz → h.cells ⟨b, o + i.toNat * sz + k, none⟩ n = some ((r.drop k).take n) := by
  have hlt : i.toNat < rows.length := by have := s.len; omega
  obtain ⟨b, o, cs, e1, e2, e3, e4⟩ := s.lay (by omega)
  have hr : rows[i.toNat]? = some rows[i.toNat] := List.getElem?_eq_getElem hlt
  have hrl := s.all _ (List.mem_of_getElem? hr)
  refine ⟨b, o, rows[i.toNat], e1, hr, hrl, fun k n hk => ?_⟩
  have hb : i.toNat * sz + sz ≤ rows.length * sz := by
    have := Nat.mul_le_mul_right sz (show i.toNat + 1 ≤ rows.length by omega)
    rw [Nat.add_mul, Nat.one_mul] at this; exact this
  rw [e2.cells (by omega)]
  congr 1
  rw [← e4 _ _ hr, ← List.drop_drop, List.drop_take, List.take_take, Nat.min_eq_left (by omega)]

/-- One row. -/
theorem Sli.row {h : H} {q : SV} {sz : Nat} {rows : List (List Value)} (s : Sli h q sz rows) {i : Int} (h0 : 0 ≤ i) (h1 : i < (q.n : Int)) :
    ∃ b o r, q.p = some ⟨b, o, none⟩ ∧ rows[i.toNat]? = some r ∧ r.length = sz ∧ h.cells ⟨b, o + i.toNat * sz, none⟩ sz = some r := by
  obtain ⟨b, o, r, e1, e2, e3, e4⟩ := s.idx h0 h1
  refine ⟨b, o, r, e1, e2, e3, ?_⟩
  have := e4 0 sz (by omega)
  simpa [← e3] using this

/-! ### Slices that grow -/
/-- A slice of the call's own that appending may take. -/
def Gr (h : H) (q : SV) (e sz : Nat) (rows : List (List Value)) : Prop :=
  (∀ r ∈ rows, r.length = sz) ∧ ((q = ⟨none, 0, 0⟩ ∧ rows = []) ∨ ∃ b t, q = ⟨some ⟨b, 0, none⟩, rows.length, 0⟩ ∧ b < h.next ∧ h.get b = some (.cells t rows.flatten e rows.length))

theorem gr_nil (h : H) (e sz : Nat) : Gr h ⟨none, 0, 0⟩ e sz [] := ⟨by simp, .inl ⟨rfl, rfl⟩⟩

theorem flatten_len {sz : Nat} : ∀ {rows : List (List Value)}, (∀ r ∈ rows, r.length = sz) → rows.flatten.length = rows.length * sz
  | [], _ => by simp
  | r :: rs, h => by
    simp only [List.flatten_cons, List.length_append, List.length_cons, flatten_len (rows := rs) fun x hx => h x (List.mem_cons_of_mem _ hx), h r (List.mem_cons_self ..), Nat.add_mul, Nat.one_mul]
    omega

theorem flatten_row {sz : Nat} : ∀ {rows : List (List Value)} {i : Nat} {r : List Value}, (∀ r ∈ rows, r.length = sz) → rows[i]? = some r → (rows.flatten.drop (i * sz)).take sz = r
  | [], _, _, _, hi => by simp at hi
  | x :: rs, 0, r, h, hi => by
    simp only [List.getElem?_cons_zero, Option.some.injEq] at hi
    subst hi
    have := h x (List.mem_cons_self ..)
    simp [← this]
  | x :: rs, i + 1, r, h, hi => by
    simp only [List.getElem?_cons_succ] at hi
    have hx := h x (List.mem_cons_self ..)
    have ih := flatten_row (fun y hy => h y (List.mem_cons_of_mem _ hy)) hi
    rw [List.flatten_cons, Nat.add_mul, Nat.one_mul, Nat.add_comm (i * sz) sz, ← List.drop_drop]
    have e : (x ++ rs.flatten).drop sz = rs.flatten := by rw [← hx]; exact List.drop_left ..
    rw [e]; exact ih

theorem Gr.sli {h : H} {q : SV} {e sz : Nat} {rows : List (List Value)} (g : Gr h q e sz rows) : Sli h q sz rows := by
  obtain ⟨ha, hb⟩ := g
  rcases hb with ⟨rfl, rfl⟩ | ⟨b, t, rfl, hlt, hg⟩
  · exact ⟨rfl, by simp, fun h => by simp at h⟩
  · refine ⟨rfl, ha, fun _ => ⟨b, 0, rows.flatten, rfl, ⟨hlt, _, hg, rfl⟩, by rw [Nat.zero_add, flatten_len ha]; exact Nat.le_refl _, fun i r hi => ?_⟩⟩
    rw [Nat.zero_add]; exact flatten_row ha hi

theorem Gr.keep {L : List Nat} {h h' : H} {q : SV} {e sz : Nat} {rows : List (List Value)} (g : Gr h q e sz rows) (k : Keep L h h') (hL : ∀ b, q.p = some ⟨b, 0, none⟩ → b ∉ L) : Gr h' q e sz rows := by
  obtain ⟨ha, hb⟩ := g
  refine ⟨ha, ?_⟩
  rcases hb with ⟨rfl, rfl⟩ | ⟨b, t, rfl, hlt, hg⟩
  · exact .inl ⟨rfl, rfl⟩
  · exact .inr ⟨b, t, rfl, Nat.lt_of_lt_of_le hlt k.next, by rw [k.get b hlt (hL b rfl)]; exact hg⟩

/-- The blocks that a slice that grows owns. -/
def SV.blks (q : SV) : List Nat := match q.p with
  | some a => [a.block]
  | none => []

/-- Appending what lies there. -/
theorem Gr.app {P : Program} {h : H} (t : Top h) {q : SV} {e sz bytes : Nat} {rows new : List (List Value)} (g : Gr h q e sz rows) {x : Value} (hnew : ∀ r ∈ new, r.length = sz)
    (hx : srcCells h sz x = some (new.length, new.flatten)) (hone : (new.flatten.all (·.oneCell')) = true) (hpos : new ≠ []) (hb : (rows.length + new.length) * bytes ≤ maxBytes) (hm : rows.length + new.length ≤ maxLen) :
    ∃ h', appV P h e sz bytes (.slice q.p q.n q.c) x = some (.slice (some ⟨h.next, 0, none⟩) (rows.length + new.length) 0, h') ∧ Gr h' ⟨some ⟨h.next, 0, none⟩, rows.length + new.length, 0⟩ e sz (rows ++ new) ∧ Keep q.blks h h' ∧ h.next < h'.next := by
  obtain ⟨ha, hb'⟩ := g
  have hnl : 0 < new.length := List.length_pos_iff.2 hpos
  have hlen : new.flatten.length = new.length * sz := flatten_len hnew
  have hall : ∀ r ∈ rows ++ new, r.length = sz := fun r hr => by
    rcases List.mem_append.1 hr with h1 | h1
    · exact ha r h1
    · exact hnew r h1
  have hc : (decide (new.flatten.length = new.length * sz) && new.flatten.all (·.oneCell')) = true := by simp [hlen, hone]
  have hcc : new.flatten.length = new.length * sz ∧ (new.flatten.all (·.oneCell')) = true := ⟨hlen, hone⟩
  rcases hb' with ⟨rfl, rfl⟩ | ⟨b, tg, rfl, hlt, hg⟩
  · refine ⟨h.alloc (.cells false new.flatten e new.length), ?_, ⟨by simpa using hall, .inr ⟨h.next, false, by simp, by rw [H.next_alloc]; omega, by simpa using H.get_alloc_same h _⟩⟩, (Keep.refl t _).alloc _, by rw [H.next_alloc]; omega⟩
    simp only [appV, aexec, aev, hx]
    rw [if_pos (by first | exact hc | exact hcc | simp [hlen, hone])]
    simp only [appendA]
    rw [if_neg (by omega), if_pos ⟨by simpa using hb, by simpa using hm⟩]
    simp
  · refine ⟨(bif tg then h else h.set b .dead).alloc (.cells false (rows.flatten ++ new.flatten) e (rows.length + new.length)), ?_, ⟨hall, .inr ⟨h.next, false, by simp, ?_, ?_⟩⟩, ?_, ?_⟩
    · simp only [appV, aexec, aev, hx]
      rw [if_pos (by first | exact hc | exact hcc | simp [hlen, hone])]
      simp only [appendA]
      rw [if_neg (by omega)]
      simp only [hg]
      rw [if_pos ⟨trivial, trivial, trivial, trivial, trivial, flatten_len ha, hb, hm⟩]
    · cases tg <;> simp only [cond_true, cond_false, H.next_alloc, H.next_set] <;> omega
    · rw [List.flatten_append, List.length_append]
      have : (bif tg then h else h.set b .dead).next = h.next := by cases tg <;> rfl
      rw [← this]
      exact H.get_alloc_same _ _
    · cases tg with
      | true => exact (Keep.refl t _).alloc _
      | false => exact ((Keep.refl t _).set hlt (.inr (by simp [SV.blks])) _).alloc _
    · cases tg <;> simp only [cond_true, cond_false, H.next_alloc, H.next_set] <;> omega

/-- What was built just now, as what is appended. -/
theorem src_built {h : H} {b sz n : Nat} {cs : List Value} {e : Nat} {t : Bool} (hg : h.get b = some (.cells t cs e n)) (hn : n ≠ 0) (hl : cs.length = n * sz) : srcCells h sz (.slice (some ⟨b, 0, none⟩) n 0) = some (n, cs) := by
  simp only [srcCells]
  rw [if_neg hn]
  simp only [H.cells, hg, Option.bind_some, Blk.read]
  rw [if_pos (by omega)]
  simp [← hl]

theorem Sli.src {h : H} {q : SV} {sz : Nat} {rows : List (List Value)} (s : Sli h q sz rows) : srcCells h sz (.slice q.p q.n q.c) = some (rows.length, rows.flatten) := by
  cases hr : rows with
  | nil =>
    have hn : q.n = 0 := by rw [s.len, hr]; rfl
    rw [hn]
    cases q.p <;> simp [srcCells]
  | cons r rs =>
    obtain ⟨b, o, cs, e1, e2, e3, e4⟩ := s.lay (by rw [hr]; simp)
    rw [e1, s.len]
    simp only [srcCells]
    rw [if_neg (by rw [hr]; simp), e2.cells e3]
    simp only [Option.map_some, Option.some.injEq, Prod.mk.injEq]
    rw [← hr]
    refine ⟨rfl, ?_⟩
    apply List.ext_getElem?
    intro j
    have hfl := flatten_len s.all
    by_cases hj : j < rows.length * sz
    · have hsz : 0 < sz := by
        rcases Nat.eq_zero_or_pos sz with h0 | h0
        · rw [h0] at hj; simp at hj
        · exact h0
      have hdiv : j / sz < rows.length := by rw [Nat.div_lt_iff_lt_mul hsz]; exact hj
      have hri := List.getElem?_eq_getElem hdiv
      have h1 := e4 _ _ hri
      have h2 := flatten_row s.all hri
      have hjm : j = (j / sz) * sz + j % sz := by rw [Nat.mul_comm]; exact (Nat.div_add_mod j sz).symm
      have hmod := Nat.mod_lt j hsz
      have g1 : ((cs.drop (o + j / sz * sz)).take sz)[j % sz]? = cs[o + j]? := by
        rw [List.getElem?_take_of_lt hmod, List.getElem?_drop]
        congr 1; omega
      have g2 : ((rows.flatten.drop (j / sz * sz)).take sz)[j % sz]? = rows.flatten[j]? := by
        rw [List.getElem?_take_of_lt hmod, List.getElem?_drop]
        congr 1; omega
      rw [List.getElem?_take_of_lt hj, List.getElem?_drop, ← g1, h1, ← h2, g2]
    · rw [List.getElem?_eq_none (by rw [List.length_take]; omega), List.getElem?_eq_none (by omega)]

end Go.Ev

namespace Go.Ev
open Go
def goodV : Value → Bool
  | .bool _ | .int _ _ | .string _ | .pointer _ | .slice _ _ _ | .map _ | .nilFunc | .nilIface => true
  | .func (.func _) a b => a.toList.isEmpty && b.toList.isEmpty
  | _ => false

theorem goodV_eq {v : Value} (hv : goodV v = true) : eqV v v = true := by
  cases v with
  | func f a b =>
    cases f <;> simp only [goodV, Bool.false_eq_true, Bool.and_eq_true] at hv
    simp [eqV, hv.1, hv.2]
  | _ => first | (simp [eqV]; done) | (simp [goodV] at hv)

theorem goodV_eqs : ∀ {l : List Value}, l.all goodV = true → eqVs l l = true
  | [], _ => rfl
  | v :: l, h => by
    simp only [List.all_cons, Bool.and_eq_true] at h
    simp only [eqVs, goodV_eq h.1, goodV_eqs h.2, Bool.and_self]

end Go.Ev
