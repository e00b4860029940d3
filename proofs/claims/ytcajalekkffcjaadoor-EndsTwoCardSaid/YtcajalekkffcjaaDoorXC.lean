/- Open calls, and what an argument says. -/
import Derived.Test.YtcajalekkffcjaaDoorXB
import Derived.OpenShut
import Derived.ChangeArms
import Derived.Carry
import Derived.ReadAgain
namespace Go.Ev
open Go Go.RowKit
variable {T : TypeId → Type} {P : Program} {E : Enc T}

/-- **WHAT THE EVALUATOR SHOWS OF A CALL IS A RUN OF THE PROGRAM.** -/
theorem calls_open {tabs : Tabs} {cs : Cans} {g : Nat} {v : Value} (hm : P.follows .mixedOrders = true) (hN : P.funcs.toList.all (fun f => !(f.name == "runtime.NumGoroutine")) = true)
    (hcs : CansOK P tabs cs) (hB : tabsB P.globals.size tabs = true) (hg : noCan cs g = true) (hv : closedV v = true) {W : World} {h0 h' : H} {ρ0 : Ren} {vargs : List Value} {cargs : Array Value} {rc : RC}
    (hR : Rep P ρ0 W.heap.size W h0 W) (hargs : RL ρ0 vargs cargs.toList) (he : (evW P (Tof P) tabs cs).call (.func (.func g) #[] #[]) vargs .unk h0 = some (.ret v, rc, h')) :
    Calls P g cargs W fun e W' => e = .returned v ∧ Below W.heap.size W W' := by
  obtain ⟨n, hn⟩ := limR_call he
  cases n with
  | zero => cases hn
  | succ n =>
    have hn' : callKn (canOf (Tof P) tabs cs (.func (.func g) #[] #[]) vargs .unk h0) h0 (callA P (evK P (Tof P) tabs cs n) (Tof P) (.func (.func g) #[] #[]) vargs .unk h0) = some (.ret v, rc, h') := hn
    have hk : canOf (Tof P) tabs cs (.func (.func g) #[] #[]) vargs .unk h0 = some none := by
      simp only [canOf, canFind_no hg]
      rfl
    rw [hk] at hn'
    have hrun : callA P (evK P (Tof P) tabs cs n) (Tof P) (.func (.func g) #[] #[]) vargs .unk h0 = some (.ret v, rc, h') := hn'
    have hrec := recOKK hm (tof_ok hN) hcs hB n
    intro cs0
    simp only [callA] at hrun
    split at hrun
    · rename_i fn hTg
      obtain ⟨pf, hpf, hcf, hname⟩ := tof_ok hN g fn hTg
      split at hrun
      · rename_i x a' h1 hev
        obtain ⟨ρ1, w1, cs1, fr, hle, R1, hcs1, hst, hk, hd, hfn, u, hu, hmo, hru⟩ := body_ok hrec hm hpf hcf (kind := .normal) (cs := cs0) (targs := cargs) (by simpa using hargs)
          (show RcOK _ _ _ .unk from trivial) hev hrun hR
        have e := callsTo_unk hcs1
        subst e
        have := closed_eq hv hu
        subst this
        exact ⟨.returned _, w1, fr, ⟨rfl, R1.below⟩, hst, hfn, hmo, hd, hk, pf, by rw [hfn]; exact hpf, hru⟩
      · cases hrun
    · cases hrun

/-! ### What comes in -/
/-- How a value of the world is told. -/
inductive SrcV (E : Enc T) (W : World) : Value → X T → Prop where
  | v (w : Value) (hw : isScal w = true) : SrcV E W w (.v w)
  | nil (e : TypeId) : SrcV E W (.slice none 0 0) (.ro e [])
  | sl (e : TypeId) (l : List (T e)) (B O n c : Nat) (hn : n = l.length) (hm : n ≤ maxLen) (hc : n ≤ c) (hB : B < W.heap.size)
      (h : ∀ (i : Nat) (r : T e), l[i]? = some r → ∀ (j : Nat) (x : X T), (E.enc e r)[j]? = some x → ∃ w, x = .v w ∧ isScal w = true ∧ W.cell? ⟨B, O + (i * E.sz e + j), none⟩ = some w) : SrcV E W (.slice (some ⟨B, O, none⟩) n c) (.ro e l)
  | agg (us : List Value) (xs : List (X T)) (hl : us.length = xs.length) (h : ∀ (i : Nat) (u : Value) (x : X T), us[i]? = some u → xs[i]? = some x → SrcV E W u x) : SrcV E W (.agg ⟨us⟩) (.agg xs)

/-- Where nothing is the call's own yet. -/
structure Seen (P : Program) (N : Nat) (w0 W : World) (ρ : Ren) (h : H) : Prop where
  rep : Rep P ρ N w0 h W
  own : noOwn h
  top : Top h

structure More (ρ : Ren) (h : H) (ρ' : Ren) (h' : H) : Prop where
  le : ρ.le ρ'
  next : h.next ≤ h'.next
  get : ∀ i, i < h.next → h'.get i = h.get i

theorem More.refl (ρ : Ren) (h : H) : More ρ h ρ h := ⟨ρ.le_refl, Nat.le_refl _, fun _ _ => rfl⟩
theorem More.trans {ρ ρ' ρ'' : Ren} {h h' h'' : H} (a : More ρ h ρ' h') (b : More ρ' h' ρ'' h'') : More ρ h ρ'' h'' := ⟨Ren.le_trans a.le b.le, Nat.le_trans a.next b.next, fun i hi => (b.get i (Nat.lt_of_lt_of_le hi a.next)).trans (a.get i hi)⟩

theorem More.mv {ρ ρ' : Ren} {h h' : H} (m : More ρ h ρ' h') : Mv h h' (fun _ => False) (fun _ => False) (fun _ => none) (fun _ => none) := ⟨m.next, fun b hb _ => m.get b hb, fun _ _ x => x, fun _ _ _ h => by cases h⟩

def xval : X T → Value
  | .v w => w
  | _ => undef

theorem flatten_get {sz : Nat} {u : Value} : ∀ {rows : List (List Value)} {j : Nat}, (∀ r ∈ rows, r.length = sz) → rows.flatten[j]? = some u → ∃ i r k, rows[i]? = some r ∧ r[k]? = some u ∧ j = i * sz + k
  | [], j, _, h => by simp at h
  | r :: rs, j, ha, h => by
    have hr := ha r (List.mem_cons_self ..)
    rw [List.flatten_cons] at h
    rcases Nat.lt_or_ge j r.length with hj | hj
    · rw [List.getElem?_append_left hj] at h
      exact ⟨0, r, j, rfl, h, by omega⟩
    · rw [List.getElem?_append_right hj] at h
      obtain ⟨i, r', k, h1, h2, h3⟩ := flatten_get (fun x hx => ha x (List.mem_cons_of_mem _ hx)) h
      exact ⟨i + 1, r', k, by simpa using h1, h2, by rw [Nat.add_mul]; omega⟩

theorem see (hE : EncOK E) {W w0 : World} {N : Nat} {u : Value} {x : X T} (s : SrcV E W u x) : ∀ {ρ : Ren} {h : H}, Seen P N w0 W ρ h →
    ∃ ρ' h' v, Seen P N w0 W ρ' h' ∧ More ρ h ρ' h' ∧ Rv ρ' v u ∧ D E h' (fun _ => False) (fun _ => none) x v := by
  induction s with
  | v w hw => exact fun {ρ h} S => ⟨ρ, h, w, S, .refl _ _, scal_self hw, .v w⟩
  | nil e =>
    refine fun {ρ h} S => ⟨ρ, h, .slice none 0 0, S, .refl _ _, .nils 0 0, .ro e [] ⟨none, 0, 0⟩ [] ⟨rfl, by simp, fun h => by simp at h⟩ rfl (Nat.zero_le _) (.inl rfl) (fun _ _ h => by cases h) fun i a r h => by simp at h⟩
  | sl e l B O n c hn hm hc hB hcell =>
    intro ρ h S
    have hlen : ∀ r ∈ (l.map fun r => (E.enc e r).map xval), r.length = E.sz e := fun r hr => by
      obtain ⟨a, _, rfl⟩ := List.mem_map.1 hr
      rw [List.length_map]; exact hE.len e a
    have hall : ((l.map fun r => (E.enc e r).map xval).flatten.all isScal) = true := by
      rw [List.all_eq_true]
      intro w hw
      obtain ⟨row, h1, h2⟩ := List.mem_flatten.1 hw
      obtain ⟨i, hi, rfl⟩ := List.getElem_of_mem h1
      obtain ⟨j, hj, rfl⟩ := List.getElem_of_mem h2
      have hil : i < l.length := by simpa using hi
      simp only [List.getElem_map, List.length_map] at hj ⊢
      obtain ⟨w, hw, hs, _⟩ := hcell i _ (List.getElem?_eq_getElem hil) j _ (List.getElem?_eq_getElem hj)
      rw [hw]; exact hs
    have hget : ∀ j u, (l.map fun r => (E.enc e r).map xval).flatten[j]? = some u → W.cell? ⟨B, O + j, none⟩ = some u := fun j u hj => by
      obtain ⟨i, r, k, h1, h2, rfl⟩ := flatten_get hlen hj
      rw [List.getElem?_map, Option.map_eq_some_iff] at h1
      obtain ⟨a, ha, rfl⟩ := h1
      rw [List.getElem?_map, Option.map_eq_some_iff] at h2
      obtain ⟨x, hx, rfl⟩ := h2
      obtain ⟨w, rfl, _, hw⟩ := hcell i a ha k x hx
      exact hw
    have R1 := S.rep.see S.own (l.map fun r => (E.enc e r).map xval).flatten ⟨B, O, none⟩ c rfl hB (list_self scal_self hall) hget
    have hle := Ren.le_upd (⟨B, O, none⟩, c) (S.rep.fresh h.next (Nat.le_refl _))
    have hmore : More ρ h (ρ.upd h.next (⟨B, O, none⟩, c)) (h.alloc (.ro (l.map fun r => (E.enc e r).map xval).flatten)) := ⟨hle, by rw [H.next_alloc]; omega, fun i hi => H.get_alloc_ne h _ (by omega)⟩
    refine ⟨_, _, .slice (some ⟨h.next, 0, none⟩) n 0, ⟨R1, S.own.ro _, S.top.alloc _⟩, hmore, ?_, ?_⟩
    · have := Rv.slice0 (ρ := ρ.upd h.next (⟨B, O, none⟩, c)) h.next 0 n B O c (Ren.upd_same _ _ _) hc
      simpa using this
    · refine .ro e l ⟨some ⟨h.next, 0, none⟩, n, 0⟩ (l.map fun r => (E.enc e r).map xval) ⟨by simp [hn], hlen, fun _ => ⟨h.next, 0, _, rfl, ⟨by rw [H.next_alloc]; omega, _, H.get_alloc_same h _, rfl⟩, ?_, fun i r hi => ?_⟩⟩ (by simp) (by rw [← hn]; exact hm) (.inr ⟨_, _, rfl⟩) (fun _ _ _ _ h => h) fun i a r hi hr j x w hx hw => ?_
      · rw [Nat.zero_add, flatten_len hlen]; exact Nat.le_refl _
      · rw [Nat.zero_add]; exact flatten_row hlen hi
      · rw [List.getElem?_map, hi] at hr
        cases hr
        rw [List.getElem?_map, hx] at hw
        cases hw
        obtain ⟨w, rfl, _, _⟩ := hcell i a hi j x hx
        exact .v w
  | agg us xs hl hh ih =>
    intro ρ h S
    have key : ∀ (us : List Value) (xs : List (X T)) {ρ : Ren} {h : H}, Seen P N w0 W ρ h → us.length = xs.length → (∀ (i : Nat) (u : Value) (x : X T), us[i]? = some u → xs[i]? = some x → ∀ {ρ : Ren} {h : H}, Seen P N w0 W ρ h → ∃ ρ' h' v, Seen P N w0 W ρ' h' ∧ More ρ h ρ' h' ∧ Rv ρ' v u ∧ D E h' (fun _ => False) (fun _ => none) x v) →
        ∃ ρ' h' vs, Seen P N w0 W ρ' h' ∧ More ρ h ρ' h' ∧ RL ρ' vs us ∧ DL E h' (fun _ => False) (fun _ => none) xs vs := by
      intro us
      induction us with
      | nil =>
        intro xs ρ h S hl _
        cases xs with
        | nil => exact ⟨ρ, h, [], S, .refl _ _, .nil, DL.nil⟩
        | cons => simp at hl
      | cons u us ih2 =>
        intro xs ρ h S hl hs
        cases xs with
        | nil => simp at hl
        | cons x xs =>
          obtain ⟨ρ1, h1, v, S1, m1, r1, d1⟩ := hs 0 u x rfl rfl S
          obtain ⟨ρ2, h2, vs, S2, m2, r2, d2⟩ := ih2 xs S1 (by simpa using hl) fun i u x hu hx => hs (i + 1) u x (by simpa using hu) (by simpa using hx)
          exact ⟨ρ2, h2, v :: vs, S2, m1.trans m2, .cons (r1.mono m2.le) r2, DL.cons (d1.mv m2.mv) d2⟩
    obtain ⟨ρ', h', vs, S', m, r, d⟩ := key us xs S hl ih
    exact ⟨ρ', h', .agg ⟨vs⟩, S', m, .agg _ _ r, .agg _ _ d.1 d.2⟩

end Go.Ev

namespace Go.Ev
open Go Go.RowKit
variable {T : TypeId → Type} {P : Program} {E : Enc T} {H' : Type} {enc : TypeId × Value → H'} {W : World}

/-- The kinds of cells. -/
inductive SK where
  | bool
  | str
  | int (k : IntKind)
  | sl (e : TypeId)

def repS {α : Type} (a : List α) : Nat → List α
  | 0 => []
  | n + 1 => a ++ repS a n

def shFs (P : Program) (r : TypeId → Option (List SK)) : Nat → List Field → Option (List SK)
  | _, [] => some []
  | o, f :: fs => (match Nat.beq f.offset o, r f.type, shFs P r (o + P.cellsOf f.type) fs with
    | true, some a, some b => (match Nat.beq a.length (P.cellsOf f.type) with | true => some (a ++ b) | false => none)
    | _, _, _ => none)

def shK (P : Program) : Nat → TypeId → Option (List SK)
  | 0, _ => none
  | n + 1, t => match P.underlying t with
    | some .bool => some [.bool]
    | some (.int k) => some [.int k]
    | some .string => some [.str]
    | some (.slice e) => some [.sl e]
    | some (.struct fs) => (match shFs P (shK P n) 0 fs.toList with
      | some l => (match Nat.beq l.length (P.cellsOf t) with | true => some l | false => none)
      | none => none)
    | some (.array m e) => (match shK P n e with
      | some a => (match Nat.beq a.length (P.cellsOf e) && Nat.beq (P.cellsOf t) (m * P.cellsOf e) with | true => some (repS a m) | false => none)
      | none => none)
    | _ => none

def CellK (enc : TypeId × Value → H') (P : Program) (W : World) : SK → Value → Prop
  | .bool, v => ∃ b, v = .bool b
  | .int k, v => ∃ n, v = .int k n ∧ (Lit.int k n).wf = true
  | .str, v => ∃ s : ByteArray, v = .string s ∧ s.size ≤ maxLen
  | .sl e, v => v = .slice none 0 0 ∨ ∃ a n c, v = .slice (some a) n c ∧ n ≤ c ∧ c ≤ maxLen ∧ ∀ i, i < n → ∃ F cs x, W.cells? 0 (a.add (i * P.cellsOf e)) (P.cellsOf e) = some cs ∧ DataW.trod enc P W 0 (fun _ => true) true F e cs = some x

def CellsK (enc : TypeId × Value → H') (P : Program) (W : World) (ks : List SK) (cs : List Value) : Prop := ks.length = cs.length ∧ ∀ (j : Nat) (k : SK) (v : Value), ks[j]? = some k → cs[j]? = some v → CellK enc P W k v

theorem CellsK.one {k : SK} {v : Value} (h : CellK enc P W k v) : CellsK enc P W [k] [v] := ⟨rfl, fun j k' v' h1 h2 => by
  cases j with
  | zero => cases h1; cases h2; exact h
  | succ j => simp at h1⟩

theorem CellsK.append {a b : List SK} {c d : List Value} (h : CellsK enc P W a c) (k : CellsK enc P W b d) : CellsK enc P W (a ++ b) (c ++ d) := by
  refine ⟨by simp [h.1, k.1], fun j x v h1 h2 => ?_⟩
  rcases Nat.lt_or_ge j a.length with hj | hj
  · rw [List.getElem?_append_left hj] at h1
    rw [List.getElem?_append_left (by rw [← h.1]; exact hj)] at h2
    exact h.2 j x v h1 h2
  · rw [List.getElem?_append_right hj] at h1
    rw [List.getElem?_append_right (by rw [← h.1]; exact hj), ← h.1] at h2
    exact k.2 _ x v h1 h2

theorem take_drop_split {α : Type} (cs : List α) (o n : Nat) : (cs.drop o).take n ++ cs.drop (o + n) = cs.drop o := by
  rw [← List.drop_drop]; exact List.take_append_drop _ _

theorem shFs_ok {r : TypeId → Option (List SK)} {tr : TypeId → List Value → Prop} (hr : ∀ t ks cs, r t = some ks → tr t cs → CellsK enc P W ks cs) {cs : List Value} : ∀ {fs : List Field} {o : Nat} {l : List SK}, shFs P r o fs = some l →
    (∀ f ∈ fs, tr f.type ((cs.drop f.offset).take (P.cellsOf f.type))) → o + l.length = cs.length → CellsK enc P W l (cs.drop o)
  | [], o, l, h, _, hl => by
    cases h
    have : cs.drop o = [] := List.drop_eq_nil_of_le (by simp at hl; omega)
    rw [this]
    exact ⟨rfl, fun j k v h => by simp at h⟩
  | f :: fs, o, l, h, hf, hl => by
    simp only [shFs] at h
    split at h
    · rename_i a b h0 h1 h2
      split at h
      · rename_i h3
        cases h
        have h0 := Nat.eq_of_beq_eq_true h0
        have h3 := Nat.eq_of_beq_eq_true h3
        have k1 := hr _ _ _ h1 (hf f (List.mem_cons_self ..))
        rw [List.length_append] at hl
        have k2 := shFs_ok hr (fs := fs) (cs := cs) h2 (fun g hg => hf g (List.mem_cons_of_mem _ hg)) (by rw [← h3]; omega)
        rw [← take_drop_split cs o (P.cellsOf f.type), ← h0]
        rw [← h0] at k2
        exact k1.append k2
      · cases h
    · cases h

theorem rep_ok {a : List SK} {sz : Nat} (ha : a.length = sz) : ∀ {m : Nat} {cs : List Value}, cs.length = m * sz → (∀ i, i < m → CellsK enc P W a ((cs.drop (i * sz)).take sz)) → CellsK enc P W (repS a m) cs
  | 0, cs, hl, _ => by
    have : cs = [] := List.length_eq_zero_iff.1 (by omega)
    subst this
    exact ⟨rfl, fun j k v h => by simp [repS] at h⟩
  | m + 1, cs, hl, h => by
    have k1 := h 0 (Nat.succ_pos _)
    rw [Nat.zero_mul, List.drop_zero] at k1
    have k2 := rep_ok ha (m := m) (cs := cs.drop sz) (by rw [List.length_drop, hl, Nat.add_mul]; omega) fun i hi => by
      have := h (i + 1) (by omega)
      rw [Nat.add_mul, Nat.one_mul, Nat.add_comm, ← List.drop_drop] at this
      exact this
    have := k1.append k2
    rw [List.take_append_drop] at this
    exact this

/-- **THE CELLS OF WHAT IS READ.** -/
theorem trod_shape : ∀ (n F : Nat) (t : TypeId) (ks : List SK) (cs : List Value) (x : DataW H' × List MemPlace), shK P n t = some ks → DataW.trod enc P W 0 (fun _ => true) true F t cs = some x → CellsK enc P W ks cs
  | 0, _, _, _, _, _, h, _ => by cases h
  | n + 1, F, t, ks, cs, x, h, ht => by
    simp only [shK] at h
    split at h
    · rename_i hu
      cases h
      obtain ⟨b, rfl, _⟩ := DataW.trod_bool hu ht
      exact .one ⟨b, rfl⟩
    · rename_i k hu
      cases h
      obtain ⟨m, rfl, _, hw⟩ := DataW.trod_int hu ht
      exact .one ⟨m, rfl, hw⟩
    · rename_i hu
      cases h
      obtain ⟨s, rfl, _, hs⟩ := DataW.trod_string hu ht
      exact .one ⟨s, rfl, hs⟩
    · rename_i e hu
      cases h
      rcases DataW.trod_slice hu ht with ⟨rfl, _⟩ | ⟨a, len, cap, elems, rest, m, _, rfl, _, _, h1, h2, h3, h4, _⟩
      · exact .one (.inl rfl)
      · refine .one (.inr ⟨a, len, cap, rfl, h1, h2, fun i hi => ?_⟩)
        have := h4 i hi
        rw [List.getElem?_eq_getElem (by omega), Option.bind_eq_some_iff] at this
        obtain ⟨c, g1, g2⟩ := this
        exact ⟨m, c, _, g1, g2⟩
    · rename_i fs hu
      split at h
      · rename_i l hl
        split at h
        · rename_i hlen
          cases h
          have hlen := Nat.eq_of_beq_eq_true hlen
          obtain ⟨xs, m, _, _, hcs, hxs, hf⟩ := DataW.trod_struct hu ht
          have := shFs_ok (tr := fun t cs => ∃ x, DataW.trod enc P W 0 (fun _ => true) true m t cs = some x) (fun t ks cs h1 ⟨x, h2⟩ => trod_shape n m t ks cs x h1 h2) (cs := cs) hl (fun f hfm => by
            obtain ⟨i, hi, e⟩ := List.getElem_of_mem hfm
            have hi' : i < fs.size := by simpa using hi
            have h1 : fs[i]? = some f := by rw [← Array.getElem?_toList, List.getElem?_eq_getElem hi, e]
            have := hf i f h1
            rw [List.getElem?_eq_getElem (by omega)] at this
            exact ⟨_, this⟩) (by omega)
          rwa [List.drop_zero] at this
        · cases h
      · cases h
    · rename_i m e hu
      split at h
      · rename_i a ha
        split at h
        · rename_i hb
          cases h
          simp only [Bool.and_eq_true] at hb
          have h1 := Nat.eq_of_beq_eq_true hb.1
          have h2 := Nat.eq_of_beq_eq_true hb.2
          obtain ⟨xs, k, _, _, hcs, hxs, hf⟩ := DataW.trod_array hu ht
          refine rep_ok (m := m) h1 (by omega) fun i hi => ?_
          have := hf i hi
          rw [List.getElem?_eq_getElem (by omega)] at this
          exact trod_shape n k e a _ _ ha this
        · cases h
      · cases h
    · cases h

/-! ### Slices -/
theorem ok_slice {r : Reach} {base : Nat} {u : TypeId} {a : Addr} {n c : Nat} (h : Cell.okWide P W r base u (.slice (some a) n c)) : a.spot = none ∧ a.block < W.heap.size := by
  unfold Cell.okWide Cell.ok at h
  cases hu : P.underlying u with
  | none => rw [hu] at h; exact h.elim
  | some d =>
    rw [hu] at h
    cases d
    case slice e =>
      obtain ⟨_, _, _, hs, row, cells, hsh, _⟩ := h
      refine ⟨hs, ?_⟩
      rcases Nat.lt_or_ge a.block W.heap.size with h | h
      · exact h
      · have hn : W.heap[a.block]? = none := Array.getElem?_eq_none_iff.2 h
        simp [World.shape?, hn] at hsh
    all_goals exact h.elim

theorem exists_list {α : Type} {Q : Nat → α → Prop} : ∀ {n : Nat}, (∀ i, i < n → ∃ r, Q i r) → ∃ l : List α, l.length = n ∧ ∀ i r, l[i]? = some r → Q i r
  | 0, _ => ⟨[], rfl, fun i r h => by simp at h⟩
  | n + 1, h => by
    obtain ⟨l, h1, h2⟩ := exists_list (n := n) fun i hi => h i (by omega)
    obtain ⟨r, hr⟩ := h n (by omega)
    refine ⟨l ++ [r], by simp [h1], fun i r' hi => ?_⟩
    rcases Nat.lt_or_ge i l.length with hlt | hge
    · rw [List.getElem?_append_left hlt] at hi; exact h2 i r' hi
    · rw [List.getElem?_append_right hge] at hi
      have : i - l.length = 0 := by
        rcases Nat.eq_zero_or_pos (i - l.length) with h | h
        · exact h
        · rw [List.getElem?_eq_none (by simp; omega)] at hi; cases hi
      rw [this] at hi
      cases hi
      have e : i = n := by omega
      subst e; exact hr

theorem mapM_get {α β : Type} {f : α → Option β} : ∀ {l : List α} {r : List β} {j : Nat} {y : β}, l.mapM f = some r → r[j]? = some y → ∃ x, l[j]? = some x ∧ f x = some y
  | [], r, j, y, h, hj => by
    simp only [List.mapM_nil, Option.pure_def, Option.some.injEq] at h
    subst h; simp at hj
  | x :: l, r, j, y, h, hj => by
    simp only [List.mapM_cons, Option.bind_eq_bind, Option.bind_eq_some_iff, Option.pure_def, Option.some.injEq] at h
    obtain ⟨z, h1, zs, h2, rfl⟩ := h
    cases j with
    | zero => cases hj; exact ⟨x, rfl, h1⟩
    | succ j =>
      obtain ⟨x', k1, k2⟩ := mapM_get h2 (by simpa using hj)
      exact ⟨x', by simpa using k1, k2⟩

theorem cells?_at {b n : Nat} {a : Addr} {cs : List Value} (h : W.cells? b a n = some cs) {j : Nat} {w : Value} (hj : cs[j]? = some w) : W.cell? (a.add j) = some w := by
  unfold World.cells? at h
  split at h
  · obtain ⟨i, h1, h2⟩ := mapM_get h hj
    have hlt := (List.getElem?_eq_some_iff.1 h1).1
    rw [List.length_range] at hlt
    rw [List.getElem?_range hlt] at h1
    cases h1
    exact h2
  · cases h

theorem addr_add (B O j : Nat) : (⟨B, O, none⟩ : Addr).add j = ⟨B, O + j, none⟩ := by
  by_cases h : j = 0
  · subst h; simp [Addr.add]
  · simp [Addr.add, h]

/-- A slice that comes in. -/
theorem src_sl {e : TypeId} {ks : List SK} (hsz : E.sz e = P.cellsOf e) (n : Nat) (hk : shK P n e = some ks) (hdec : ∀ cs, CellsK enc P W ks cs → ∃ r : T e, E.enc e r = cs.map .v ∧ cs.all isScal = true) {v : Value}
    (hv : CellK enc P W (.sl e) v) (hok : ∀ a n c, v = .slice (some a) n c → a.spot = none ∧ a.block < W.heap.size) : ∃ l : List (T e), SrcV E W v (.ro e l) := by
  rcases hv with rfl | ⟨a, m, c, rfl, hmc, hcm, hi⟩
  · exact ⟨[], .nil e⟩
  · obtain ⟨hs, hB⟩ := hok a m c rfl
    obtain ⟨B, O, sp⟩ := a
    simp only at hs hB
    subst hs
    obtain ⟨l, h1, h2⟩ := exists_list (Q := fun i (r : T e) => ∀ (j : Nat) (x : X T), (E.enc e r)[j]? = some x → ∃ w, x = .v w ∧ isScal w = true ∧ W.cell? ⟨B, O + (i * E.sz e + j), none⟩ = some w) (n := m) fun i hlt => by
      obtain ⟨F, cs, x, g1, g2⟩ := hi i hlt
      obtain ⟨r, k1, k2⟩ := hdec cs (trod_shape n F e ks cs x hk g2)
      refine ⟨r, fun j x hj => ?_⟩
      rw [k1, List.getElem?_map, Option.map_eq_some_iff] at hj
      obtain ⟨w, hw, rfl⟩ := hj
      refine ⟨w, rfl, List.all_eq_true.1 k2 w (List.mem_of_getElem? hw), ?_⟩
      have := cells?_at g1 hw
      rw [hsz, ← Nat.add_assoc]
      rw [addr_add, addr_add] at this
      exact this
    exact ⟨l, .sl e l B O m c h1.symm (Nat.le_trans hmc hcm) hmc hB h2⟩

/-- The slices among the cells of an argument. -/
theorem okWide_cells {base : Nat} {t : TypeId} {cs : Array Value} (h : Row.okWide P W .any base t cs) : ∀ v ∈ cs.toList, ∀ a n c, v = .slice (some a) n c → a.spot = none ∧ a.block < W.heap.size := by
  intro v hv a n c e
  obtain ⟨ts, _, _, hc⟩ := h
  obtain ⟨i, hi, e2⟩ := List.getElem_of_mem hv
  obtain ⟨u, _, hu⟩ := hc i v (by rw [← Array.getElem?_toList, List.getElem?_eq_getElem hi, e2])
  subst e
  exact ok_slice hu

/-! ### The start of a call -/
theorem hstart_tab {n : Nat} : ∀ {tabs : Tabs} {p : Nat × List Value}, (tabs.map (·.1)).Nodup → p ∈ tabs → (hstart n tabs).get p.1 = some (.ro p.2)
  | q :: r, p, hn, hp => by
    simp only [hstart]
    simp only [List.map_cons, List.nodup_cons] at hn
    rcases List.mem_cons.1 hp with rfl | hp
    · exact H.get_set_same _ _ _
    · rw [H.get_set_ne _ _ fun e => hn.1 (by rw [e]; exact List.mem_map_of_mem hp)]
      exact hstart_tab hn.2 hp

theorem hstart_top {n : Nat} : ∀ {tabs : Tabs}, (∀ p ∈ tabs, p.1 < n) → Top (hstart n tabs)
  | [], _ => fun i _ => Trie.get_leaf _
  | p :: r, h => by
    have ih := hstart_top (n := n) (tabs := r) fun q hq => h q (List.mem_cons_of_mem _ hq)
    exact ih.set (by rw [hstart_next]; exact h p (List.mem_cons_self ..)) _

/-- What is known of the tables. -/
structure TabE (E : Enc T) (P : Program) (tabs : Tabs) : Prop where
  ok : tabsB P.globals.size tabs = true
  nodup : (tabs.map (·.1)).Nodup
  glob : ∀ g cs, E.glob g = some cs → ∃ vs, (g, vs) ∈ tabs ∧ cs = vs.map .v
  all : ∀ p ∈ tabs, E.glob p.1 = some (p.2.map .v)

theorem DL.consts {h : H} {O : Nat → Prop} {ρ : Loc} : ∀ (vs : List Value), DL E h O ρ (vs.map .v) vs
  | [] => DL.nil
  | v :: vs => DL.cons (.v v) (DL.consts vs)

theorem DL.consts_eq {h : H} {O : Nat → Prop} {ρ : Loc} : ∀ {vs us : List Value}, DL E h O ρ (vs.map .v) us → us = vs
  | [], us, d => List.length_eq_zero_iff.1 d.1.symm
  | v :: vs, us, d => by
    obtain ⟨w, ws, rfl, d1, d2⟩ := DL.uncons (x := .v v) (l := vs.map .v) d
    rw [v_D d1, DL.consts_eq d2]

theorem seen_start {tabs : Tabs} (t : TabE E P tabs) (hW : TabsIn W tabs) : Seen P W.heap.size W W (ρstart P.globals.size) (hstart P.globals.size tabs) :=
  ⟨rep_start t.ok hW, noOwn_hstart _ _, hstart_top fun _p hp => (tabsB_mem t.ok hp).2.2⟩

theorem inv_start {tabs : Tabs} (t : TabE E P tabs) {ρ : Ren} {h : H} (S : Seen P W.heap.size W W ρ h) (m : More (ρstart P.globals.size) (hstart P.globals.size tabs) ρ h) : Inv0 E (fun _ => False) (fun _ => none) (ecOf ([] : List (Ob T))) h := by
  refine ⟨S.top, fun _ _ => rfl, Nat.succ_pos _, fun _ _ _ h => (by cases h), fun _ h => h.elim, fun b hb => ?_, fun i j s s' o o' q q' n n' b f f' h1 => (by cases h1), fun id s o hf => (by cases hf), fun g cs hg => ?_⟩
  · obtain ⟨k, s, o, q, n, off, hf, _⟩ := hb
    cases hf
  · obtain ⟨vs, hm, rfl⟩ := t.glob g cs hg
    have hlt := (tabsB_mem t.ok hm).2.2
    refine ⟨fun hc => ?_, vs, ⟨?_, ?_⟩, DL.consts vs⟩
    · rcases hc with hc | hc
      · exact hc
      · obtain ⟨k, s, o, q, n, off, hf, _⟩ := hc
        cases hf
    · have := m.next; rw [hstart_next] at this; exact Nat.lt_of_lt_of_le hlt this
    · rw [m.get g (by rw [hstart_next]; exact hlt)]; exact hstart_tab t.nodup hm

/-- The invariant behind a call that hands back nothing of its own. -/
theorem inv_out0 {B : Nat → Prop} {ρ : Loc} {h : H} (I : Inv0 E B ρ (ecOf ([] : List (Ob T))) h) : Inv0 E B ρ (ecOut ([] : List (Ob T)) [] []) h :=
  ⟨I.top, fun id hid => I.dom id (Nat.le_of_succ_le hid), Nat.succ_pos _, fun id q n hq => Nat.lt_succ_of_lt (I.vers id q n hq), I.base, I.notB, I.dist, fun id s o hf => (by cases hf), I.glob⟩

/-- **A known call.** -/
theorem ctr_known {tabs : Tabs} {cs : Cans} {Tf : Nat → Option AFn} (t : TabE E P tabs) {g : Nat} {xs : List Value} {v : Value} (hT : (Tf g).isSome = true) (hf : ∀ h, canFind h cs g xs = some (some v)) (hgood : tabs.all (fun p => p.2.all goodV) = true) :
    Ctr E (evW P Tf tabs cs) (.fn g [] []) [] (xs.map .v) (.v v) [] [] := by
  intro h B ρ vf vs I _ df da
  have e := DL.consts_eq da
  subst e
  cases df with
  | fn _ _ _ va vb ha hb _ _ =>
    have hva : va = [] := List.length_eq_zero_iff.1 ha.symm
    have hvb : vb = [] := List.length_eq_zero_iff.1 hb.symm
    subst hva hvb
    have ht : tabsAt tabs h = true := by
      unfold tabsAt
      rw [List.all_eq_true]
      intro p hp
      obtain ⟨_, us, l, d⟩ := I.glob p.1 _ (t.all p hp)
      have := DL.consts_eq d
      subst this
      rw [l.ro]
      exact goodV_eqs (List.all_eq_true.1 hgood p hp)
    have hk : canOf Tf tabs cs (.func (.func g) ⟨[]⟩ ⟨[]⟩) vs .unk h = some (some v) := by
      simp only [canOf, hf h, hT, ht]
      rfl
    exact ⟨v, .unk, h, ρ, evW_known hk, inv_out0 I, .v v, Nat.le_refl _, fun _ _ _ => rfl, fun _ _ h => h, fun k q m hk => absurd hk (Nat.not_lt_zero _)⟩

/-- **A FUNCTION'S CONTRACT, AS A RUN OF THE PROGRAM.** -/
theorem run_open (hE : EncOK E) {tabs : Tabs} {cs : Cans} (t : TabE E P tabs) (hm : P.follows .mixedOrders = true) (hN : P.funcs.toList.all (fun f => !(f.name == "runtime.NumGoroutine")) = true) (hcs : CansOK P tabs cs) {g : Nat} (hg : noCan cs g = true)
    {xs : List (X T)} {v : Value} (hv : closedV v = true) (hc : Ctr E (evW P (Tof P) tabs cs) (.fn g [] []) [] xs (.v v) [] []) (hW : TabsIn W tabs) {args : Array Value} (hs : SrcV E W (.agg args) (.agg xs)) :
    Calls P g args W fun e W' => e = .returned v ∧ Below W.heap.size W W' := by
  obtain ⟨ρ, h, u, S, m, hr, d⟩ := see (P := P) (N := W.heap.size) (w0 := W) hE hs (seen_start t hW)
  cases d with
  | agg _ vs hl hd =>
    have hO : ∀ b, OwnS (fun _ => False) (fun _ => none) (ecOf ([] : List (Ob T))).env b → False := fun b hb => by
      rcases hb with hb | hb
      · exact hb
      · obtain ⟨k, s, o, q, n, off, hf, _⟩ := hb
        cases hf
    have dl : DL E h (OwnS (fun _ => False) (fun _ => none) (ecOf ([] : List (Ob T))).env) (fun _ => none) xs vs := DL.sub hO ⟨hl, hd⟩
    obtain ⟨v', rc, h', ρ', k1, _, k3, _⟩ := hc h _ _ (.func (.func g) #[] #[]) vs (inv_start t S m) (fun _ _ => rfl) (.fn g [] [] [] [] rfl rfl (fun j x w h => by simp at h) (fun j x w h => by simp at h)) dl
    have := v_D k3
    subst this
    cases hr with
    | agg _ _ hrl => exact calls_open hm hN hcs t.ok hg hv S.rep hrl k1

end Go.Ev
