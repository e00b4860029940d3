/- Symbolic values: calls, regions, loops. -/
import Derived.Test.YtcajalekkffcjaaDoorXA
import Derived.Test.YtcajalekkffcjaaDoorEvD
namespace Go.Ev
open Go
variable {T : TypeId → Type} {P : Program} {E : Enc T} {W : Rec} {B B' : Nat → Prop} {ρ ρ' ρ'' : Loc} {ec ec' ec'' : EC T} {h h' h'' : H} {O O' : Nat → Prop}

/-! ### What is handed in -/
/-- The block of one's own memory. -/
def blkOf (ρ : Loc) (env : Env T) (id b : Nat) : Prop := ∃ s o q n off, fnd env id = some (s, o) ∧ o.own = true ∧ ρ id = some (q, n) ∧ q.p = some ⟨b, off, none⟩

theorem ownB_iff {b : Nat} : ownB ρ ec.env b ↔ ∃ id, blkOf ρ ec.env id b :=
  ⟨fun ⟨id, s, o, q, n, off, h⟩ => ⟨id, s, o, q, n, off, h⟩, fun ⟨id, s, o, q, n, off, h⟩ => ⟨id, s, o, q, n, off, h⟩⟩

theorem Inv0.blk_inj (I : Inv0 E B ρ ec h) {i j b : Nat} (h1 : blkOf ρ ec.env i b) (h2 : blkOf ρ ec.env j b) : i = j := by
  obtain ⟨s, o, q, n, off, a1, a2, a3, a4⟩ := h1
  obtain ⟨s', o', q', n', off', b1, b2, b3, b4⟩ := h2
  exact I.dist i j s s' o o' q q' n n' b off off' a1 b1 a2 b2 a3 b3 a4 b4

/-- What is not handed in, and not seen. -/
def BC (B : Nat → Prop) (ρ : Loc) (env : Env T) (L V : List Nat) (b : Nat) : Prop := B b ∨ ∃ id, id ∉ L ∧ id ∉ V ∧ blkOf ρ env id b

def ρC (ρ : Loc) (L : List Nat) (k : Nat) : Option (SV × Nat) := match L[k]? with
  | some id => (match ρ id with | some (q, n) => some (q, if n = 0 then 0 else 1) | none => none)
  | none => none

theorem fnd_ecOf {l : List (Ob T)} {k : Nat} : fnd (ecOf l).env k = (l[k]?).map fun o => (0, o) := by
  show fnd (envAt 0 l) k = _
  rw [fnd_envAt, if_pos (Nat.zero_le _), Nat.sub_zero]

theorem fnd_ecOut {l : List (Ob T)} {out : List (Ch T)} {new : List (Ob T)} {k : Nat} : fnd (ecOut l out new).env k = if k < l.length then (match l[k]?, chAt out k with
    | some o, .same => some (0, o)
    | some _, .chg o' => some (0, o')
    | _, _ => none) else (new[k - l.length]?).map fun o => (0, o) := by
  show fnd (envOut 0 l out ++ envAt l.length new) k = _
  rw [fnd_append, fnd_envOut, fnd_envAt, if_pos (Nat.zero_le _), Nat.sub_zero]
  by_cases hk : k < l.length
  · rw [if_pos hk, if_neg (by omega), List.getElem?_eq_getElem hk]
    cases chAt out k <;> rfl
  · rw [if_neg hk, if_pos (by omega), List.getElem?_eq_none (by omega)]

theorem ver_own {o : Ob T} {mi : Nat → Option Nat} {mo : Nat → Nat → X T} {n : Nat} : ((o.ren mi mo).ver n).own = o.own := by cases o <;> rfl
theorem OOk.vn_pos {id : Nat} {o : Ob T} (ho : OOk E h O ρ id o) : (o.vn = 0 ∧ ∀ mi mo n, ((o.ren mi mo).ver n).vn = 0) ∨ (0 < o.vn ∧ ∀ mi mo n, ((o.ren mi mo).ver n).vn = n) := by
  cases o with
  | box cs => exact .inl ⟨rfl, fun _ _ _ => rfl⟩
  | os v e l => obtain ⟨q, rows, h1, h0, _⟩ := ho; exact .inr ⟨h0, fun _ _ _ => rfl⟩
  | mp es => exact .inl ⟨rfl, fun _ _ _ => rfl⟩
  | fz v e l => obtain ⟨q, h1, h0, _⟩ := ho; exact .inr ⟨h0, fun _ _ _ => rfl⟩

section
variable (hE : EncOK E) (I : Inv0 E B ρ ec h) {L V : List Nat} (hL : L.Nodup) (hLV : ∀ i ∈ V, i ∉ L) {Ein : List (Ob T)} (hin : inO ec L L = some Ein)
include I hL hin

theorem ρC_of {k id : Nat} (hk : L[k]? = some id) : ∃ o q, ec.get id = some o ∧ Ein[k]? = some ((o.ren (fun i => idxN L i 0) (inM ec L)).ver 1) ∧ ρ id = some (q, o.vn) ∧ ρC ρ L k = some (q, ((o.ren (fun i => idxN L i 0) (inM ec L)).ver 1).vn) := by
  have _ := hL
  obtain ⟨o, h1, h2⟩ := (inO_spec hin).2 k id hk
  obtain ⟨s, hf⟩ := get_fnd h1
  obtain ⟨q, hq⟩ := OOk.loc (I.obj id s o hf).2
  refine ⟨o, q, h1, h2, hq, ?_⟩
  simp only [ρC, hk, hq]
  rcases OOk.vn_pos (I.obj id s o hf).2 with ⟨e1, e2⟩ | ⟨e1, e2⟩
  · rw [if_pos e1, e2]
  · rw [if_neg (by omega), e2]

theorem blkC_iff {k b : Nat} : blkOf (ρC ρ L) (ecOf Ein).env k b ↔ ∃ id, L[k]? = some id ∧ blkOf ρ ec.env id b := by
  constructor
  · rintro ⟨s, o, q, n, off, h1, h2, h3, h4⟩
    rw [fnd_ecOf, Option.map_eq_some_iff] at h1
    obtain ⟨o', h1, e⟩ := h1
    cases e
    have hk : k < L.length := by rw [← (inO_spec hin).1]; exact (List.getElem?_eq_some_iff.1 h1).1
    obtain ⟨o1, q1, g1, g2, g3, g4⟩ := ρC_of I hL hin (List.getElem?_eq_getElem hk)
    rw [g2] at h1; cases h1
    rw [g4] at h3; cases h3
    obtain ⟨s1, hf⟩ := get_fnd g1
    rw [ver_own] at h2
    exact ⟨_, List.getElem?_eq_getElem hk, s1, o1, _, _, off, hf, h2, g3, h4⟩
  · rintro ⟨id, hk, s, o, q, n, off, h1, h2, h3, h4⟩
    obtain ⟨o1, q1, g1, g2, g3, g4⟩ := ρC_of I hL hin hk
    obtain ⟨s1, hf⟩ := get_fnd g1
    rw [h1] at hf; cases hf
    rw [h3] at g3; cases g3
    exact ⟨0, _, _, _, off, by rw [fnd_ecOf, g2]; rfl, by rw [ver_own]; exact h2, g4, h4⟩

theorem OC_sub : ∀ b, OwnS (BC B ρ ec.env L V) (ρC ρ L) (ecOf Ein).env b → OwnS B ρ ec.env b := by
  rintro b ((h1 | ⟨id, _, _, h1⟩) | h1)
  · exact .inl h1
  · exact .inr (ownB_iff.2 ⟨id, h1⟩)
  · obtain ⟨k, h1⟩ := ownB_iff.1 h1
    obtain ⟨id, _, h2⟩ := (blkC_iff I hL hin).1 h1
    exact .inr (ownB_iff.2 ⟨id, h2⟩)

theorem inI {id k : Nat} {q : SV} (hk : idxN L id 0 = some k) (hq : ρ id = some (q, 0)) : ρC ρ L k = some (q, 0) := by
  have _ := I
  have _ := hL
  have _ := hin
  simp only [ρC, idxN_get hk, hq]; rfl

theorem inM_D {O' : Nat → Prop} {id ver : Nat} {w : Value} (d : D (T := T) E h O ρ (.os id ver) w) : D E h O' (ρC ρ L) (inM ec L id ver) w := by
  have _ := hL
  have _ := hin
  unfold inM
  split
  · rename_i k v e l hk hg
    split
    · rename_i hb
      have := Nat.eq_of_beq_eq_true hb
      subst this
      obtain ⟨s, hf⟩ := get_fnd hg
      obtain ⟨_, q, rows, h1, h0, _⟩ := I.obj id s _ hf
      cases d with
      | os _ _ n q1 q0 hq hle hw =>
        rw [h1] at hq; cases hq
        rw [hw rfl]
        exact .os k 1 1 q q (by simp only [ρC, idxN_get hk, h1]; rw [if_neg (by omega)]) (Nat.le_refl _) fun _ => rfl
    · exact .bad _
  · rename_i k v e l hk hg
    split
    · rename_i hb
      have := Nat.eq_of_beq_eq_true hb
      subst this
      obtain ⟨s, hf⟩ := get_fnd hg
      obtain ⟨_, q, h1, h0, _⟩ := I.obj id s _ hf
      cases d with
      | os _ _ n q1 q0 hq hle hw =>
        rw [h1] at hq; cases hq
        rw [hw rfl]
        exact .os k 1 1 q q (by simp only [ρC, idxN_get hk, h1]; rw [if_neg (by omega)]) (Nat.le_refl _) fun _ => rfl
    · exact .bad _
  · exact .bad _

include hLV in
include hE in
theorem inv_in : Inv0 E (BC B ρ ec.env L V) (ρC ρ L) (ecOf Ein) h := by
  have _ := hLV
  have hsub := OC_sub (V := V) I hL hin
  have hlen := (inO_spec hin).1
  refine ⟨I.top, fun k hk => ?_, by show 0 < Ein.length + 2; omega, fun k q n hq => ?_, fun b hb => I.own_lt (hsub b (.inl hb)), fun b hb hc => ?_, ?_, ?_, ?_⟩
  · have hk' : Ein.length + 2 ≤ k := hk
    simp only [ρC]
    rw [List.getElem?_eq_none (by omega)]
  · simp only [ρC] at hq
    split at hq
    · split at hq
      · cases hq
        show _ < Ein.length + 2
        split <;> omega
      · cases hq
    · cases hq
  · obtain ⟨k, hb⟩ := ownB_iff.1 hb
    obtain ⟨id, hk, hb⟩ := (blkC_iff I hL hin).1 hb
    rcases hc with hc | ⟨j, h1, h2, h3⟩
    · exact I.notB b (ownB_iff.2 ⟨id, hb⟩) hc
    · exact h1 ((I.blk_inj h3 hb) ▸ List.mem_of_getElem? hk)
  · intro i j s s' o o' q q' n n' b f f' h1 h2 h3 h4 h5 h6 h7 h8
    obtain ⟨id, g1, g2⟩ := (blkC_iff I hL hin).1 ⟨s, o, q, n, f, h1, h3, h5, h7⟩
    obtain ⟨jd, k1, k2⟩ := (blkC_iff I hL hin).1 ⟨s', o', q', n', f', h2, h4, h6, h8⟩
    have e := I.blk_inj g2 k2
    subst e
    have e1 := idxN_of (k0 := 0) hL g1
    have e2 := idxN_of (k0 := 0) hL k1
    rw [e1] at e2
    simpa using e2
  · intro k s o hf
    rw [fnd_ecOf, Option.map_eq_some_iff] at hf
    obtain ⟨o', hf, e⟩ := hf
    cases e
    refine ⟨by show 0 < Ein.length + 2; omega, ?_⟩
    have hk : k < L.length := by rw [← hlen]; exact (List.getElem?_eq_some_iff.1 hf).1
    obtain ⟨o1, q1, g1, g2, g3, g4⟩ := ρC_of I hL hin (List.getElem?_eq_getElem hk)
    rw [g2] at hf; cases hf
    obtain ⟨s1, hf1⟩ := get_fnd g1
    exact OOk.ren hE (fun id k q h1 h2 => inI I hL hin h1 h2) (fun id ver w d => inM_D I hL hin d) hsub (I.obj _ s1 o1 hf1).2 (by omega) g3 g4
  · intro g cs hg
    obtain ⟨h1, vs, h2, h3⟩ := I.glob g cs hg
    exact ⟨fun hc => h1 (hsub g hc), vs, h2, ⟨h3.1, fun j x w k1 k2 => (h3.2 j x w k1 k2).row_loc hE (hE.glob g cs hg x (List.mem_of_getElem? k1)) hsub⟩⟩

end

end Go.Ev

namespace Go.Ev
open Go
variable {T : TypeId → Type} {P : Program} {E : Enc T} {W : Rec} {B B' : Nat → Prop} {ρ ρ1 : Loc} {ec ec' ec'' : EC T} {h h' h'' : H} {O O' : Nat → Prop}

def ρO (ec : EC T) (ρ ρ1 : Loc) (L : List Nat) (out : List (Ch T)) (new : List (Ob T)) (id : Nat) : Option (SV × Nat) :=
  if id < ec.cnt then (match idxN L id 0 with
    | some k => (match chAt out k with
      | .chg _ => (match ρ1 k with | some (q, n) => some (q, if n = 0 then 0 else ec.cnt) | none => ρ id)
      | _ => ρ id)
    | none => ρ id)
  else if id - ec.cnt < new.length then (match ρ1 (L.length + (id - ec.cnt)) with
    | some (q, n) => some (q, if n = 0 then 0 else 1)
    | none => none) else none

theorem fnd_outC (ec : EC T) (L : List Nat) (out : List (Ch T)) (new : List (Ob T)) : ∀ {M : List Nat} {k0 : Nat} {env : Env T} {id : Nat}, M.Nodup → fnd (outC ec L out new k0 M env) id = match idxN M id k0 with
    | some k => (match chAt out k with
      | .same => fnd env id
      | .chg o => some (ec.cnt, (o.ren (outI L out new ec.cnt) (outM ec L out new)).ver ec.cnt)
      | .gone => none)
    | none => fnd env id
  | [], _, _, _, _ => rfl
  | x :: r, k0, env, id, hn => by
    obtain ⟨h1, h2⟩ := List.nodup_cons.1 hn
    rw [outC, fnd_outC ec L out new h2]
    by_cases hx : x = id
    · subst hx
      have hnone : idxN r x (k0 + 1) = none := by
        cases hi : idxN r x (k0 + 1) with
        | none => rfl
        | some k => exact absurd (List.mem_of_getElem? (idxN_spec hi).2) h1
      simp only [hnone, idxN, Nat.beq_refl, cond_true]
      cases chAt out k0 with
      | same => rfl
      | chg o => simp only; rw [fnd_cons, if_pos rfl]
      | gone => simp only; exact fnd_del_same _ _
    · have hb : Nat.beq x id = false := by
        cases hb : Nat.beq x id with
        | false => rfl
        | true => exact absurd (Nat.eq_of_beq_eq_true hb) hx
      have he : fnd (match chAt out k0 with
          | .same => env
          | .chg o => (x, ec.cnt, (o.ren (outI L out new ec.cnt) (outM ec L out new)).ver ec.cnt) :: del env x
          | .gone => del env x) id = fnd env id := by
        cases chAt out k0 with
        | same => rfl
        | chg o => simp only; rw [fnd_cons, if_neg hx, fnd_del_ne _ (Ne.symm hx)]
        | gone => simp only; exact fnd_del_ne _ (Ne.symm hx)
      simp only [idxN, hb, cond_false]
      cases idxN r id (k0 + 1) with
      | none => exact he
      | some k =>
        dsimp only
        generalize chAt out k = cc
        cases cc with
        | same => exact he
        | chg o => rfl
        | gone => rfl

theorem fnd_outN (ec : EC T) (L : List Nat) (out : List (Ch T)) (new : List (Ob T)) : ∀ {m : List (Ob T)} {k0 : Nat} {env : Env T} {id : Nat}, fnd (outN ec L out new k0 m env) id = if ec.cnt + k0 ≤ id ∧ id < ec.cnt + k0 + m.length then (m[id - (ec.cnt + k0)]?).map (fun o => (ec.cnt, (o.ren (outI L out new ec.cnt) (outM ec L out new)).ver 1)) else fnd env id
  | [], k0, env, id => by
    rw [outN, if_neg (by simp)]
  | o :: r, k0, env, id => by
    rw [outN, fnd_outN ec L out new, fnd_cons]
    by_cases h1 : ec.cnt + k0 = id
    · subst h1
      rw [if_neg (by omega), if_pos rfl, if_pos (by simp), Nat.sub_self]; rfl
    · rw [if_neg h1]
      by_cases h2 : ec.cnt + k0 ≤ id ∧ id < ec.cnt + k0 + (o :: r).length
      · rw [if_pos h2, if_pos (by simp only [List.length_cons] at h2; omega)]
        have : id - (ec.cnt + k0) = (id - (ec.cnt + (k0 + 1))) + 1 := by omega
        rw [this]; rfl
      · rw [if_neg h2, if_neg (by simp only [List.length_cons] at h2; omega)]

/-- Where a number comes from, behind a call. -/
inductive Src (ec : EC T) (L : List Nat) (out : List (Ch T)) (new : List (Ob T)) (id s : Nat) (o : Ob T) : Prop where
  | old (hf : fnd ec.env id = some (s, o)) (hk : idxN L id 0 = none ∨ ∃ k, idxN L id 0 = some k ∧ chAt out k = .same)
  | chg (k : Nat) (o' : Ob T) (hk : idxN L id 0 = some k) (hc : chAt out k = .chg o') (hs : s = ec.cnt) (ho : o = (o'.ren (outI L out new ec.cnt) (outM ec L out new)).ver ec.cnt)
  | new (j : Nat) (o' : Ob T) (hj : new[j]? = some o') (hid : id = ec.cnt + j) (hs : s = ec.cnt) (ho : o = (o'.ren (outI L out new ec.cnt) (outM ec L out new)).ver 1)

theorem fnd_outE {L : List Nat} (hL : L.Nodup) {out : List (Ch T)} {new : List (Ob T)} {id s : Nat} {o : Ob T} (hf : fnd (outE ec L out new).env id = some (s, o)) : Src ec L out new id s o := by
  have hf : fnd (outN ec L out new 0 new (outC ec L out new 0 L ec.env)) id = some (s, o) := hf
  rw [fnd_outN] at hf
  split at hf
  · rename_i hid
    rw [Option.map_eq_some_iff] at hf
    obtain ⟨o', h1, h2⟩ := hf
    cases h2
    exact .new (id - ec.cnt) o' (by simpa using h1) (by omega) rfl rfl
  · rw [fnd_outC ec L out new hL] at hf
    split at hf
    · rename_i k hk
      split at hf
      · rename_i hc
        exact .old hf (.inr ⟨k, hk, hc⟩)
      · rename_i o' hc
        cases hf
        exact .chg k o' hk hc rfl rfl
      · cases hf
    · rename_i hk
      exact .old hf (.inl hk)

section
variable (hE : EncOK E) (I : Inv0 E B ρ ec h) {L V : List Nat} (hL : L.Nodup) (hLV : ∀ i ∈ V, i ∉ L) {Ein : List (Ob T)} (hin : inO ec L L = some Ein)
  {out : List (Ch T)} {new : List (Ob T)} {res : X T} {v : Value} (I1 : Inv0 E (BC B ρ ec.env L V) ρ1 (ecOut Ein out new) h')
  (hn : h.next ≤ h'.next) (hfr : ∀ b, b < h.next → ¬ touchB (ρC ρ L) Ein out b → h'.get b = h.get b) (hown : ∀ b, b < h.next → ownB ρ1 (ecOut Ein out new).env b → ownB (ρC ρ L) (ecOf Ein).env b)
  (hloc : ∀ k q m, k < Ein.length → ρC ρ L k = some (q, m) → match chAt out k with
        | .same => ρ1 k = some (q, m)
        | .chg _ => (m = 0 → ρ1 k = some (q, 0)) ∧ (m ≠ 0 → ∃ q' m', ρ1 k = some (q', m') ∧ m' ≠ 0)
        | .gone => True)
  (hV : V = [] ∨ (res.hasRo = false ∧ out = [] ∧ new = []))
include I hL hin

theorem touch_own {b : Nat} (ht : touchB (ρC ρ L) Ein out b) : ∃ id k, idxN L id 0 = some k ∧ (match chAt out k with | .same => False | _ => True) ∧ blkOf ρ ec.env id b := by
  obtain ⟨k, s, o, q, n, off, h0, h1⟩ := ht
  obtain ⟨id, h2, h3⟩ := (blkC_iff I hL hin).1 ⟨s, o, q, n, off, h1⟩
  exact ⟨id, k, by simpa using idxN_of (k0 := 0) hL h2, h0, h3⟩

include hfr in
theorem old_get {id b : Nat} (hb : blkOf ρ ec.env id b) (hk : idxN L id 0 = none ∨ ∃ k, idxN L id 0 = some k ∧ chAt out k = .same) : h'.get b = h.get b := by
  refine hfr b (I.own_lt (.inr (ownB_iff.2 ⟨id, hb⟩))) fun ht => ?_
  obtain ⟨id', k, h1, h2, h3⟩ := touch_own I hL hin ht
  have e := I.blk_inj hb h3
  subst e
  rcases hk with hk | ⟨k', hk, hc⟩
  · rw [hk] at h1; cases h1
  · rw [hk] at h1; cases h1
    rw [hc] at h2; exact h2

theorem ρO_old {id : Nat} (hid : id < ec.cnt) (hk : idxN L id 0 = none ∨ ∃ k, idxN L id 0 = some k ∧ (chAt out k = .same ∨ chAt out k = .gone)) : ρO ec ρ ρ1 L out new id = ρ id := by
  have _ := I
  have _ := hL
  have _ := hin
  unfold ρO
  rw [if_pos hid]
  rcases hk with hk | ⟨k, hk, hc | hc⟩
  · simp only [hk]
  · simp only [hk, hc]
  · simp only [hk, hc]

include I1 in
theorem ρO_chg {id k : Nat} {o' : Ob T} (hid : id < ec.cnt) (hk : idxN L id 0 = some k) (hc : chAt out k = .chg o') : ∃ q, ρ1 k = some (q, o'.vn) ∧ ρO ec ρ ρ1 L out new id = some (q, if o'.vn = 0 then 0 else ec.cnt) ∧ OOk E h' (OwnS (BC B ρ ec.env L V) ρ1 (ecOut Ein out new).env) ρ1 k o' := by
  have _ := I
  have _ := hL
  have hkl : k < Ein.length := by rw [(inO_spec hin).1]; exact (List.getElem?_eq_some_iff.1 (idxN_get hk)).1
  have hf : fnd (ecOut Ein out new).env k = some (0, o') := by
    rw [fnd_ecOut, if_pos hkl, List.getElem?_eq_getElem hkl, hc]
  have ho := (I1.obj k 0 o' hf).2
  obtain ⟨q, hq⟩ := ho.loc
  refine ⟨q, hq, ?_, ho⟩
  unfold ρO
  rw [if_pos hid]
  simp only [hk, hc, hq]

include I1 in
theorem ρO_new {j : Nat} {o' : Ob T} (hj : new[j]? = some o') : ∃ q, ρ1 (L.length + j) = some (q, o'.vn) ∧ ρO ec ρ ρ1 L out new (ec.cnt + j) = some (q, if o'.vn = 0 then 0 else 1) ∧ OOk E h' (OwnS (BC B ρ ec.env L V) ρ1 (ecOut Ein out new).env) ρ1 (L.length + j) o' := by
  have _ := I
  have _ := hL
  have hlen := (inO_spec hin).1
  have hjl := (List.getElem?_eq_some_iff.1 hj).1
  have hf : fnd (ecOut Ein out new).env (L.length + j) = some (0, o') := by
    rw [fnd_ecOut, if_neg (by omega), hlen]
    have : L.length + j - L.length = j := by omega
    rw [this, hj]; rfl
  have ho := (I1.obj _ 0 o' hf).2
  obtain ⟨q, hq⟩ := ho.loc
  refine ⟨q, hq, ?_, ho⟩
  unfold ρO
  rw [if_neg (by omega)]
  have : ec.cnt + j - ec.cnt = j := by omega
  rw [this, if_pos hjl, hq]

include I1 in
/-- One's own block, behind a call. -/
theorem blkO {id b : Nat} (hb : blkOf (ρO ec ρ ρ1 L out new) (outE ec L out new).env id b) : (blkOf ρ ec.env id b ∧ (idxN L id 0 = none ∨ ∃ k, idxN L id 0 = some k ∧ chAt out k = .same)) ∨
    (∃ k o', (idxN L id 0 = some k ∧ chAt out k = .chg o' ∨ id = ec.cnt + (k - L.length) ∧ L.length ≤ k ∧ new[k - L.length]? = some o') ∧ blkOf ρ1 (ecOut Ein out new).env k b) := by
  obtain ⟨s, o, q, n, off, h1, h2, h3, h4⟩ := hb
  have hlen := (inO_spec hin).1
  cases fnd_outE hL h1 with
  | old hf hk =>
    left
    rw [ρO_old I hL hin (I.fnd_lt hf) (by rcases hk with hk | ⟨k, hk, hc⟩; exact .inl hk; exact .inr ⟨k, hk, .inl hc⟩)] at h3
    exact ⟨⟨s, o, q, n, off, hf, h2, h3, h4⟩, hk⟩
  | chg k o' hk hc hs ho =>
    right
    have hid : id < ec.cnt := by
      obtain ⟨o2, q2, g1, _⟩ := ρC_of I hL hin (idxN_get hk)
      obtain ⟨s2, hf2⟩ := get_fnd g1
      exact I.fnd_lt hf2
    obtain ⟨q', e1, e2, e3⟩ := ρO_chg I hL hin I1 hid hk hc
    rw [e2] at h3; cases h3
    have hkl : k < Ein.length := by rw [hlen]; exact (List.getElem?_eq_some_iff.1 (idxN_get hk)).1
    refine ⟨k, o', .inl ⟨hk, hc⟩, 0, o', _, _, off, ?_, by rw [ho, ver_own] at h2; exact h2, e1, h4⟩
    rw [fnd_ecOut, if_pos hkl, List.getElem?_eq_getElem hkl, hc]
  | new j o' hj hid hs ho =>
    right
    subst hid
    obtain ⟨q', e1, e2, e3⟩ := ρO_new I hL hin I1 hj
    rw [e2] at h3; cases h3
    have e5 : L.length + j - L.length = j := by omega
    refine ⟨L.length + j, o', .inr ⟨by rw [e5], by omega, by rw [e5]; exact hj⟩, 0, o', _, _, off, ?_, by rw [ho, ver_own] at h2; exact h2, e1, h4⟩
    rw [fnd_ecOut, if_neg (by omega), hlen, e5, hj]; rfl

end

end Go.Ev

namespace Go.Ev
open Go
variable {T : TypeId → Type} {P : Program} {E : Enc T} {W : Rec} {B B' : Nat → Prop} {ρ ρ1 : Loc} {ec ec' ec'' : EC T} {h h' h'' : H} {O O' : Nat → Prop}

theorem blt_iff {a b : Nat} : Nat.blt a b = true ↔ a < b := by rw [Nat.blt_eq]

theorem osV_vn {o : Ob T} {u : Nat} (h : osV o = some u) : o.vn = u := by cases o <;> simp_all [osV, Ob.vn]

section
variable (hE : EncOK E) (I : Inv0 E B ρ ec h) {L V : List Nat} (hL : L.Nodup) (hLV : ∀ i ∈ V, i ∉ L) {Ein : List (Ob T)} (hin : inO ec L L = some Ein)
  {out : List (Ch T)} {new : List (Ob T)} {res : X T} {v : Value} (I1 : Inv0 E (BC B ρ ec.env L V) ρ1 (ecOut Ein out new) h')
  (hn : h.next ≤ h'.next) (hfr : ∀ b, b < h.next → ¬ touchB (ρC ρ L) Ein out b → h'.get b = h.get b) (hown : ∀ b, b < h.next → ownB ρ1 (ecOut Ein out new).env b → ownB (ρC ρ L) (ecOf Ein).env b)
  (hloc : ∀ k q m, k < Ein.length → ρC ρ L k = some (q, m) → match chAt out k with
        | .same => ρ1 k = some (q, m)
        | .chg _ => (m = 0 → ρ1 k = some (q, 0)) ∧ (m ≠ 0 → ∃ q' m', ρ1 k = some (q', m') ∧ m' ≠ 0)
        | .gone => True)
  (hV : V = [] ∨ (res.hasRo = false ∧ out = [] ∧ new = []))
include I hL hin I1

include hloc in
/-- A block that stays one's own lies there for the call too. -/
theorem same_blk {id k b : Nat} (hb : blkOf ρ ec.env id b) (hk : idxN L id 0 = some k) (hc : chAt out k = .same) : blkOf ρ1 (ecOut Ein out new).env k b := by
  have _ := I1
  obtain ⟨s, o, q, n, off, h1, h2, h3, h4⟩ := hb
  obtain ⟨o1, q1, g1, g2, g3, g4⟩ := ρC_of I hL hin (idxN_get hk)
  obtain ⟨s1, hf⟩ := get_fnd g1
  rw [h1] at hf; cases hf
  rw [h3] at g3; cases g3
  have hkl := (List.getElem?_eq_some_iff.1 g2).1
  have hl := hloc k _ _ hkl g4
  rw [hc] at hl
  exact ⟨0, (o.ren (fun i => idxN L i 0) (inM ec L)).ver 1, _, _, off, by rw [fnd_ecOut, if_pos hkl, g2, hc], by rw [ver_own]; exact h2, hl, h4⟩

include hloc hV in
theorem own_back (hne : V = []) {b : Nat} (hb : OwnS B (ρO ec ρ ρ1 L out new) (outE ec L out new).env b) : OwnS (BC B ρ ec.env L V) ρ1 (ecOut Ein out new).env b := by
  have _ := hV
  rcases hb with hb | hb
  · exact .inl (.inl hb)
  · obtain ⟨id, hb⟩ := (ownB_iff (ec := outE ec L out new)).1 hb
    rcases blkO I hL hin I1 hb with ⟨h1, h2 | ⟨k, h2, h3⟩⟩ | ⟨k, o', _, h2⟩
    · exact .inl (.inr ⟨id, idxN_none h2, by rw [hne]; simp, h1⟩)
    · exact .inr (ownB_iff.2 ⟨k, same_blk I hL hin I1 hloc h1 h2 h3⟩)
    · exact .inr (ownB_iff.2 ⟨k, h2⟩)

include hloc in
theorem outI_D {id k : Nat} {q : SV} (hi : outI L out new ec.cnt k = some id) (hq : ρ1 k = some (q, 0)) : ρO ec ρ ρ1 L out new id = some (q, 0) := by
  have hlen := (inO_spec hin).1
  unfold outI at hi
  cases hb : Nat.blt k L.length with
  | true =>
    rw [hb] at hi
    simp only [cond_true] at hi
    have hkl : k < L.length := blt_iff.1 hb
    have hLk := List.getElem?_eq_getElem hkl
    obtain ⟨o1, q1, g1, g2, g3, g4⟩ := ρC_of I hL hin hLk
    obtain ⟨s1, hf⟩ := get_fnd g1
    have hid := I.fnd_lt hf
    have hidx := idxN_of (k0 := 0) hL hLk
    rw [Nat.zero_add] at hidx
    have hl := hloc k _ _ (by omega) g4
    cases hc : chAt out k with
    | same =>
      rw [hc] at hi hl
      simp only at hi hl
      rw [hLk] at hi; cases hi
      rw [ρO_old I hL hin hid (.inr ⟨k, hidx, .inl hc⟩), g3]
      rw [hl] at hq
      rcases OOk.vn_pos (I.obj _ _ _ hf).2 with ⟨e1, e2⟩ | ⟨e1, e2⟩
      · rw [e2] at hq; cases hq; rw [e1]
      · rw [e2] at hq; cases hq
    | chg o' =>
      rw [hc] at hi
      simp only at hi
      rw [hLk] at hi; cases hi
      obtain ⟨q', e1, e2, e3⟩ := ρO_chg I hL hin I1 hid hidx hc
      rw [hq] at e1
      simp only [Option.some.injEq, Prod.mk.injEq] at e1
      rw [e2, if_pos e1.2.symm, e1.1]
    | gone => rw [hc] at hi; cases hi
  | false =>
    rw [hb] at hi
    simp only [cond_false] at hi
    have hkl : L.length ≤ k := by
      rcases Nat.lt_or_ge k L.length with h1 | h1
      · rw [blt_iff.2 h1] at hb; cases hb
      · exact h1
    cases hb2 : Nat.blt k (L.length + new.length) with
    | true =>
      rw [hb2] at hi
      simp only [cond_true, Option.some.injEq] at hi
      subst hi
      have hlt : k < L.length + new.length := blt_iff.1 hb2
      obtain ⟨q', e1, e2, e3⟩ := ρO_new I hL hin I1 (List.getElem?_eq_getElem (show k - L.length < new.length by omega))
      have e5 : L.length + (k - L.length) = k := by omega
      rw [e5, hq] at e1
      simp only [Option.some.injEq, Prod.mk.injEq] at e1
      rw [e2, if_pos e1.2.symm, e1.1]
    | false => rw [hb2] at hi; cases hi

include hloc in
theorem outM_D {O' : Nat → Prop} {k ver : Nat} {w : Value} (d : D (T := T) E h' O ρ1 (.os k ver) w) : D E h' O' (ρO ec ρ ρ1 L out new) (outM ec L out new k ver) w := by
  have hlen := (inO_spec hin).1
  unfold outM
  split
  · rename_i id hi hok
    unfold outI at hi
    unfold outOk at hok
    cases d with
    | os _ _ n q q0 hq hle hw =>
    cases hb : Nat.blt k L.length with
    | true =>
      rw [hb] at hi hok
      simp only [cond_true] at hi
      have hkl : k < L.length := blt_iff.1 hb
      have hLk := List.getElem?_eq_getElem hkl
      obtain ⟨o1, q1, g1, g2, g3, g4⟩ := ρC_of I hL hin hLk
      obtain ⟨s1, hf⟩ := get_fnd g1
      have hid := I.fnd_lt hf
      have hidx := idxN_of (k0 := 0) hL hLk
      rw [Nat.zero_add] at hidx
      have hl := hloc k _ _ (by omega) g4
      cases hc : chAt out k with
      | same =>
        rw [hc] at hi hl hok
        simp only at hi hl hok
        rw [hLk] at hi; cases hi
        have hv := Nat.eq_of_beq_eq_true hok
        rw [hl] at hq
        rcases OOk.vn_pos (I.obj _ _ _ hf).2 with ⟨e1, e2⟩ | ⟨e1, e2⟩
        · rw [e2] at hq; cases hq; omega
        · rw [e2] at hq; cases hq
          have : outV ec L out k = o1.vn := by
            unfold outV
            rw [hc, hLk]
            simp only [g1]
            cases o1 <;> rfl
          rw [hw hv, this]
          exact .os _ _ o1.vn q q (by rw [ρO_old I hL hin hid (.inr ⟨k, hidx, .inl hc⟩)]; exact g3) (Nat.le_refl _) fun _ => rfl
      | chg o' =>
        rw [hc] at hi hok
        simp only at hi hok
        rw [hLk] at hi; cases hi
        split at hok
        · rename_i u hu
          have hv := Nat.eq_of_beq_eq_true hok
          obtain ⟨q', e1, e2, e3⟩ := ρO_chg I hL hin I1 hid hidx hc
          rw [hq] at e1
          simp only [Option.some.injEq, Prod.mk.injEq] at e1
          obtain ⟨rfl, e1⟩ := e1
          have hun := osV_vn hu
          have hpos : o'.vn ≠ 0 := by
            cases o' with
            | os => obtain ⟨_, _, _, h0, _⟩ := e3; simp only [Ob.vn]; omega
            | fz => obtain ⟨_, _, h0, _⟩ := e3; simp only [Ob.vn]; omega
            | _ => cases hu
          rw [if_neg hpos] at e2
          have : outV ec L out k = ec.cnt := by
            unfold outV
            rw [hc, hLk]
          rw [hw (by omega), this]
          exact .os _ _ ec.cnt q q e2 (Nat.le_refl _) fun _ => rfl
        · cases hok
      | gone => rw [hc] at hi; cases hi
    | false =>
      rw [hb] at hi hok
      simp only [cond_false] at hi
      have hkl : L.length ≤ k := by
        rcases Nat.lt_or_ge k L.length with h1 | h1
        · rw [blt_iff.2 h1] at hb; cases hb
        · exact h1
      cases hb2 : Nat.blt k (L.length + new.length) with
      | true =>
        rw [hb2] at hi
        simp only [cond_true, Option.some.injEq] at hi
        subst hi
        have hlt : k < L.length + new.length := blt_iff.1 hb2
        have hnj := List.getElem?_eq_getElem (show k - L.length < new.length by omega)
        obtain ⟨q', e1, e2, e3⟩ := ρO_new I hL hin I1 hnj
        have e5 : L.length + (k - L.length) = k := by omega
        rw [e5, hq] at e1
        have hok2 : (match new[k - L.length]? with | some o => (match osV o with | some u => Nat.beq ver u | none => false) | none => false) = true := by
          cases hcc : chAt out k <;> rw [hcc] at hok <;> exact hok
        rw [hnj] at hok2
        simp only at hok2
        split at hok2
        · rename_i u hu
          have hv := Nat.eq_of_beq_eq_true hok2
          have hun := osV_vn hu
          rw [e5] at e3
          have hpos : (new[k - L.length]).vn ≠ 0 := by
            generalize new[k - L.length] = oo at hu e3
            cases oo with
            | os => obtain ⟨_, _, _, h0, _⟩ := e3; simp only [Ob.vn]; omega
            | fz => obtain ⟨_, _, h0, _⟩ := e3; simp only [Ob.vn]; omega
            | _ => cases hu
          rw [if_neg hpos] at e2
          have : outV ec L out k = 1 := by
            unfold outV
            rw [List.getElem?_eq_none hkl]
            cases chAt out k <;> rfl
          simp only [Option.some.injEq, Prod.mk.injEq] at e1
          rw [hw (by omega), this]
          exact .os _ _ 1 q q (by rw [e2, e1.1]) (Nat.le_refl _) fun _ => rfl
        · cases hok2
      | false => rw [hb2] at hi; cases hi
  · exact .bad _

include hE hLV hn hfr hown hloc hV in
theorem stp_out (ht : Top h') : Stp E B ρ ec h (ρO ec ρ ρ1 L out new) (outE ec L out new) h' := by
  have _ := hLV
  have hlen := (inO_spec hin).1
  have hcnt : (outE ec L out new).cnt = ec.cnt + new.length + 1 := rfl
  -- the chg and new objects there are: nothing but V = []
  have hVne : (∃ k o', chAt out k = .chg o') ∨ (∃ (j : Nat) (o' : Ob T), new[j]? = some o') → V = [] := by
    rintro hx
    rcases hV with hV | ⟨_, e1, e2⟩
    · exact hV
    · rcases hx with ⟨k, o', hx⟩ | ⟨j, o', hx⟩
      · rw [e1] at hx; simp [chAt] at hx
      · rw [e2] at hx; simp at hx
  have hkeepB : ∀ b, B b → h'.get b = h.get b := fun b hb => hfr b (I.base b hb) fun htc => by
    obtain ⟨id, k, _, _, h3⟩ := touch_own I hL hin htc
    exact I.notB b (ownB_iff.2 ⟨id, h3⟩) hb
  have hmv : Mv h h' (OwnS B ρ ec.env) (OwnS B (ρO ec ρ ρ1 L out new) (outE ec L out new).env) ρ (ρO ec ρ ρ1 L out new) := by
    refine ⟨hn, fun b hb ho => hfr b hb fun htc => ho (.inr ?_), fun b hb ho => ?_, fun id q n hq => ?_⟩
    · obtain ⟨id, k, _, _, h3⟩ := touch_own I hL hin htc
      exact ownB_iff.2 ⟨id, h3⟩
    · rcases ho with ho | ho
      · exact .inl ho
      · obtain ⟨id, ho⟩ := (ownB_iff (ec := outE ec L out new)).1 ho
        rcases blkO I hL hin I1 ho with ⟨h1, _⟩ | ⟨k, o', _, h2⟩
        · exact .inr (ownB_iff.2 ⟨id, h1⟩)
        · obtain ⟨k', h3⟩ := (ownB_iff (ec := ecOf Ein)).1 (hown b hb (ownB_iff.2 ⟨k, h2⟩))
          obtain ⟨id', _, h4⟩ := (blkC_iff I hL hin).1 h3
          exact .inr (ownB_iff.2 ⟨id', h4⟩)
    · have hid : id < ec.cnt := by
        rcases Nat.lt_or_ge id ec.cnt with h1 | h1
        · exact h1
        · rw [I.dom id h1] at hq; cases hq
      cases hk : idxN L id 0 with
      | none => exact ⟨q, n, by rw [ρO_old I hL hin hid (.inl hk)]; exact hq, Nat.le_refl _, fun _ => rfl, fun e => e⟩
      | some k =>
        cases hc : chAt out k with
        | same => exact ⟨q, n, by rw [ρO_old I hL hin hid (.inr ⟨k, hk, .inl hc⟩)]; exact hq, Nat.le_refl _, fun _ => rfl, fun e => e⟩
        | gone => exact ⟨q, n, by rw [ρO_old I hL hin hid (.inr ⟨k, hk, .inr hc⟩)]; exact hq, Nat.le_refl _, fun _ => rfl, fun e => e⟩
        | chg o' =>
          obtain ⟨q', e1, e2, e3⟩ := ρO_chg I hL hin I1 hid hk hc
          obtain ⟨o1, q1, g1, g2, g3, g4⟩ := ρC_of I hL hin (idxN_get hk)
          obtain ⟨s1, hf⟩ := get_fnd g1
          have hl := hloc k _ _ (List.getElem?_eq_some_iff.1 g2).1 g4
          rw [hc] at hl
          rw [hq] at g3; cases g3
          have hver := I.vers _ _ _ hq
          rcases OOk.vn_pos (I.obj _ _ _ hf).2 with ⟨k1, k2⟩ | ⟨k1, k2⟩
          · have h0 := hl.1 (k2 _ _ _)
            rw [h0] at e1
            simp only [Option.some.injEq, Prod.mk.injEq] at e1
            rw [← e1.1, if_pos e1.2.symm] at e2
            exact ⟨_, _, e2, by omega, fun _ => rfl, fun e => rfl⟩
          · obtain ⟨q2, m2, h0, h00⟩ := hl.2 (by rw [k2]; omega)
            rw [h0] at e1
            simp only [Option.some.injEq, Prod.mk.injEq] at e1
            rw [if_neg (by omega)] at e2
            exact ⟨_, _, e2, by omega, fun e => by omega, fun e => by omega⟩
  have hdist : ∀ i j b, blkOf (ρO ec ρ ρ1 L out new) (outE ec L out new).env i b → blkOf (ρO ec ρ ρ1 L out new) (outE ec L out new).env j b → i = j := by
    have mix : ∀ i b k o', blkOf ρ ec.env i b → (idxN L i 0 = none ∨ ∃ k, idxN L i 0 = some k ∧ chAt out k = .same) → blkOf ρ1 (ecOut Ein out new).env k b → (chAt out k = .chg o' ∧ k < L.length ∨ L.length ≤ k ∧ new[k - L.length]? = some o') → False := by
      intro i b k o' h1 h2 h3 h4
      have hVe : V = [] := hVne (by rcases h4 with h4 | h4; exact .inl ⟨k, o', h4.1⟩; exact .inr ⟨_, o', h4.2⟩)
      rcases h2 with h2 | ⟨k', h2, h5⟩
      · exact I1.notB b (ownB_iff.2 ⟨k, h3⟩) (.inr ⟨i, idxN_none h2, by rw [hVe]; simp, h1⟩)
      · have h6 := same_blk I hL hin I1 hloc h1 h2 h5
        have e := I1.blk_inj h3 h6
        subst e
        rcases h4 with h4 | h4
        · rw [h5] at h4; cases h4.1
        · have := (List.getElem?_eq_some_iff.1 (idxN_get h2)).1; omega
    have src : ∀ i k o', (idxN L i 0 = some k ∧ chAt out k = .chg o' ∨ i = ec.cnt + (k - L.length) ∧ L.length ≤ k ∧ new[k - L.length]? = some o') → (chAt out k = .chg o' ∧ k < L.length ∨ L.length ≤ k ∧ new[k - L.length]? = some o') := by
      rintro i k o' (⟨h1, h2⟩ | ⟨_, h2, h3⟩)
      · exact .inl ⟨h2, (List.getElem?_eq_some_iff.1 (idxN_get h1)).1⟩
      · exact .inr ⟨h2, h3⟩
    intro i j b hi hj
    rcases blkO I hL hin I1 hi with ⟨h1, h2⟩ | ⟨k, o', h1, h2⟩ <;> rcases blkO I hL hin I1 hj with ⟨h3, h4⟩ | ⟨k', o'', h3, h4⟩
    · exact I.blk_inj h1 h3
    · exact (mix i b k' o'' h1 h2 h4 (src j k' o'' h3)).elim
    · exact (mix j b k o' h3 h4 h2 (src i k o' h1)).elim
    · have e := I1.blk_inj h2 h4
      subst e
      rcases h1 with ⟨h1, h5⟩ | ⟨h1, h5, _⟩ <;> rcases h3 with ⟨h3, h6⟩ | ⟨h3, h6, _⟩
      · have a := idxN_get h1
        rw [idxN_get h3] at a
        exact (Option.some.inj a).symm
      · have := (List.getElem?_eq_some_iff.1 (idxN_get h1)).1; omega
      · have := (List.getElem?_eq_some_iff.1 (idxN_get h3)).1; omega
      · rw [h1, h3]
  have hI2 : ∀ id k q, outI L out new ec.cnt id = some k → ρ1 id = some (q, 0) → ρO ec ρ ρ1 L out new k = some (q, 0) := fun id k q h1 h2 => outI_D I hL hin I1 hloc h1 h2
  refine ⟨⟨ht, fun id hid => ?_, by omega, fun id q n hq => ?_, fun b hb => Nat.lt_of_lt_of_le (I.base b hb) hn, fun b hb hB => ?_, ?_, ?_, ?_⟩, ⟨hmv, by omega, ?_⟩, hkeepB, rfl, rfl⟩
  · unfold ρO
    rw [if_neg (by omega), if_neg (by omega)]
  · unfold ρO at hq
    split at hq
    · rename_i hid
      split at hq
      · split at hq
        · split at hq
          · cases hq; split <;> omega
          · have := I.vers _ _ _ hq; omega
        · have := I.vers _ _ _ hq; omega
      · have := I.vers _ _ _ hq; omega
    · split at hq
      · split at hq
        · cases hq
          have := I.pos
          split <;> omega
        · cases hq
      · cases hq
  · obtain ⟨id, hb⟩ := (ownB_iff (ec := outE ec L out new)).1 hb
    rcases blkO I hL hin I1 hb with ⟨h1, _⟩ | ⟨k, o', _, h2⟩
    · exact I.notB b (ownB_iff.2 ⟨id, h1⟩) hB
    · exact I1.notB b (ownB_iff.2 ⟨k, h2⟩) (.inl hB)
  · intro i j s s' o o' q q' n n' b f f' h1 h2 h3 h4 h5 h6 h7 h8
    exact hdist i j b ⟨s, o, q, n, f, h1, h3, h5, h7⟩ ⟨s', o', q', n', f', h2, h4, h6, h8⟩
  · intro id s o hf
    cases fnd_outE hL hf with
    | old hf' hk =>
      obtain ⟨g1, g2⟩ := I.obj id s o hf'
      refine ⟨by omega, g2.keep hmv (fun q hq => by rw [ρO_old I hL hin (I.fnd_lt hf') (by rcases hk with hk | ⟨k, hk, hc⟩; exact .inl hk; exact .inr ⟨k, hk, .inl hc⟩)]; exact hq) fun q b off ho hq hb => ?_⟩
      exact old_get I hL hin hfr ⟨s, o, q, _, off, hf', ho, hq, hb⟩ hk
    | chg k o' hk hc hs ho =>
      have hid : id < ec.cnt := by
        obtain ⟨o2, q2, g1, _⟩ := ρC_of I hL hin (idxN_get hk)
        obtain ⟨s2, hf2⟩ := get_fnd g1
        exact I.fnd_lt hf2
      obtain ⟨q', e1, e2, e3⟩ := ρO_chg I hL hin I1 hid hk hc
      refine ⟨by omega, ?_⟩
      rw [ho]
      refine OOk.ren hE hI2 (fun id ver w d => outM_D I hL hin I1 hloc d) (fun b hb => own_back I hL hin I1 hloc hV (hVne (.inl ⟨k, o', hc⟩)) hb) e3 I.pos e1 ?_
      rw [e2]
      rcases OOk.vn_pos e3 with ⟨k1, k2⟩ | ⟨k1, k2⟩
      · rw [if_pos k1, k2]
      · rw [if_neg (by omega), k2]
    | new j o' hj hid hs ho =>
      subst hid
      obtain ⟨q', e1, e2, e3⟩ := ρO_new I hL hin I1 hj
      refine ⟨by omega, ?_⟩
      rw [ho]
      refine OOk.ren hE hI2 (fun id ver w d => outM_D I hL hin I1 hloc d) (fun b hb => own_back I hL hin I1 hloc hV (hVne (.inr ⟨j, o', hj⟩)) hb) e3 (by omega) e1 ?_
      rw [e2]
      rcases OOk.vn_pos e3 with ⟨k1, k2⟩ | ⟨k1, k2⟩
      · rw [if_pos k1, k2]
      · rw [if_neg (by omega), k2]
  · intro g cs hg
    obtain ⟨g1, us, g2, g3⟩ := I.glob g cs hg
    exact ⟨(hmv.layG g2 g1).2, us, (hmv.layG g2 g1).1, g3.mv hmv⟩
  · intro id s o hf hlt
    cases fnd_outE hL hf with
    | old hf' hk => exact ⟨hf', fun q n b off hq hb ho => old_get I hL hin hfr ⟨s, o, q, n, off, hf', ho, hq, hb⟩ hk⟩
    | chg k o' hk hc hs ho => omega
    | new j o' hj hid hs ho => omega

end

/-- **A call, by what is known of it.** -/
theorem ctr_call (hE : EncOK E) (I : Inv0 E B ρ ec h) {L V : List Nat} (hL : L.Nodup) (hLV : ∀ i ∈ V, i ∉ L) {Ein : List (Ob T)} (hin : inO ec L L = some Ein) {f : X T} {args : List (X T)} {out : List (Ch T)} {new : List (Ob T)} {res : X T}
    (c : Ctr E W f Ein args res out new) {vf : Value} {vs : List Value} (df : D E h (OwnS (BC B ρ ec.env L V) (ρC ρ L) (ecOf Ein).env) (ρC ρ L) f vf) (da : DL E h (OwnS (BC B ρ ec.env L V) (ρC ρ L) (ecOf Ein).env) (ρC ρ L) args vs)
    (hV : V = [] ∨ (res.hasRo = false ∧ out = [] ∧ new = [])) :
    ∃ v rc h' ρ', W.call vf vs .unk h = some (.ret v, rc, h') ∧ Stp E B ρ ec h ρ' (outE ec L out new) h' ∧ D E h' (OwnS B ρ' (outE ec L out new).env) ρ' (X.ren (outI L out new ec.cnt) (outM ec L out new) res) v := by
  obtain ⟨v, rc, h', ρ1, h1, I1, d1, hn, hfr, hown, hloc⟩ := c h _ _ vf vs (inv_in hE I hL hLV hin) (fun k hk => by simp only [ρC]; rw [List.getElem?_eq_none (by rw [← (inO_spec hin).1]; exact hk)]) df da
  refine ⟨v, rc, h', ρO ec ρ ρ1 L out new, h1, stp_out hE I hL hLV hin I1 hn hfr hown hloc hV I1.top, ?_⟩
  refine d1.ren hE (fun id k q h1 h2 => outI_D I hL hin I1 hloc h1 h2) (fun id ver w d => outM_D I hL hin I1 hloc d) ?_
  rcases hV with hV' | hV'
  · exact .inl fun b hb => own_back (res := res) I hL hin I1 hloc (.inl hV') hV' hb
  · exact .inr hV'.1

end Go.Ev

namespace Go.Ev
open Go
variable {T : TypeId → Type} {P : Program} {E : Enc T} {W : Rec} {Γ : Hi T} {B B' : Nat → Prop} {ρ ρ1 ρ' : Loc} {ec ec' ec'' : EC T} {h h' h'' : H} {O O' : Nat → Prop}

mutual
theorem D.view (I : Inv0 E B ρ ec h) (hO : ∀ b, O' b → OwnS B ρ ec.env b) : ∀ {x : X T} {w : Value}, D E h (OwnS B ρ ec.env) ρ x w → (∀ id ∈ X.seen ec x, ∀ b, blkOf ρ ec.env id b → ¬ O' b) → D E h O' ρ (x.view ec) w
  | .os id ver, w, d, hs => by
    simp only [X.view]
    split
    · rename_i u e l hg
      split
      · rename_i hb
        have := Nat.eq_of_beq_eq_true hb
        subst this
        obtain ⟨s, hf⟩ := get_fnd hg
        obtain ⟨q, rows, h1, rfl, h2, h3, h4⟩ := os_slice I hf d
        refine .ro e l q rows h2.sli h3.len h4 (by rcases h2.2 with ⟨e1, _⟩ | ⟨b, t, e1, _⟩ <;> rw [e1] <;> simp) (fun b o hq hne => ?_) fun i a r g1 g2 => ((h3.row i a r g1 g2).sub hO).2
        refine hs id ?_ b ⟨s, _, q, _, o, hf, rfl, h1, hq⟩
        simp only [X.seen, hg, List.mem_singleton]
      · exact .bad _
    · rename_i u e l hg
      split
      · rename_i hb
        have := Nat.eq_of_beq_eq_true hb
        subst this
        obtain ⟨s, hf⟩ := get_fnd hg
        exact (fz_ro I hf d).sub hO
      · exact .bad _
    · exact .bad _
  | .agg l, w, d, hs => by
    cases d with
    | agg _ vs hl hd =>
      have := DL.view I hO (l := l) (vs := vs) ⟨hl, hd⟩ (by simpa [X.seen] using hs)
      exact .agg _ vs this.1 this.2
  | .tup l, w, d, hs => by
    cases d with
    | tup _ vs hl hd =>
      have := DL.view I hO (l := l) (vs := vs) ⟨hl, hd⟩ (by simpa [X.seen] using hs)
      exact .tup _ vs this.1 this.2
  | .ifc t x, w, d, hs => by
    cases d with
    | ifc _ _ u hd => exact .ifc t _ u (D.view I hO hd (by simpa [X.seen] using hs))
  | .v _, w, d, _ => d.sub hO
  | .op _, w, d, _ => d.sub hO
  | .ro _ _, w, d, _ => d.sub hO
  | .ptr _ _, w, d, _ => d.sub hO
  | .arr _ _ _ _ _, w, d, _ => d.sub hO
  | .ea _ _ _, w, d, _ => d.sub hO
  | .oa _ _ _ _ _, w, d, _ => d.sub hO
  | .gp _ _, w, d, _ => d.sub hO
  | .ga _ _ _ _ _, w, d, _ => d.sub hO
  | .fn _ _ _, w, d, _ => d.sub hO
  | .mp _, w, d, _ => d.sub hO
  | .bad, w, d, _ => .bad _
theorem DL.view (I : Inv0 E B ρ ec h) (hO : ∀ b, O' b → OwnS B ρ ec.env b) : ∀ {l : List (X T)} {vs : List Value}, DL E h (OwnS B ρ ec.env) ρ l vs → (∀ id ∈ X.seenL ec l, ∀ b, blkOf ρ ec.env id b → ¬ O' b) → DL E h O' ρ (X.viewL ec l) vs
  | [], vs, d, _ => by
    have : vs = [] := List.length_eq_zero_iff.1 d.1.symm
    subst this; exact .nil
  | x :: r, vs, d, hs => by
    obtain ⟨w, us, rfl, d1, d2⟩ := d.uncons
    simp only [X.seenL, List.mem_append] at hs
    exact .cons (D.view I hO d1 fun id hi => hs id (.inl hi)) (DL.view I hO d2 fun id hi => hs id (.inr hi))
end

theorem fzN_spec : ∀ {l : List Nat} {ec : EC T}, Inv0 E B ρ ec h → Stp E B ρ ec h ρ (fzN ec l) h ∧ (∀ b, ownB ρ (fzN ec l).env b → ownB ρ ec.env b) ∧ ∀ id ∈ l, ∀ b, (∃ v e r, ec.get id = some (.os v e r)) → blkOf ρ ec.env id b → ¬ ownB ρ (fzN ec l).env b
  | [], ec, I => ⟨.refl I, fun _ hb => hb, fun id hi => by simp at hi⟩
  | i :: r, ec, I => by
    simp only [fzN]
    split
    · rename_i v e l hg
      obtain ⟨s, hf⟩ := get_fnd hg
      have st := I.freeze hf
      have hsub : ∀ id b, blkOf ρ (ec.put i (.fz v e l)).env id b → blkOf ρ ec.env id b ∧ id ≠ i := by
        rintro id b ⟨s', o', q, n, off, h1, h2, h3⟩
        rw [fnd_put] at h1
        split at h1
        · cases h1; cases h2
        · rename_i hne; exact ⟨⟨s', o', q, n, off, h1, h2, h3⟩, hne⟩
      obtain ⟨s1, s2, s3⟩ := fzN_spec (l := r) st.inv
      refine ⟨st.trans I s1, fun b hb => ?_, fun id hi b hos hb hc => ?_⟩
      · obtain ⟨j, hj⟩ := (ownB_iff (ec := ec.put i (.fz v e l))).1 (s2 b hb)
        exact ownB_iff.2 ⟨j, (hsub j b hj).1⟩
      · by_cases he : id = i
        · subst he
          obtain ⟨j, hj⟩ := (ownB_iff (ec := ec.put id (.fz v e l))).1 (s2 b hc)
          exact (hsub j b hj).2 (I.blk_inj (hsub j b hj).1 hb)
        · have hi' : id ∈ r := by
            rcases List.mem_cons.1 hi with h1 | h1
            · exact absurd h1 he
            · exact h1
          obtain ⟨v', e', l', hos⟩ := hos
          refine s3 id hi' b ⟨v', e', l', ?_⟩ ?_ hc
          · simp only [EC.get, fnd_put, if_neg he]; exact hos
          · obtain ⟨s', o', q, n, off, h1, h2⟩ := hb
            exact ⟨s', o', q, n, off, by rw [fnd_put, if_neg he]; exact h1, h2⟩
    · rename_i hne
      obtain ⟨s1, s2, s3⟩ := fzN_spec (l := r) I
      refine ⟨s1, s2, fun id hi b hos hb => ?_⟩
      rcases List.mem_cons.1 hi with h1 | h1
      · subst h1
        obtain ⟨v, e, l, hos⟩ := hos
        exact absurd hos (hne v e l)
      · exact s3 id h1 b hos hb

mutual
theorem seen_os (ec : EC T) : ∀ {x : X T} {id : Nat}, id ∈ X.seen ec x → ∃ v e r, ec.get id = some (.os v e r)
  | .os i ver, id, hi => by
    simp only [X.seen] at hi
    split at hi
    · rename_i v e l hg
      simp only [List.mem_singleton] at hi
      subst hi
      exact ⟨v, e, l, hg⟩
    · simp at hi
  | .agg l, id, hi => seenL_os ec (by simpa [X.seen] using hi)
  | .tup l, id, hi => seenL_os ec (by simpa [X.seen] using hi)
  | .ifc t x, id, hi => seen_os ec (x := x) (by simpa [X.seen] using hi)
  | .v _, id, hi => by simp [X.seen] at hi
  | .op _, id, hi => by simp [X.seen] at hi
  | .ro _ _, id, hi => by simp [X.seen] at hi
  | .ptr _ _, id, hi => by simp [X.seen] at hi
  | .arr _ _ _ _ _, id, hi => by simp [X.seen] at hi
  | .ea _ _ _, id, hi => by simp [X.seen] at hi
  | .oa _ _ _ _ _, id, hi => by simp [X.seen] at hi
  | .gp _ _, id, hi => by simp [X.seen] at hi
  | .ga _ _ _ _ _, id, hi => by simp [X.seen] at hi
  | .fn _ _ _, id, hi => by simp [X.seen] at hi
  | .mp _, id, hi => by simp [X.seen] at hi
  | .bad, id, hi => by simp [X.seen] at hi
theorem seenL_os (ec : EC T) : ∀ {l : List (X T)} {id : Nat}, id ∈ X.seenL ec l → ∃ v e r, ec.get id = some (.os v e r)
  | [], id, hi => by simp [X.seenL] at hi
  | x :: r, id, hi => by
    simp only [X.seenL, List.mem_append] at hi
    rcases hi with hi | hi
    · exact seen_os ec hi
    · exact seenL_os ec hi
end

theorem nilL_eq {α : Type} {l : List α} (h : nilL l = true) : l = [] := by cases l <;> simp_all [nilL]

/-- What becomes of what is yielded to (B: its own memory, C: that of what yields). -/
structure YOK (E : Enc T) (W : Rec) (Γ : Hi T) (Y : Nat → Bool → (Nat → Prop) → (Nat → Prop) → H → Prop) : Prop where
  stab : ∀ k fin B1 C1 C2 h1 h2, Y k fin B1 C1 h1 → Top h2 → h1.next ≤ h2.next → (∀ b, b < h1.next → ¬ C1 b → h2.get b = h1.get b) → (∀ b, C2 b → b < h2.next ∧ (b < h1.next → C1 b)) → Y k fin B1 C2 h2
  step : match Γ.y with
    | some s => ∀ k x vs B1 C h1, s.xs[k]? = some x → Y k false B1 C h1 → Top h1 → (∀ b, B1 b ∨ C b → b < h1.next) → (∀ b, C b → ¬ B1 b) → DL E h1 (fun b => B1 b ∨ C b) (fun _ => none) (s.enc x) vs →
      ∃ b rc h2 B2, W.call Γ.yv vs .unk h1 = some (.ret (.bool b), rc, h2) ∧ Y (bif b then k + 1 else k) (!b) B2 C h2 ∧ Top h2 ∧ h1.next ≤ h2.next ∧ (∀ i, i < h1.next → ¬ B1 i → h2.get i = h1.get i) ∧
        (∀ i, B2 i → i < h2.next ∧ (i < h1.next → B1 i))
    | none => True
  row : match Γ.y with
    | some s => ∀ x, ∀ y ∈ s.enc x, y.row = true
    | none => True

/-- On, also over what is yielded. -/
structure GS (E : Enc T) (Γ : Hi T) (Y : Nat → Bool → (Nat → Prop) → (Nat → Prop) → H → Prop) (B : Nat → Prop) (ρ : Loc) (ec : EC T) (h : H) (B' : Nat → Prop) (ρ' : Loc) (ec' : EC T) (h' : H) : Prop where
  inv : Inv0 E B' ρ' ec' h'
  ext : Ext B ρ ec h B' ρ' ec' h'
  y : Y ec'.k ec'.fin B' (ownB ρ' ec'.env) h'
  kp : Γ.y.isNone = true → (∀ b, B b → B' b) ∧ (∀ b, B' b → b < h.next → B b) ∧ ∀ b, B b → h'.get b = h.get b

theorem GS.refl {Y : Nat → Bool → (Nat → Prop) → (Nat → Prop) → H → Prop} (I : Inv0 E B ρ ec h) (y : Y ec.k ec.fin B (ownB ρ ec.env) h) : GS E Γ Y B ρ ec h B ρ ec h := ⟨I, Ext.refl, y, fun _ => ⟨fun _ h => h, fun _ h _ => h, fun _ _ => rfl⟩⟩
theorem GS.trans {Y : Nat → Bool → (Nat → Prop) → (Nat → Prop) → H → Prop} {B'' : Nat → Prop} {ρ'' : Loc} (I : Inv0 E B ρ ec h) (a : GS E Γ Y B ρ ec h B' ρ' ec' h') (b : GS E Γ Y B' ρ' ec' h' B'' ρ'' ec'' h'') : GS E Γ Y B ρ ec h B'' ρ'' ec'' h'' :=
  ⟨b.inv, a.ext.trans I a.inv b.ext, b.y, fun hy => ⟨fun c hc => (b.kp hy).1 c ((a.kp hy).1 c hc), fun c hc hlt => (a.kp hy).2.1 c ((b.kp hy).2.1 c hc (Nat.lt_of_lt_of_le hlt a.ext.mv.next)) hlt, fun c hc => ((b.kp hy).2.2 c ((a.kp hy).1 c hc)).trans ((a.kp hy).2.2 c hc)⟩⟩
theorem Stp.gs {Y : Nat → Bool → (Nat → Prop) → (Nat → Prop) → H → Prop} (hy : YOK E W Γ Y) (st : Stp E B ρ ec h ρ' ec' h') (y : Y ec.k ec.fin B (ownB ρ ec.env) h) : GS E Γ Y B ρ ec h B ρ' ec' h' :=
  ⟨st.inv, st.ext, by
    rw [st.k, st.fin]
    refine hy.stab _ _ _ _ _ _ _ y st.inv.top st.ext.mv.next (fun b hb hc => ?_) (fun b hb => ⟨st.inv.own_lt (.inr hb), fun hlt => ?_⟩)
    · by_cases hB : B b
      · exact st.keep b hB
      · exact st.ext.mv.get b hb fun ho => ho.elim hB hc
    · rcases st.ext.mv.own b hlt (.inr hb) with h1 | h1
      · exact absurd h1 (st.inv.notB b hb)
      · exact h1, fun _ => ⟨fun _ h => h, fun _ h _ => h, st.keep⟩⟩

end Go.Ev

namespace Go.Ev
open Go
variable {T : TypeId → Type} {P : Program} {E : Enc T} {W : Rec} {Γ : Hi T} {Y : Nat → Bool → (Nat → Prop) → (Nat → Prop) → H → Prop} {B B' : Nat → Prop} {ρ ρ1 ρ' : Loc} {ec ec' ec'' : EC T} {h h' h'' : H} {O O' : Nat → Prop}

/-- What is yielded to turns its own memory. -/
theorem Inv0.yield (I : Inv0 E B ρ ec h) {B2 : Nat → Prop} {h2 : H} {k : Nat} {fin : Bool} (ht : Top h2) (hn : h.next ≤ h2.next) (hg : ∀ i, i < h.next → ¬ B i → h2.get i = h.get i) (hB : ∀ i, B2 i → i < h2.next ∧ (i < h.next → B i)) :
    Inv0 E B2 ρ ⟨ec.env, ec.cnt, k, fin⟩ h2 ∧ Ext B ρ ec h B2 ρ ⟨ec.env, ec.cnt, k, fin⟩ h2 := by
  have hown : ∀ id s o q n b off, fnd ec.env id = some (s, o) → o.own = true → ρ id = some (q, n) → q.p = some ⟨b, off, none⟩ → h2.get b = h.get b := fun id s o q n b off h1 h2' h3 h4 =>
    hg b (I.blk_lt h1 h2' h3 h4) (I.notB b ⟨id, s, o, q, n, off, h1, h2', h3, h4⟩)
  have hmv : Mv h h2 (OwnS B ρ ec.env) (OwnS B2 ρ ec.env) ρ ρ := ⟨hn, fun b hb ho => hg b hb fun hc => ho (.inl hc), fun b hb ho => by
    rcases ho with ho | ho
    · exact .inl ((hB b ho).2 hb)
    · exact .inr ho, fun id q n hq => ⟨q, n, hq, Nat.le_refl _, fun _ => rfl, fun e => e⟩⟩
  refine ⟨⟨ht, I.dom, I.pos, I.vers, fun b hb => (hB b hb).1, fun b hb hc => ?_, I.dist, fun id s o hf => ?_, fun g cs hg' => ?_⟩, hmv, Nat.le_refl _, fun id s o hf _ => ⟨hf, fun q n b off hq hb ho => hown id s o q n b off hf ho hq hb⟩⟩
  · exact I.notB b hb ((hB b hc).2 (I.own_lt (.inr hb)))
  · obtain ⟨g1, g2⟩ := I.obj id s o hf
    exact ⟨g1, g2.keep hmv (fun q hq => hq) fun q b off ho hq hb => hown id s o q _ b off hf ho hq hb⟩
  · obtain ⟨g1, us, g2, g3⟩ := I.glob g cs hg'
    exact ⟨(hmv.layG g2 g1).2, us, (hmv.layG g2 g1).1, g3.mv hmv⟩

theorem xCall_elim (hE : EncOK E) (hy : YOK E W Γ Y) (I : Inv0 E B ρ ec h) (y : Y ec.k ec.fin B (ownB ρ ec.env) h) {f : X T} {args : List (X T)} {vf : Value} {vs : List Value} (df : D E h (OwnS B ρ ec.env) ρ f vf) (da : DL E h (OwnS B ρ ec.env) ρ args vs)
    {K : X T → EC T → Prop} (hs : xCall E W Γ f args ec K) :
    ∃ v rc h' B' ρ' x ec', W.call vf vs .unk h = some (.ret v, rc, h') ∧ GS E Γ Y B ρ ec h B' ρ' ec' h' ∧ D E h' (OwnS B' ρ' ec'.env) ρ' x v ∧ K x ec' := by
  unfold xCall at hs
  split at hs
  · rename_i g a b
    -- what is handed in
    have hprep : ∃ args1 ec1 V, (bif (Γ.sig g).keep then (args, ec) else bif (Γ.sig g).frz then (X.viewL ec args, fzN ec (X.seenL ec args)) else (X.viewL ec args, ec)) = (args1, ec1) ∧ (bif (Γ.sig g).keep || (Γ.sig g).frz then [] else X.seenL ec args) = V ∧ Stp E B ρ ec h ρ ec1 h ∧
        ∀ O' : Nat → Prop, (∀ b, O' b → OwnS B ρ ec1.env b) → (∀ id ∈ V, ∀ b, blkOf ρ ec1.env id b → ¬ O' b) → DL E h O' ρ args1 vs ∧ D E h O' ρ (.fn g a b) vf := by
      cases hk : (Γ.sig g).keep with
      | true => exact ⟨args, ec, [], by simp, by simp, .refl I, fun O' hO _ => ⟨da.sub hO, df.sub hO⟩⟩
      | false =>
        cases hf : (Γ.sig g).frz with
        | true =>
          obtain ⟨s1, s2, s3⟩ := fzN_spec (l := X.seenL ec args) I
          refine ⟨X.viewL ec args, fzN ec (X.seenL ec args), [], by simp, by simp, s1, fun O' hO _ => ?_⟩
          have hO1 : ∀ b, O' b → OwnS B ρ ec.env b := fun b hb => by
            rcases hO b hb with h1 | h1
            · exact .inl h1
            · exact .inr (s2 b h1)
          refine ⟨DL.view I hO1 da fun id hi b hb hc => ?_, df.sub hO1⟩
          rcases hO b hc with h1 | h1
          · exact I.notB b (ownB_iff.2 ⟨id, hb⟩) h1
          · exact s3 id hi b (seenL_os ec hi) hb h1
        | false => exact ⟨X.viewL ec args, ec, X.seenL ec args, by simp, by simp, .refl I, fun O' hO hV => ⟨DL.view I hO da hV, df.sub hO⟩⟩
    obtain ⟨args1, ec1, V, e1, e2, st1, hD⟩ := hprep
    rw [e1, e2] at hs
    simp only at hs
    split at hs
    · rename_i Ein hin
      obtain ⟨r, hc, hs⟩ := hs
      obtain ⟨hok, hs⟩ := need_iff.1 hs
      have hL : (closeN ec1.env (ec1.env.length + (addN [] (X.idsL a ++ X.idsL b ++ X.idsL args1)).length + 1) (addN [] (X.idsL a ++ X.idsL b ++ X.idsL args1)) 0).Nodup := closeN_nodup (addN_nodup (by simp))
      generalize closeN ec1.env (ec1.env.length + (addN [] (X.idsL a ++ X.idsL b ++ X.idsL args1)).length + 1) (addN [] (X.idsL a ++ X.idsL b ++ X.idsL args1)) 0 = L at hs hin hc hok hL
      have hVL : ∀ i ∈ V, i ∉ L := by
        intro i hi hm
        simp only [Bool.or_eq_true, Bool.and_eq_true, List.all_eq_true] at hok
        rcases hok with hok | hok
        · rw [nilL_eq hok] at hi; simp at hi
        · have := hok.1.1.1 i hi
          rw [memN_mem.2 hm] at this; cases this
      have hV : V = [] ∨ (((Γ.sig g).res r).hasRo = false ∧ (Γ.sig g).out r = [] ∧ (Γ.sig g).new r = []) := by
        simp only [Bool.or_eq_true, Bool.and_eq_true] at hok
        rcases hok with hok | hok
        · exact .inl (nilL_eq hok)
        · exact .inr ⟨by simpa using hok.1.1.2, nilL_eq hok.1.2, nilL_eq hok.2⟩
      have I1 := st1.inv
      have hsub := OC_sub (V := V) I1 hL hin
      obtain ⟨d1, d2⟩ := hD (OwnS (BC B ρ ec1.env L V) (ρC ρ L) (ecOf Ein).env) hsub fun id hi b hb hc => by
        rcases hc with (h1 | ⟨id', h1, h2, h3⟩) | h1
        · exact I1.notB b (ownB_iff.2 ⟨id, hb⟩) h1
        · exact h2 ((I1.blk_inj h3 hb) ▸ hi)
        · obtain ⟨k, h1⟩ := ownB_iff.1 h1
          obtain ⟨id', h2, h3⟩ := (blkC_iff I1 hL hin).1 h1
          exact hVL id hi ((I1.blk_inj h3 hb) ▸ List.mem_of_getElem? h2)
      have hI : ∀ id k q, idxN L id 0 = some k → ρ id = some (q, 0) → ρC ρ L k = some (q, 0) := fun id k q h1 h2 => inI I1 hL hin h1 h2
      have hM : ∀ id ver w, D E h (OwnS (BC B ρ ec1.env L V) (ρC ρ L) (ecOf Ein).env) ρ (.os id ver) w → D E h (OwnS (BC B ρ ec1.env L V) (ρC ρ L) (ecOf Ein).env) (ρC ρ L) (inM ec1 L id ver) w := fun id ver w d => inM_D I1 hL hin d
      have d3 := d1.ren (mi := fun i => idxN L i 0) (mo := inM ec1 L) hE hI hM (fun _ hb => hb)
      have d4 := d2.ren (mi := fun i => idxN L i 0) (mo := inM ec1 L) hE hI hM (.inl fun _ hb => hb)
      obtain ⟨v, rc, h', ρ2, k1, k2, k3⟩ := ctr_call hE I1 hL hVL hin hc d4 d3 hV
      exact ⟨v, rc, h', B, ρ2, _, _, k1, (st1.trans I k2).gs hy y, k3, hs⟩
    · exact hs.elim
  · rename_i w
    have hrow := hy.row
    have hstep := hy.step
    cases df
    split at hs
    · rename_i s hΓ hfin
      rw [hΓ] at hrow hstep
      simp only at hrow hstep
      obtain ⟨r, h1, rfl, rfl, h2, h3⟩ := hs
      rw [hfin] at y
      have da2 : DL E h (fun b => B b ∨ ownB ρ ec.env b) (fun _ => none) (s.enc r) vs := ⟨da.1, fun j x w g1 g2 => (da.2 j x w g1 g2).row_loc hE (hrow r x (List.mem_of_getElem? g1)) fun b hb => hb⟩
      obtain ⟨b, rc, h2', B2, g1, g2, g3, g4, g5, g6⟩ := hstep ec.k r vs B _ h h1 y I.top (fun b hb => I.own_lt hb) I.notB da2
      cases b with
      | true =>
        obtain ⟨i1, i2⟩ := I.yield (k := ec.k + 1) (fin := false) g3 g4 g5 g6
        exact ⟨_, rc, h2', B2, ρ, _, _, g1, ⟨i1, i2, g2, fun hn => by rw [hΓ] at hn; cases hn⟩, .v _, h2⟩
      | false =>
        obtain ⟨i1, i2⟩ := I.yield (k := ec.k) (fin := true) g3 g4 g5 g6
        exact ⟨_, rc, h2', B2, ρ, _, _, g1, ⟨i1, i2, g2, fun hn => by rw [hΓ] at hn; cases hn⟩, .v _, h3⟩
    · exact hs.elim
  · exact hs.elim

end Go.Ev

namespace Go.Ev
open Go
variable {T : TypeId → Type} {P : Program} {E : Enc T} {W : Rec} {Γ : Hi T} {Y : Nat → Bool → (Nat → Prop) → (Nat → Prop) → H → Prop} {B B' : Nat → Prop} {ρ ρ1 ρ' : Loc} {ec ec' ec'' : EC T} {h h' h'' : H} {O O' : Nat → Prop} {ts : List (X T)} {vs : List Value}

theorem xPut_elim {dst : Option Tmp} {x : X T} {K : List (X T) → Prop} (hs : xPut dst x ts K) : K (putX' dst x ts) := by
  unfold xPut at hs
  cases dst with
  | none => exact hs
  | some d =>
    simp only at hs
    split at hs
    · rcases brB_elim hs with ⟨rfl, h1⟩ | ⟨rfl, h1⟩ <;> exact h1
    · exact hs

theorem DL.put {dst : Option Tmp} {x : X T} {v : Value} (d : DL E h O ρ ts vs) (dx : D E h O ρ x v) : DL E h O ρ (putX' dst x ts) (putL dst v vs) := by
  cases dst with
  | none => exact d
  | some t => exact d.set t dx

theorem xGuard_elim {g : Option (Tmp × Bool)} {A C : Prop} (d : DL E h O ρ ts vs) (hs : xGuard g ts A C) : (wantedA g vs = true ∧ A) ∨ (wantedA g vs = false ∧ C) := by
  cases g with
  | none => exact .inl ⟨rfl, hs⟩
  | some tb =>
    obtain ⟨t, b⟩ := tb
    simp only [xGuard] at hs
    have hd := d.getD t undef
    have hget : ∀ w, ts.getD t .bad = .v w → vs[t]? = some w := fun w hw => by
      rw [hw] at hd
      have := v_D hd
      rw [List.getD_eq_getElem?_getD] at hw
      cases hts : ts[t]? with
      | none => rw [hts] at hw; cases hw
      | some x =>
        have hlt := (List.getElem?_eq_some_iff.1 hts).1
        rw [d.1] at hlt
        rw [List.getD_eq_getElem?_getD, List.getElem?_eq_getElem hlt] at this
        rw [List.getElem?_eq_getElem hlt]
        exact congrArg some this
    split at hs
    · rename_i c hc
      simp only [wantedA, hget _ hc]
      cases b with
      | true => rcases brB_elim hs with ⟨rfl, h1⟩ | ⟨rfl, h1⟩; exact .inl ⟨rfl, h1⟩; exact .inr ⟨rfl, h1⟩
      | false => rcases brB_elim hs with ⟨rfl, h1⟩ | ⟨rfl, h1⟩; exact .inr ⟨rfl, h1⟩; exact .inl ⟨rfl, h1⟩
    · rename_i w hne hw
      right
      refine ⟨?_, hs⟩
      simp only [wantedA, hget _ hw]
      cases w <;> first | rfl | exact absurd rfl (hne _)
    · exact hs.elim

theorem xOp_elim (hE : EncOK E) (hy : YOK E W Γ Y) (I : Inv0 E B ρ ec h) (y : Y ec.k ec.fin B (ownB ρ ec.env) h) (d : DL E h (OwnS B ρ ec.env) ρ ts vs) {o : AO} (hw : wantedA o.guard vs = true) {K : List (X T) → EC T → Prop} (hs : xOp P E W Γ o ts ec K) :
    ∃ v h' B' ρ' ts' ec', (∀ df rc rd, evOp P W o (mkA vs df rc rd) h = some (.on (mkA (putL o.dst v vs) df rc rd) h')) ∧ opV P W o vs h = some (v, h') ∧ GS E Γ Y B ρ ec h B' ρ' ec' h' ∧ DL E h' (OwnS B' ρ' ec'.env) ρ' ts' (putL o.dst v vs) ∧ K ts' ec' ∧
      (quietO o = true → h'.next = h.next) := by
  unfold xOp at hs
  have hcall : ∀ {f : Operand} {args : List Operand}, xCall E W Γ (xev ts f) (args.map (xev ts)) ec (fun x ec' => xPut o.dst x ts fun ts' => K ts' ec') →
      ∃ v rc h' B' ρ' ts' ec', W.call (aev vs f) (args.map (aev vs)) .unk h = some (.ret v, rc, h') ∧ GS E Γ Y B ρ ec h B' ρ' ec' h' ∧ DL E h' (OwnS B' ρ' ec'.env) ρ' ts' (putL o.dst v vs) ∧ K ts' ec' := by
    intro f args hs
    obtain ⟨v, rc, h', B', ρ', x, ec', h1, h2, h3, h4⟩ := xCall_elim hE hy I y (D.xev d f) (DL.xevs d args) hs
    exact ⟨v, rc, h', B', ρ', _, ec', h1, h2, (d.mv h2.ext.mv).put h3, xPut_elim (K := fun ts' => K ts' ec') h4⟩
  have hother : xVal P E o.op ts ec (fun x ec' => xPut o.dst x ts fun ts' => K ts' ec') → ∃ v h' B' ρ' ts' ec', aexec P vs h o.op = some (v, h') ∧ GS E Γ Y B ρ ec h B' ρ' ec' h' ∧ DL E h' (OwnS B' ρ' ec'.env) ρ' ts' (putL o.dst v vs) ∧ K ts' ec' := by
    intro hs
    obtain ⟨v, h', ρ', x, ec', h1, h2, h3, h4⟩ := xVal_elim hE I d hs
    exact ⟨v, h', B, ρ', _, ec', h1, h2.gs hy y, (d.mv h2.ext.mv).put h3, xPut_elim (K := fun ts' => K ts' ec') h4⟩
  have hwm : ∀ df rc rd, wantedA o.guard (mkA vs df rc rd).tmps = true := fun _ _ _ => hw
  unfold evOp opV quietO
  simp only [hwm, hw, if_true]
  cases hop : o.op <;> rw [hop] at hs hother <;> simp only at hs ⊢
  case call f args =>
    obtain ⟨v, rc, h', B', ρ', ts', ec', h1, h2, h3, h4⟩ := hcall hs
    exact ⟨v, h', B', ρ', ts', ec', fun df rc rd => by simp only [mkA]; rw [h1]; rfl, by rw [h1], h2, h3, h4, fun e => by cases e⟩
  case callP f args =>
    obtain ⟨v, rc, h', B', ρ', ts', ec', h1, h2, h3, h4⟩ := hcall hs
    exact ⟨v, h', B', ρ', ts', ec', fun df rc rd => by simp only [mkA]; rw [h1]; rfl, by rw [h1], h2, h3, h4, fun e => by cases e⟩
  case store n a x =>
    obtain ⟨v, h', B', ρ', ts', ec', h1, h2, h3, h4⟩ := hother hs
    refine ⟨v, h', B', ρ', ts', ec', fun df rc rd => by simp only [mkA]; rw [h1]; rfl, h1, h2, h3, h4, fun _ => ?_⟩
    simp only [aexec] at h1
    split at h1
    · split at h1
      · split at h1
        · cases h1; rfl
        · cases h1
      · cases h1
    · cases h1
  all_goals first
    | exact hs.elim
    | (obtain ⟨v, h', B', ρ', ts', ec', h1, h2, h3, h4⟩ := hother hs
       refine ⟨v, h', B', ρ', ts', ec', fun df rc rd => by simp only [mkA]; rw [h1]; rfl, h1, h2, h3, h4, fun hq => ?_⟩
       rw [aexec_quiet (by simpa using hq) h1])

theorem evOp_off {o : AO} {a : AAct} (hw : wantedA o.guard a.tmps = false) : evOp P W o a h = some (.on (a.put o.dst undef) h) := by
  unfold evOp
  rw [if_neg (by rw [hw]; simp)]

theorem xOps_elim (hE : EncOK E) (hy : YOK E W Γ Y) : ∀ {l : List AO} {B : Nat → Prop} {ρ : Loc} {ec : EC T} {h : H} {ts : List (X T)} {vs : List Value} {K : List (X T) → EC T → Prop}, Inv0 E B ρ ec h → Y ec.k ec.fin B (ownB ρ ec.env) h → DL E h (OwnS B ρ ec.env) ρ ts vs → xOps P E W Γ l ts ec K →
    ∃ vs' h' B' ρ' ts' ec', (∀ df rc rd, evOps P W l (mkA vs df rc rd) h = some (.normal, mkA vs' df rc rd, h')) ∧ GS E Γ Y B ρ ec h B' ρ' ec' h' ∧ DL E h' (OwnS B' ρ' ec'.env) ρ' ts' vs' ∧ K ts' ec'
  | [], B, ρ, ec, h, ts, vs, K, I, y, d, hs => ⟨vs, h, B, ρ, ts, ec, fun _ _ _ => rfl, .refl I y, d, hs⟩
  | o :: r, B, ρ, ec, h, ts, vs, K, I, y, d, hs => by
    simp only [xOps] at hs
    simp only [evOps]
    rcases xGuard_elim d hs with ⟨hw, hs⟩ | ⟨hw, hs⟩
    · obtain ⟨v, h1, B1, ρ1, t1, e1, g1, _, g2, g3, g4, _⟩ := xOp_elim hE hy I y d hw hs
      obtain ⟨vs', h', B', ρ', ts', ec', k1, k2, k3, k4⟩ := xOps_elim hE hy g2.inv g2.y g3 g4
      exact ⟨vs', h', B', ρ', ts', ec', fun df rc rd => by rw [g1]; exact k1 df rc rd, g2.trans I k2, k3, k4⟩
    · obtain ⟨vs', h', B', ρ', ts', ec', k1, k2, k3, k4⟩ := xOps_elim hE hy I y (d.put (dst := o.dst) (.v undef)) hs
      exact ⟨vs', h', B', ρ', ts', ec', fun df rc rd => by rw [evOp_off (show wantedA o.guard (mkA vs df rc rd).tmps = false from hw)]; exact k1 df rc rd, k2, k3, k4⟩

/-! ### Regions that draw their order -/
structure St1 (T : TypeId → Type) where
  ts : List (X T)
  ec : EC T
  vs : List Value
  h : H
  B : Nat → Prop
  ρ : Loc

def St1.ok (E : Enc T) (s : St1 T) : Prop := Inv0 E s.B s.ρ s.ec s.h ∧ DL E s.h (OwnS s.B s.ρ s.ec.env) s.ρ s.ts s.vs

/-- The states, one behind the other. -/
def RelX (E : Enc T) : List AO → List (St1 T) → Prop
  | _, [] => True
  | l, s :: r => s.ok E ∧ (∀ (j : Nat) (u : St1 T), r[j]? = some u → Ext s.B s.ρ s.ec s.h u.B u.ρ u.ec u.h ∧ ((l.take (j + 1)).all quietO = true → u.h.next = s.h.next)) ∧ RelX E (l.drop 1) r

theorem xTr_elim (hE : EncOK E) (hy : YOK E W Γ Y) : ∀ {l : List AO} {G : List (List (X T) × EC T)} {B : Nat → Prop} {ρ : Loc} {ec : EC T} {h : H} {ts : List (X T)} {vs : List Value} {K : List (List (X T) × EC T) → List (X T) → EC T → Prop}, Inv0 E B ρ ec h → Y ec.k ec.fin B (ownB ρ ec.env) h → DL E h (OwnS B ρ ec.env) ρ ts vs → xTr P E W Γ l G ts ec K →
    ∃ (S : List (St1 T)) (u : St1 T), trace P W l vs h = some (S.map fun s => (s.vs, s.h)) ∧ RelX E l S ∧ S.length = l.length + 1 ∧ S[l.length]? = some u ∧ S[0]? = some ⟨ts, ec, vs, h, B, ρ⟩ ∧ GS E Γ Y B ρ ec h u.B u.ρ u.ec u.h ∧ K ((S.map fun s => (s.ts, s.ec)).reverse ++ G) u.ts u.ec
  | [], G, B, ρ, ec, h, ts, vs, K, I, y, d, hs => ⟨[⟨ts, ec, vs, h, B, ρ⟩], ⟨ts, ec, vs, h, B, ρ⟩, rfl, ⟨⟨I, d⟩, fun j u hj => by simp at hj, trivial⟩, rfl, rfl, rfl, .refl I y, hs⟩
  | o :: r, G, B, ρ, ec, h, ts, vs, K, I, y, d, hs => by
    simp only [xTr] at hs
    have fin : ∀ {v : Value} {h1 : H} {B1 : Nat → Prop} {ρ1 : Loc} {t1 : List (X T)} {e1 : EC T}, opV P W o vs h = some (v, h1) → GS E Γ Y B ρ ec h B1 ρ1 e1 h1 → DL E h1 (OwnS B1 ρ1 e1.env) ρ1 t1 (putL o.dst v vs) → xTr P E W Γ r ((ts, ec) :: G) t1 e1 K → (quietO o = true → h1.next = h.next) →
        ∃ (S : List (St1 T)) (u : St1 T), trace P W (o :: r) vs h = some (S.map fun s => (s.vs, s.h)) ∧ RelX E (o :: r) S ∧ S.length = (o :: r).length + 1 ∧ S[(o :: r).length]? = some u ∧ S[0]? = some ⟨ts, ec, vs, h, B, ρ⟩ ∧ GS E Γ Y B ρ ec h u.B u.ρ u.ec u.h ∧ K ((S.map fun s => (s.ts, s.ec)).reverse ++ G) u.ts u.ec := by
      intro v h1 B1 ρ1 t1 e1 g1 g2 g3 g4 g5
      obtain ⟨S, u, k1, k2, k3, k4, k0, k5, k6⟩ := xTr_elim hE hy g2.inv g2.y g3 g4
      have hx : ∀ (j : Nat) (w : St1 T), S[j]? = some w → Ext B1 ρ1 e1 h1 w.B w.ρ w.ec w.h ∧ ((r.take j).all quietO = true → w.h.next = h1.next) := by
        intro j w hj
        cases S with
        | nil => simp at hj
        | cons s S =>
          simp only [List.getElem?_cons_zero, Option.some.injEq] at k0
          subst k0
          cases j with
          | zero => simp at hj; subst hj; exact ⟨.refl, fun _ => rfl⟩
          | succ j => simp at hj; exact k2.2.1 j w hj
      refine ⟨⟨ts, ec, vs, h, B, ρ⟩ :: S, u, ?_, ⟨⟨I, d⟩, fun j w hj => ?_, k2⟩, by simp [k3], by simpa using k4, rfl, g2.trans I k5, ?_⟩
      · simp only [trace, g1, k1, Option.map_some, List.map_cons]
      · obtain ⟨a1, a2⟩ := hx j w hj
        refine ⟨g2.ext.trans I g2.inv a1, fun hq => ?_⟩
        simp only [List.take_succ_cons, List.all_cons, Bool.and_eq_true] at hq
        rw [a2 hq.2, g5 hq.1]
      · simpa using k6
    rcases xGuard_elim d hs with ⟨hw, hs⟩ | ⟨hw, hs⟩
    · obtain ⟨v, h1, B1, ρ1, t1, e1, _, g1, g2, g3, g4, g5⟩ := xOp_elim hE hy I y d hw hs
      exact fin g1 g2 g3 g4 g5
    · refine fin (v := undef) (h1 := h) ?_ (.refl I y) (d.put (dst := o.dst) (.v undef)) hs (fun _ => rfl)
      unfold opV
      rw [if_neg (by rw [hw]; simp)]

end Go.Ev

namespace Go.Ev
open Go
variable {T : TypeId → Type} {P : Program} {E : Enc T} {W : Rec} {Γ : Hi T} {Y : Nat → Bool → (Nat → Prop) → (Nat → Prop) → H → Prop} {B B' : Nat → Prop} {ρ ρ1 ρ' : Loc} {ec ec' ec'' : EC T} {h h' h'' : H} {O O' : Nat → Prop} {ts : List (X T)} {vs : List Value}

theorem RelX.ok : ∀ {l : List AO} {S : List (St1 T)} {i : Nat} {s : St1 T}, RelX E l S → S[i]? = some s → s.ok E
  | _, [], _, _, _, h => by simp at h
  | l, x :: r, 0, s, hr, h => by simp at h; subst h; exact hr.1
  | l, x :: r, i + 1, s, hr, h => by simp at h; exact RelX.ok hr.2.2 h

theorem RelX.lt : ∀ {l : List AO} {S : List (St1 T)} {i m : Nat} {s u : St1 T}, RelX E l S → i < m → S[i]? = some s → S[m]? = some u → Ext s.B s.ρ s.ec s.h u.B u.ρ u.ec u.h ∧ (((l.take m).drop i).all quietO = true → u.h.next = s.h.next)
  | _, [], _, _, _, _, _, _, h, _ => by simp at h
  | l, x :: r, 0, m + 1, s, u, hr, _, h1, h2 => by
    simp at h1 h2
    subst h1
    exact hr.2.1 m u h2
  | l, x :: r, i + 1, m + 1, s, u, hr, hlt, h1, h2 => by
    simp at h1 h2
    obtain ⟨a, b⟩ := RelX.lt hr.2.2 (by omega) h1 h2
    refine ⟨a, fun hq => b ?_⟩
    rw [List.take_drop, List.drop_drop] at *
    cases l with
    | nil => simp
    | cons o l => simpa [Nat.add_comm] using hq

theorem good_D {x : X T} {w : Value} (d : D E h O ρ x w) (hg : x.good = true) : goodV w = true := by
  cases d with
  | v w => exact hg
  | ro => rfl
  | os => rfl
  | ptr => rfl
  | mp => rfl
  | fn g a b va vb ha hb _ _ =>
    simp only [X.good, Bool.and_eq_true] at hg
    have e1 := nilL_eq hg.1
    have e2 := nilL_eq hg.2
    subst e1; subst e2
    have e3 : va = [] := List.length_eq_zero_iff.1 ha.symm
    have e4 : vb = [] := List.length_eq_zero_iff.1 hb.symm
    subst e3; subst e4
    rfl
  | _ => cases hg

theorem goods_D {l : List (X T)} {us : List Value} (d : DL E h O ρ l us) (hg : l.all (·.good) = true) : us.all goodV = true := by
  rw [List.all_eq_true] at hg ⊢
  intro w hw
  obtain ⟨j, hj, rfl⟩ := List.getElem_of_mem hw
  have hj' : j < l.length := by rw [d.1]; exact hj
  exact good_D (d.2 j _ _ (List.getElem?_eq_getElem hj') (List.getElem?_eq_getElem hj)) (hg _ (List.getElem_mem hj'))

theorem sameS_spec {a b : Option (Nat × Ob T)} (hs : sameS a b = true) : ∃ s o o', a = some (s, o) ∧ b = some (s, o') := by
  unfold sameS at hs
  split at hs
  · rename_i s o s' o'
    have := Nat.eq_of_beq_eq_true hs
    subst this
    exact ⟨s, o, o', rfl, rfl⟩
  · cases hs

theorem RelX.same {l : List AO} {S : List (St1 T)} (hr : RelX E l S) {i m : Nat} {s u : St1 T} (h1 : S[i]? = some s) (h2 : S[m]? = some u) {id : Nat} (hs : sameS (fnd s.ec.env id) (fnd u.ec.env id) = true) {st n b off : Nat} {o : Ob T} {q : SV}
    (hf : fnd s.ec.env id = some (st, o)) (ho : o.own = true) (hq : s.ρ id = some (q, n)) (hb : q.p = some ⟨b, off, none⟩) : u.h.get b = s.h.get b := by
  obtain ⟨st', o1, o2, e1, e2⟩ := sameS_spec hs
  rw [hf] at e1; cases e1
  have I1 := (hr.ok h1).1
  have I2 := (hr.ok h2).1
  rcases Nat.lt_trichotomy i m with hlt | heq | hgt
  · obtain ⟨x, _⟩ := hr.lt hlt h1 h2
    obtain ⟨g1, g2⟩ := x.stab id st o2 e2 (I1.obj _ _ _ hf).1
    rw [hf] at g1; cases g1
    exact g2 q n b off hq hb ho
  · subst heq
    rw [h1] at h2; cases h2; rfl
  · obtain ⟨x, _⟩ := hr.lt hgt h2 h1
    obtain ⟨g1, g2⟩ := x.stab id st o hf (I2.obj _ _ _ e2).1
    obtain ⟨q1, k1⟩ := OOk.loc (I2.obj _ _ _ g1).2
    obtain ⟨q2, k2⟩ := OOk.loc (I1.obj _ _ _ hf).2
    have := x.mv.same k1 k2
    rw [hq] at k2; cases k2
    rw [this] at hb
    exact (g2 _ _ b off k1 hb ho).symm

theorem RelX.ro {l : List AO} {S : List (St1 T)} (hr : RelX E l S) {i m : Nat} {s u : St1 T} (h1 : S[i]? = some s) (h2 : S[m]? = some u) {b : Nat} (hlt : b < s.h.next) (ho : ¬ OwnS s.B s.ρ s.ec.env b) (hq : i ≤ m) : u.h.get b = s.h.get b := by
  rcases Nat.lt_or_ge i m with hl | hge
  · exact (hr.lt hl h1 h2).1.mv.get b hlt ho
  · have : i = m := by omega
    subst this
    rw [h1] at h2; cases h2; rfl

/-- What no code ever owns. -/
theorem RelX.glob {l : List AO} {S : List (St1 T)} (hr : RelX E l S) {i m : Nat} {s u : St1 T} (h1 : S[i]? = some s) (h2 : S[m]? = some u) {g : Nat} {cs : List (X T)} (hg : E.glob g = some cs) : u.h.get g = s.h.get g := by
  rcases Nat.lt_trichotomy i m with hl | heq | hgt
  · obtain ⟨g1, vs, g2, _⟩ := (hr.ok h1).1.glob g cs hg
    exact (hr.lt hl h1 h2).1.mv.get g g2.lt g1
  · subst heq
    rw [h1] at h2; cases h2; rfl
  · obtain ⟨g1, vs, g2, _⟩ := (hr.ok h2).1.glob g cs hg
    exact ((hr.lt hgt h2 h1).1.mv.get g g2.lt g1).symm

theorem same_cells {b off n : Nat} {blk : Blk} {us : List Value} {h h' : H} (h1 : h.get b = some blk) (h2 : h'.get b = h.get b) (hr : blk.read = some us) (hl : off + n ≤ us.length) (hg : ((us.drop off).take n).all goodV = true) : sameCells h h' ⟨b, off, none⟩ n = true := by
  unfold sameCells
  rw [blk_cells h1 hr hl, blk_cells (h2.trans h1) hr hl]
  exact goodV_eqs hg

theorem goods_sub {us : List Value} {off n : Nat} (hg : us.all goodV = true) : ((us.drop off).take n).all goodV = true := by
  rw [List.all_eq_true] at hg ⊢
  exact fun w hw => hg w (List.mem_of_mem_drop (List.mem_of_mem_take hw))

theorem xChk_elim (hE : EncOK E) {ops : List AO} {S : List (St1 T)} (hr : RelX E ops S) : ∀ {cs : List (Nat × Nat)} {K : Prop}, xChk E ops (S.map fun s => (s.ts, s.ec)) cs K → cs.all (checkG ops (S.map fun s => (s.vs, s.h))) = true ∧ K
  | [], K, hs => ⟨rfl, hs⟩
  | c :: r, K, hs => by
    obtain ⟨h1, h2⟩ := hs
    obtain ⟨k1, k2⟩ := xChk_elim hE hr h2
    refine ⟨?_, k2⟩
    rw [List.all_cons, k1, Bool.and_true]
    split at h1
    · rename_i o ts ec ts' ec' ho hs1 hs2
      rw [List.getElem?_map, Option.map_eq_some_iff] at hs1 hs2
      obtain ⟨s, hs1, e1⟩ := hs1
      obtain ⟨u, hs2, e2⟩ := hs2
      cases e1; cases e2
      obtain ⟨I, d⟩ := hr.ok hs1
      unfold checkG
      rw [ho, List.getElem?_map, List.getElem?_map, hs1, hs2]
      simp only [Option.map_some]
      rcases xGuard_elim d h1 with ⟨hw, h1⟩ | ⟨hw, _⟩
      · rw [if_pos hw]
        split at h1
        · rename_i agg n x hop
          rw [hop]
          simp only
          have dx := D.xev d x
          generalize aev s.vs x = va at dx ⊢
          cases hx : xev s.ts x <;> rw [hx] at h1 dx <;> simp only at h1
          case ptr id off =>
            split at h1
            · rename_i cs hg
              obtain ⟨hc, _⟩ := need_iff.1 h1
              simp only [Bool.and_eq_true] at hc
              obtain ⟨st, hf⟩ := get_fnd hg
              obtain ⟨_, q, b, us, t, e, rr, g1, g2, g3, g4, g5⟩ := I.obj id st _ hf
              cases dx with
              | ptr _ _ b' q' hq hb =>
                rw [g1] at hq; cases hq
                rw [g2] at hb; cases hb
                exact same_cells g4 (hr.same hs1 hs2 hc.1.1 hf rfl g1 g2) rfl (by rw [← g5.1]; exact Nat.le_of_ble_eq_true hc.1.2) (goods_D ((g5.drop off).take n) hc.2)
            · exact h1.elim
          case arr id base size len i =>
            split at h1
            · rename_i cs hg
              obtain ⟨hc, _⟩ := need_iff.1 h1
              simp only [Bool.and_eq_true] at hc
              obtain ⟨st, hf⟩ := get_fnd hg
              obtain ⟨_, q, b, us, t, e, rr, g1, g2, g3, g4, g5⟩ := I.obj id st _ hf
              have c1 := Nat.eq_of_beq_eq_true hc.1.1.1.2
              have c2 := Nat.eq_of_beq_eq_true hc.1.1.2
              have c3 := Nat.le_of_ble_eq_true hc.1.2
              have hul := g5.1
              subst c1; subst c2
              cases dx with
              | arr _ _ _ _ b' _ q' hq hb hi0 hi1 =>
                rw [g1] at hq; cases hq
                rw [g2] at hb; cases hb
                refine same_cells g4 (hr.same hs1 hs2 hc.1.1.1.1 hf rfl g1 g2) rfl (by omega) ?_
                have hgood := goods_D ((g5.drop base).take len) hc.2
                rw [List.all_eq_true] at hgood ⊢
                intro w hw
                refine hgood w ?_
                have hlt : i.toNat < len := by omega
                rw [Nat.mul_one, List.take_one, List.head?_drop] at hw
                have hw2 : us[base + i.toNat]? = some w := by
                  cases hu : us[base + i.toNat]? with
                  | none => rw [hu] at hw; simp at hw
                  | some z => rw [hu] at hw; simp at hw; rw [hw]
                refine List.mem_of_getElem? (i := i.toNat) ?_
                rw [List.getElem?_take_of_lt hlt, List.getElem?_drop]; exact hw2
            · exact h1.elim
          case ea e r off =>
            obtain ⟨hc, _⟩ := need_iff.1 h1
            simp only [Bool.and_eq_true] at hc
            cases dx with
            | ea _ _ _ b o' cs hlay hlen hown hrow =>
              obtain ⟨k, k3, k4⟩ := hlay.at'
              have hle := Nat.le_of_ble_eq_true hc.1.1
              rw [hE.len] at hle
              have dl : DL E s.h (OwnS s.B s.ρ s.ec.env) s.ρ (E.enc e r) ((cs.drop o').take (E.sz e)) := ⟨by rw [hE.len, List.length_take, List.length_drop]; omega, fun j x w h1 h2 => by
                have hj : j < E.sz e := by rw [← hE.len e r]; exact (List.getElem?_eq_some_iff.1 h1).1
                rw [List.getElem?_take_of_lt hj, List.getElem?_drop] at h2
                exact hrow j x w h1 h2⟩
              have hgood := goods_D dl hc.1.2
              refine same_cells k3 (hr.ro hs1 hs2 hlay.lt hown (Nat.le_of_ble_eq_true hc.2)) k4 (by omega) ?_
              have e3 : (cs.drop (o' + off)).take n = (((cs.drop o').take (E.sz e)).drop off).take n := by
                rw [List.drop_take, List.drop_drop, List.take_take, Nat.min_eq_left (by omega)]
              rw [e3]; exact goods_sub hgood
          case oa id ver e i off =>
            split at h1
            · rename_i v' e' l hg
              obtain ⟨hc, h3⟩ := need_iff.1 h1
              simp only [Bool.and_eq_true] at hc
              have c1 := Nat.eq_of_beq_eq_true hc.1.1.2
              have c2 := Nat.eq_of_beq_eq_true hc.1.2
              have c3 := Nat.le_of_ble_eq_true hc.2
              subst c1; subst c2
              obtain ⟨st, hf⟩ := get_fnd hg
              obtain ⟨_, q, rows, g1, g0, g2, g3, g4, g5⟩ := I.obj id st _ hf
              cases dx with
              | oa _ _ n' _ _ _ q' b o' hq hle hwv =>
                rw [g1] at hq; cases hq
                obtain ⟨hlt, hb, rfl⟩ := hwv rfl
                rcases g2.2 with ⟨e1, _⟩ | ⟨b', t, e1, hblt, hblk⟩
                · rw [e1] at hb; cases hb
                · have hp : b' = b := by rw [e1] at hb; cases hb; rfl
                  subst hp
                  have hqn : q.n = rows.length := by rw [e1]
                  have hil : i.toNat < l.length := by omega
                  have hir : i.toNat < rows.length := by omega
                  have dl := g5 i.toNat _ _ (List.getElem?_eq_getElem hil) (List.getElem?_eq_getElem hir)
                  have hgood := goods_D dl (need_iff.1 (h3 _ (List.getElem?_eq_getElem hil))).1
                  have hsz := g2.1 _ (List.getElem_mem hir)
                  have hfl := flatten_len g2.1
                  have hrow := flatten_row g2.1 (List.getElem?_eq_getElem hir)
                  have hb1 : i.toNat * E.sz e + E.sz e ≤ rows.length * E.sz e := by
                    have := Nat.mul_le_mul_right (E.sz e) (show i.toNat + 1 ≤ rows.length by omega)
                    rw [Nat.add_mul, Nat.one_mul] at this; exact this
                  refine same_cells hblk (hr.same hs1 hs2 hc.1.1.1 hf rfl g1 hb) rfl (by omega) ?_
                  have e3 : (rows.flatten.drop (i.toNat * E.sz e + off)).take n = (rows[i.toNat].drop off).take n := by
                    rw [← hrow, List.drop_take, List.drop_drop, List.take_take, Nat.min_eq_left (by omega)]
                  rw [e3]; exact goods_sub hgood
            · exact h1.elim
          case gp g off =>
            split at h1
            · rename_i cs hg
              obtain ⟨hc, _⟩ := need_iff.1 h1
              simp only [Bool.and_eq_true] at hc
              obtain ⟨_, us, k1', k2'⟩ := I.glob g cs hg
              obtain ⟨k, k3, k4⟩ := k1'.at'
              cases dx with
              | gp _ _ => exact same_cells k3 (hr.glob hs1 hs2 hg) k4 (by rw [← k2'.1]; exact Nat.le_of_ble_eq_true hc.1) (goods_sub (goods_D k2' hc.2))
            · exact h1.elim
          case ga g base size len i =>
            split at h1
            · rename_i cs hg
              obtain ⟨hc, _⟩ := need_iff.1 h1
              simp only [Bool.and_eq_true] at hc
              have c1 := Nat.eq_of_beq_eq_true hc.1.1.1
              have c2 := Nat.eq_of_beq_eq_true hc.1.1.2
              have c3 := Nat.le_of_ble_eq_true hc.1.2
              subst c1; subst c2
              obtain ⟨_, us, k1', k2'⟩ := I.glob g cs hg
              have hul := k2'.1
              obtain ⟨k, k3, k4⟩ := k1'.at'
              cases dx with
              | ga _ _ _ _ _ hi0 hi1 => exact same_cells k3 (hr.glob hs1 hs2 hg) k4 (by omega) (goods_sub (goods_D k2' hc.2))
            · exact h1.elim
          all_goals exact h1.elim
        · exact h1.elim
      · rw [if_neg (by rw [hw]; simp)]
    · exact h1.elim

end Go.Ev

namespace Go.Ev
open Go
variable {T : TypeId → Type} {P : Program} {E : Enc T} {W : Rec} {Γ : Hi T} {Y : Nat → Bool → (Nat → Prop) → (Nat → Prop) → H → Prop} {B B' : Nat → Prop} {ρ ρ1 ρ' ρE : Loc} {ec ec' ec'' : EC T} {h h' h'' hE' : H} {O O' : Nat → Prop} {ts : List (X T)} {vs : List Value}

/-- A box is told anew. -/
theorem Inv0.retell (I : Inv0 E B ρ ec h) {id s b : Nat} {cs cs' : List (X T)} (hf : fnd ec.env id = some (s, .box cs)) {q : SV} {us : List Value} {t : Bool} {e r : Nat} (h1 : ρ id = some (q, 0)) (h2 : q.p = some ⟨b, 0, none⟩) (h4 : h.get b = some (.cells t us e r))
    (hd : DL E h (OwnS B ρ ec.env) ρ cs' us) : Stp E B ρ ec h ρ (ec.put id (.box cs')) h := by
  obtain ⟨a, b', c⟩ := I.upd (ec' := ec.put id (.box cs')) (ρ' := ρ) (h' := h) id ec.cnt (.box cs') (fnd_put ec id _) (Nat.le_refl _) (Nat.lt_succ_self _) (Nat.lt_succ_of_lt (I.fnd_lt hf))
    (fun _ _ => rfl) (fun q' n' hq' => ⟨q', n', hq', Nat.le_refl _, fun _ => rfl, fun e => e⟩) (fun q' n' hq' => Nat.lt_succ_of_lt (I.vers _ _ _ hq')) I.top (Nat.le_refl _)
    (fun c hc hne => rfl) (fun q' n' b1 off1 _ g2 g3 => .inr ⟨s, _, q', n', off1, hf, rfl, g2, g3⟩)
    (fun m => ⟨q, b, us, t, e, r, h1, h2, I.blk_lt hf rfl h1 h2, h4, hd.mv m⟩)
  exact ⟨a, b', c, rfl, rfl⟩

theorem nrmShp_spec (I : Inv0 E B ρ ec h) {s : Shp} {x y : X T} {w : Value} (d : D E h (OwnS B ρ ec.env) ρ x w) (hn : nrmShp s x ec = (y, ec')) :
    ∃ ρ', Stp E B ρ ec h ρ' ec' h ∧ D E h (OwnS B ρ' ec'.env) ρ' y w ∧ (∀ id, id < ec.cnt → fnd ec'.env id = fnd ec.env id) := by
  unfold nrmShp at hn
  split at hn
  · rename_i e
    cases hn
    have := v_D d
    subst this
    refine ⟨_, I.newNil e, .os ec.cnt 1 1 ⟨none, 0, 0⟩ ⟨none, 0, 0⟩ (setR_same _ _ _) (Nat.le_refl _) fun _ => rfl, fun id hid => ?_⟩
    rw [fnd_new, if_neg (by omega)]
  · cases hn
    exact ⟨ρ, .refl I, d, fun _ _ => rfl⟩

theorem nrmShps_spec : ∀ {ss : List Shp} {xs ys : List (X T)} {us : List Value} {ρ : Loc} {ec ec' : EC T}, Inv0 E B ρ ec h → DL E h (OwnS B ρ ec.env) ρ xs us → nrmShps ss xs ec = (ys, ec') →
    ∃ ρ', Stp E B ρ ec h ρ' ec' h ∧ DL E h (OwnS B ρ' ec'.env) ρ' ys us ∧ (∀ id, id < ec.cnt → fnd ec'.env id = fnd ec.env id)
  | s :: r, x :: xs, ys, us, ρ, ec, ec', I, d, hn => by
    simp only [nrmShps] at hn
    cases h1 : nrmShp s x ec with
    | mk y ec1 =>
      rw [h1] at hn
      simp only at hn
      cases h2 : nrmShps r xs ec1 with
      | mk ys' ec2 =>
        rw [h2] at hn
        cases hn
        obtain ⟨w, ws, rfl, d1, d2⟩ := d.uncons
        obtain ⟨ρ1, s1, g1, f1⟩ := nrmShp_spec I d1 h1
        obtain ⟨ρ2, s2, g2, f2⟩ := nrmShps_spec s1.inv (d2.mv s1.ext.mv) h2
        have hc := s1.ext.cnt
        exact ⟨ρ2, s1.trans I s2, .cons (g1.mv s2.ext.mv) g2, fun id hid => (f2 id (by omega)).trans (f1 id hid)⟩
  | [], xs, ys, us, ρ, ec, ec', I, d, hn => by
    simp only [nrmShps] at hn
    cases hn
    exact ⟨ρ, .refl I, d, fun _ _ => rfl⟩
  | _ :: _, [], ys, us, ρ, ec, ec', I, d, hn => by
    simp only [nrmShps] at hn
    cases hn
    exact ⟨ρ, .refl I, d, fun _ _ => rfl⟩

theorem nrm_spec : ∀ {its : List Itm} {ts tE : List (X T)} {ρ : Loc} {ec eE : EC T}, Inv0 E B ρ ec h → DL E h (OwnS B ρ ec.env) ρ ts vs → nrm its ts ec = (tE, eE) → ∃ ρE, Stp E B ρ ec h ρE eE h ∧ DL E h (OwnS B ρE eE.env) ρE tE vs
  | [], ts, tE, ρ, ec, eE, I, d, hn => by
    cases hn
    exact ⟨ρ, .refl I, d⟩
  | .slot t s :: r, ts, tE, ρ, ec, eE, I, d, hn => by
    simp only [nrm] at hn
    cases h1 : nrmShp s (ts.getD t .bad) ec with
    | mk x ec1 =>
      rw [h1] at hn
      simp only at hn
      obtain ⟨ρ1, s1, g1, _⟩ := nrmShp_spec I (d.getD t undef) h1
      have d1 := (d.mv s1.ext.mv).set t g1
      have hv : vs.set t (vs.getD t undef) = vs := by
        rw [List.getD_eq_getElem?_getD]
        rcases Nat.lt_or_ge t vs.length with h3 | h3
        · rw [List.getElem?_eq_getElem h3]; simp
        · rw [List.set_eq_of_length_le h3]
      rw [hv] at d1
      obtain ⟨ρ2, s2, g2⟩ := nrm_spec s1.inv d1 hn
      exact ⟨ρ2, s1.trans I s2, g2⟩
  | .box t ss :: r, ts, tE, ρ, ec, eE, I, d, hn => by
    simp only [nrm] at hn
    split at hn
    · rename_i id hx
      split at hn
      · rename_i cs hg
        cases h1 : nrmShps ss cs ec with
        | mk cs' ec1 =>
          rw [h1] at hn
          simp only at hn
          obtain ⟨s, hf⟩ := get_fnd hg
          obtain ⟨_, q, b, us, tt, e, rr, k1, k2, k3, k4, k5⟩ := I.obj id s _ hf
          obtain ⟨ρ1, s1, g1, f1⟩ := nrmShps_spec I k5 h1
          have hf1 : fnd ec1.env id = some (s, .box cs) := (f1 id (I.fnd_lt hf)).trans hf
          have s2 := s1.inv.retell hf1 (s1.ext.mv.fix k1) k2 k4 g1
          obtain ⟨ρ3, s3, g3⟩ := nrm_spec s2.inv ((d.mv s1.ext.mv).mv s2.ext.mv) hn
          exact ⟨ρ3, (s1.trans I s2).trans I s3, g3⟩
      · exact nrm_spec I d hn
    · exact nrm_spec I d hn
  | .cont _ _ :: r, ts, tE, ρ, ec, eE, I, d, hn => nrm_spec (its := r) I d hn
  | .contB _ _ _ :: r, ts, tE, ρ, ec, eE, I, d, hn => nrm_spec (its := r) I d hn
  | .k :: r, ts, tE, ρ, ec, eE, I, d, hn => nrm_spec (its := r) I d hn

/-! ### What is carried -/
inductive MX (e1 : EC T) (n : Nat) : X T → X T → Prop where
  | v (w : Value) : MX e1 n (.v w) (.v w)
  | vs (l : List Value) : MX e1 n (.agg (l.map .v)) (.agg (l.map .v))
  | ro (e : TypeId) (l : List (T e)) : MX e1 n (.ro e l) (.ro e l)
  | os (id u : Nat) (e : TypeId) (l : List (T e)) (hg : e1.get id = some (.os u e l)) (hid : id < n) : MX e1 n (.os id u) (.os id n)
  | ros (id u : Nat) (e : TypeId) (l : List (T e)) (hg : e1.get id = some (.os u e l) ∨ e1.get id = some (.fz u e l)) (hid : n ≤ id) : MX e1 n (.os id u) (.ro e l)
  | nil (e : TypeId) : MX e1 n (.v (.slice none 0 0)) (.ro e [])
  | same (x : X T) (hx : X.sameX n x x = true) : MX e1 n x x
  | bad (x : X T) : MX e1 n x .bad

mutual
theorem sameX_eq {n : Nat} : ∀ {x y : X T}, X.sameX n x y = true → x = y ∧ X.sameX n x x = true
  | .ptr a b, y, h => by
    cases y with
    | ptr c d =>
      simp only [X.sameX, Bool.and_eq_true] at h ⊢
      rw [Nat.eq_of_beq_eq_true h.1.1, Nat.eq_of_beq_eq_true h.1.2]
      exact ⟨rfl, ⟨Nat.beq_refl _, Nat.beq_refl _⟩, by rw [← Nat.eq_of_beq_eq_true h.1.1]; exact h.2⟩
    | _ => simp [X.sameX] at h
  | .mp a, y, h => by
    cases y with
    | mp c =>
      simp only [X.sameX, Bool.and_eq_true] at h ⊢
      rw [Nat.eq_of_beq_eq_true h.1]
      exact ⟨rfl, Nat.beq_refl _, by rw [← Nat.eq_of_beq_eq_true h.1]; exact h.2⟩
    | _ => simp [X.sameX] at h
  | .fn g a b, y, h => by
    cases y with
    | fn g' a' b' =>
      simp only [X.sameX, Bool.and_eq_true] at h ⊢
      obtain ⟨e1, k1⟩ := sameXL_eq h.1.2
      obtain ⟨e2, k2⟩ := sameXL_eq h.2
      rw [Nat.eq_of_beq_eq_true h.1.1, ← e1, ← e2]
      exact ⟨rfl, ⟨Nat.beq_refl _, k1⟩, k2⟩
    | _ => simp [X.sameX] at h
  | .agg a, y, h => by
    cases y with
    | agg b =>
      simp only [X.sameX] at h ⊢
      obtain ⟨e1, k1⟩ := sameXL_eq h
      rw [← e1]; exact ⟨rfl, k1⟩
    | _ => simp [X.sameX] at h
  | .bad, y, h => by
    cases y with
    | bad => exact ⟨rfl, rfl⟩
    | _ => simp [X.sameX] at h
  | .v _, y, h => by simp [X.sameX] at h
  | .op _, y, h => by simp [X.sameX] at h
  | .ro _ _, y, h => by simp [X.sameX] at h
  | .os _ _, y, h => by simp [X.sameX] at h
  | .arr _ _ _ _ _, y, h => by simp [X.sameX] at h
  | .ea _ _ _, y, h => by simp [X.sameX] at h
  | .oa _ _ _ _ _, y, h => by simp [X.sameX] at h
  | .gp _ _, y, h => by simp [X.sameX] at h
  | .ga _ _ _ _ _, y, h => by simp [X.sameX] at h
  | .tup _, y, h => by simp [X.sameX] at h
  | .ifc _ _, y, h => by simp [X.sameX] at h
theorem sameXL_eq {n : Nat} : ∀ {l m : List (X T)}, X.sameXL n l m = true → l = m ∧ X.sameXL n l l = true
  | [], m, h => by
    cases m with
    | nil => exact ⟨rfl, rfl⟩
    | cons _ _ => simp [X.sameXL] at h
  | x :: r, m, h => by
    cases m with
    | nil => simp [X.sameXL] at h
    | cons y s =>
      simp only [X.sameXL, Bool.and_eq_true] at h ⊢
      obtain ⟨e1, k1⟩ := sameX_eq h.1
      obtain ⟨e2, k2⟩ := sameXL_eq h.2
      rw [← e1, ← e2]; exact ⟨rfl, k1, k2⟩
end

mutual
/-- What has no slices is told alike, when the numbers stay. -/
theorem same_D {n : Nat} (hρ : ∀ id q, id < n → ρ id = some (q, 0) → ρ' id = some (q, 0)) : ∀ {x : X T} {w : Value}, X.sameX n x x = true → D E h O ρ x w → D E h O' ρ' x w
  | .ptr a b, w, hs, d => by
    simp only [X.sameX, Bool.and_eq_true] at hs
    cases d with
    | ptr _ _ b q hq hb => exact .ptr _ _ b q (hρ _ q (by have := hs.2; rw [Nat.blt_eq] at this; exact this) hq) hb
  | .mp a, w, hs, d => by
    simp only [X.sameX, Bool.and_eq_true] at hs
    cases d with
    | mp _ b q hq hb => exact .mp _ b q (hρ _ q (by have := hs.2; rw [Nat.blt_eq] at this; exact this) hq) hb
  | .fn g a b, w, hs, d => by
    simp only [X.sameX, Bool.and_eq_true] at hs
    cases d with
    | fn _ _ _ va vb ha hb hda hdb =>
      have k1 := sames_D (l := a) (us := va) hρ hs.1.2 ⟨ha, hda⟩
      have k2 := sames_D (l := b) (us := vb) hρ hs.2 ⟨hb, hdb⟩
      exact .fn g a b va vb ha hb k1.2 k2.2
  | .agg a, w, hs, d => by
    simp only [X.sameX] at hs
    cases d with
    | agg _ us hl hd =>
      have k1 := sames_D (l := a) (us := us) hρ hs ⟨hl, hd⟩
      exact .agg a us k1.1 k1.2
  | .bad, w, _, _ => .bad w
  | .v _, w, h, _ => by simp [X.sameX] at h
  | .op _, w, h, _ => by simp [X.sameX] at h
  | .ro _ _, w, h, _ => by simp [X.sameX] at h
  | .os _ _, w, h, _ => by simp [X.sameX] at h
  | .arr _ _ _ _ _, w, h, _ => by simp [X.sameX] at h
  | .ea _ _ _, w, h, _ => by simp [X.sameX] at h
  | .oa _ _ _ _ _, w, h, _ => by simp [X.sameX] at h
  | .gp _ _, w, h, _ => by simp [X.sameX] at h
  | .ga _ _ _ _ _, w, h, _ => by simp [X.sameX] at h
  | .tup _, w, h, _ => by simp [X.sameX] at h
  | .ifc _ _, w, h, _ => by simp [X.sameX] at h
theorem sames_D {n : Nat} (hρ : ∀ id q, id < n → ρ id = some (q, 0) → ρ' id = some (q, 0)) : ∀ {l : List (X T)} {us : List Value}, X.sameXL n l l = true → DL E h O ρ l us → DL E h O' ρ' l us
  | [], us, _, d => by
    have : us = [] := List.length_eq_zero_iff.1 d.1.symm
    subst this; exact .nil
  | x :: r, us, hs, d => by
    obtain ⟨w, ws, rfl, d1, d2⟩ := d.uncons
    simp only [X.sameXL, Bool.and_eq_true] at hs
    exact .cons (same_D hρ hs.1 d1) (sames_D hρ hs.2 d2)
end

end Go.Ev

namespace Go.Ev
open Go
variable {T : TypeId → Type} {P : Program} {E : Enc T} {W : Rec} {Γ : Hi T} {B BE : Nat → Prop} {ρ ρ1 ρE : Loc} {eE e1 eh ec ec' : EC T} {h hE' : H} {O O' : Nat → Prop} {ts t1 tE th : List (X T)} {vs vsE : List Value} {n : Nat}

inductive MO (e1 : EC T) (n : Nat) : Ob T → Ob T → Prop where
  | box (cs1 cs : List (X T)) (hl : cs1.length = cs.length) (hm : ∀ (j : Nat) (x1 x : X T), cs1[j]? = some x1 → cs[j]? = some x → MX e1 n x1 x) : MO e1 n (.box cs1) (.box cs)
  | os (v v' : Nat) (e : TypeId) (l : List (T e)) (hv : v' = n ∨ v' = v ∧ v < n) : MO e1 n (.os v e l) (.os v' e l)

structure HQ (eE e1 : EC T) (n : Nat) (ec : EC T) : Prop where
  cnt : n < ec.cnt
  env : ∀ id s o, fnd ec.env id = some (s, o) → (s < n ∧ fnd eE.env id = some (s, o)) ∨ (n < s ∧ s < ec.cnt ∧ id < n ∧ ∃ s1 o1, fnd e1.env id = some (s1, o1) ∧ MO e1 n o1 o)

theorem HQ.put (q : HQ eE e1 n ec) {id : Nat} {o o1 : Ob T} (hid : id < n) (hg : e1.get id = some o1) (hm : MO e1 n o1 o) : HQ eE e1 n (ec.put id o) := by
  have hc : (ec.put id o).cnt = ec.cnt + 1 := rfl
  refine ⟨by rw [hc]; have := q.cnt; omega, fun i s o' hf => ?_⟩
  rw [fnd_put] at hf
  split at hf
  · rename_i he
    cases hf
    obtain ⟨s1, hf1⟩ := get_fnd hg
    exact .inr ⟨q.cnt, by rw [hc]; omega, by rw [he]; exact hid, s1, o1, by rw [he]; exact hf1, hm⟩
  · rcases q.env i s o' hf with h1 | ⟨h1, h2, h3⟩
    · exact .inl h1
    · exact .inr ⟨h1, by rw [hc]; omega, h3⟩

theorem valsX_spec : ∀ {xs : List (X T)} {l : List (CX T)}, valsX xs = some l → ∃ us : List Value, xs = us.map .v ∧ l = us.map .x
  | [], l, h => by
    simp only [valsX, Option.some.injEq] at h
    subst h; exact ⟨[], rfl, rfl⟩
  | x :: r, l, h => by
    cases x with
    | v w =>
      simp only [valsX] at h
      split at h
      · rename_i l' hl
        cases h
        obtain ⟨us, e1, e2⟩ := valsX_spec hl
        exact ⟨w :: us, by simp [e1], by simp [e2]⟩
      · cases h
    | _ => simp [valsX] at h

theorem shp_step (q : HQ eE e1 n ec) {s : Shp} {xE x1 x : X T} (hxE : ∀ id v, xE = .os id v → id < n) {a b cx' : List (CX T)} (hr : rdShp s n xE x1 e1 = some a) (hh : hdShp s n xE (a ++ b) ec = some (x, cx', ec')) : cx' = b ∧ MX e1 n x1 x ∧ HQ eE e1 n ec' ∧ ec'.k = ec.k ∧ ec'.fin = ec.fin := by
  cases s with
  | «at» t =>
    simp only [rdShp] at hr
    split at hr
    · rename_i w
      cases hr
      simp only [hdShp, List.cons_append, List.nil_append, Option.some.injEq, Prod.mk.injEq] at hh
      obtain ⟨rfl, rfl, rfl⟩ := hh
      exact ⟨rfl, .v w, q, rfl, rfl⟩
    · cases hr
  | agg l =>
    simp only [rdShp] at hr
    split at hr
    · rename_i xs
      split at hr
      · rename_i hb
        have hlen := Nat.eq_of_beq_eq_true hb
        obtain ⟨us, e2, e3⟩ := valsX_spec hr
        subst e2; subst e3
        simp only [List.length_map] at hlen
        simp only [hdShp] at hh
        split at hh
        · simp only [Option.some.injEq, Prod.mk.injEq] at hh
          obtain ⟨rfl, rfl, rfl⟩ := hh
          have e4 : (us.map CX.x ++ b).take l.length = us.map (CX.x (T := T)) := by rw [← hlen, ← List.length_map (f := CX.x (T := T)), List.take_left']; rfl
          have e5 : (us.map CX.x ++ b).drop l.length = b := by rw [← hlen, ← List.length_map (f := CX.x (T := T)), List.drop_left']; rfl
          refine ⟨e5, ?_, q, rfl, rfl⟩
          rw [e4, List.map_map]
          exact .vs us
        · cases hh
      · cases hr
    · cases hr
  | os e =>
    simp only [rdShp] at hr
    split at hr
    · rename_i id u id' v
      split at hr
      · rename_i v' e' l hb hg
        split at hr
        · rename_i hv
          cases hr
          have h1 := Nat.eq_of_beq_eq_true hb
          have h2 := Nat.eq_of_beq_eq_true hv
          subst h1; subst h2
          simp only [hdShp, List.cons_append, List.nil_append, Option.some.injEq, Prod.mk.injEq] at hh
          obtain ⟨rfl, rfl, rfl⟩ := hh
          have hid := hxE _ _ rfl
          exact ⟨rfl, .os id v e' l hg hid, q.put hid hg (.os v n e' l (.inl rfl)), rfl, rfl⟩
        · cases hr
      · cases hr
    · cases hr
  | ro e =>
    simp only [rdShp] at hr
    split at hr
    · rename_i e' l
      cases hr
      simp only [hdShp, List.cons_append, List.nil_append, Option.some.injEq, Prod.mk.injEq] at hh
      obtain ⟨rfl, rfl, rfl⟩ := hh
      exact ⟨rfl, .ro e' l, q, rfl, rfl⟩
    · rename_i id v
      split at hr
      · rename_i v' e' l hb hg
        split at hr
        · rename_i hv
          cases hr
          have h2 := Nat.eq_of_beq_eq_true hv
          subst h2
          simp only [hdShp, List.cons_append, List.nil_append, Option.some.injEq, Prod.mk.injEq] at hh
          obtain ⟨rfl, rfl, rfl⟩ := hh
          exact ⟨rfl, .ros id v e' l (.inl hg) (Nat.le_of_ble_eq_true hb), q, rfl, rfl⟩
        · cases hr
      · rename_i v' e' l hb hg
        split at hr
        · rename_i hv
          cases hr
          have h2 := Nat.eq_of_beq_eq_true hv
          subst h2
          simp only [hdShp, List.cons_append, List.nil_append, Option.some.injEq, Prod.mk.injEq] at hh
          obtain ⟨rfl, rfl, rfl⟩ := hh
          exact ⟨rfl, .ros id v e' l (.inr hg) (Nat.le_of_ble_eq_true hb), q, rfl, rfl⟩
        · cases hr
      · cases hr
    · cases hr
      simp only [hdShp, List.cons_append, List.nil_append, Option.some.injEq, Prod.mk.injEq] at hh
      obtain ⟨rfl, rfl, rfl⟩ := hh
      exact ⟨rfl, .nil e, q, rfl, rfl⟩
    · cases hr
  | same =>
    simp only [rdShp] at hr
    split at hr
    · rename_i hs
      cases hr
      simp only [hdShp, List.nil_append, Option.some.injEq, Prod.mk.injEq] at hh
      obtain ⟨rfl, rfl, rfl⟩ := hh
      obtain ⟨e2, e3⟩ := sameX_eq hs
      subst e2
      exact ⟨rfl, .same _ e3, q, rfl, rfl⟩
    · cases hr

theorem shps_step : ∀ {ss : List Shp} {xsE xs1 xs : List (X T)} {a b cx' : List (CX T)} {ec ec' : EC T}, HQ eE e1 n ec → (∀ x ∈ xsE, ∀ id v, x = .os id v → id < n) → rdShps ss n xsE xs1 e1 = some a → hdShps ss n xsE (a ++ b) ec = some (xs, cx', ec') →
    cx' = b ∧ xs1.length = xs.length ∧ (∀ (j : Nat) (x1 x : X T), xs1[j]? = some x1 → xs[j]? = some x → MX e1 n x1 x) ∧ HQ eE e1 n ec' ∧ ec'.k = ec.k ∧ ec'.fin = ec.fin
  | [], [], [], xs, a, b, cx', ec, ec', q, _, hr, hh => by
    simp only [rdShps, Option.some.injEq] at hr
    subst hr
    simp only [hdShps, List.nil_append, Option.some.injEq, Prod.mk.injEq] at hh
    obtain ⟨rfl, rfl, rfl⟩ := hh
    exact ⟨rfl, rfl, fun j x1 x h => by simp at h, q, rfl, rfl⟩
  | s :: r, xE :: xsE, x1 :: xs1, xs, a, b, cx', ec, ec', q, hE, hr, hh => by
    simp only [rdShps] at hr
    split at hr
    · rename_i a1 a2 hr1 hr2
      cases hr
      simp only [hdShps, List.append_assoc] at hh
      split at hh
      · rename_i y cx1 ec1 hh1
        obtain ⟨rfl, m1, q1, k1, f1⟩ := shp_step q (hE xE (List.mem_cons_self ..)) hr1 hh1
        split at hh
        · rename_i ys cx2 ec2 hh2
          simp only [Option.some.injEq, Prod.mk.injEq] at hh
          obtain ⟨rfl, rfl, rfl⟩ := hh
          obtain ⟨rfl, l2, m2, q2, k2, f2⟩ := shps_step q1 (fun x hx => hE x (List.mem_cons_of_mem _ hx)) hr2 hh2
          refine ⟨rfl, by simp [l2], fun j u v h1 h2 => ?_, q2, k2.trans k1, f2.trans f1⟩
          cases j with
          | zero => simp at h1 h2; subst h1; subst h2; exact m1
          | succ j => simp at h1 h2; exact m2 j u v h1 h2
        · cases hh
      · cases hh
    · cases hr
  | [], _ :: _, _, _, _, _, _, _, _, _, _, hr, _ => by simp [rdShps] at hr
  | [], [], _ :: _, _, _, _, _, _, _, _, _, hr, _ => by simp [rdShps] at hr
  | _ :: _, [], _, _, _, _, _, _, _, _, _, hr, _ => by simp [rdShps] at hr
  | _ :: _, _ :: _, [], _, _, _, _, _, _, _, _, hr, _ => by simp [rdShps] at hr

/-- The slots, at the head. -/
def HT (D : List Tmp) (tE t1 : List (X T)) (e1 : EC T) (n : Nat) (ts : List (X T)) : Prop :=
  ts.length = tE.length ∧ ∀ (t : Nat) (x : X T), ts[t]? = some x → (memN D t = false ∧ tE[t]? = some x) ∨ x = .bad ∨ MX e1 n (t1.getD t .bad) x

theorem HT.set {D : List Tmp} {ts : List (X T)} (q : HT D tE t1 e1 n ts) {t : Nat} {x : X T} (hm : MX e1 n (t1.getD t .bad) x) : HT D tE t1 e1 n (ts.set t x) := by
  refine ⟨by simp [q.1], fun i y hy => ?_⟩
  by_cases he : t = i
  · subst he
    have hlt : t < ts.length := by
      have := (List.getElem?_eq_some_iff.1 hy).1
      simpa using this
    rw [List.getElem?_set_self hlt] at hy
    cases hy
    exact .inr (.inr hm)
  · rw [List.getElem?_set_ne he] at hy
    exact q.2 i y hy

theorem badL_get (D : List Tmp) : ∀ (l : List (X T)) (i t : Nat) (x : X T), (badL D i l)[t]? = some x → x = .bad ∨ (memN D (i + t) = false ∧ l[t]? = some x)
  | [], _, _, _, h => by simp [badL] at h
  | y :: r, i, 0, x, h => by
    simp only [badL, List.getElem?_cons_zero, Option.some.injEq] at h
    cases hm : memN D i with
    | true => rw [hm] at h; exact .inl h.symm
    | false => rw [hm] at h; exact .inr ⟨by first | exact hm | rfl, by simpa using h⟩
  | y :: r, i, t + 1, x, h => by
    simp only [badL, List.getElem?_cons_succ] at h
    rcases badL_get D r (i + 1) t x h with h1 | ⟨h1, h2⟩
    · exact .inl h1
    · exact .inr ⟨by rw [show i + (t + 1) = i + 1 + t by omega]; exact h1, by simpa using h2⟩

theorem badL_length (D : List Tmp) : ∀ (l : List (X T)) (i : Nat), (badL D i l).length = l.length
  | [], _ => rfl
  | _ :: r, i => by simp [badL, badL_length D r]

theorem HT.bad {D : List Tmp} : HT D tE t1 e1 n (badL D 0 tE) := ⟨badL_length D tE 0, fun t x hx => by
  rcases badL_get D tE 0 t x hx with h1 | ⟨h1, h2⟩
  · exact .inr (.inl h1)
  · exact .inl ⟨by simpa using h1, h2⟩⟩

theorem hd_step {D : List Tmp} (hxE : ∀ x ∈ tE, ∀ id v, x = .os id v → id < n ∧ v < n) (hpE : ∀ x ∈ tE, ∀ id, x = .ptr id 0 → id < n) (hbE : ∀ id s cs, fnd eE.env id = some (s, .box cs) → ∀ x ∈ cs, ∀ i v, x = .os i v → i < n ∧ v < n) (hn : eE.cnt = n) :
    ∀ {its : List Itm} {ts th : List (X T)} {cx : List (CX T)} {ec eh : EC T}, HQ eE e1 n ec → HT D tE t1 e1 n ts → rd tE eE t1 e1 its = some cx → hd tE eE n its ts cx ec = some (th, eh) →
      HQ eE e1 n eh ∧ HT D tE t1 e1 n th ∧ (eh.k = ec.k ∨ eh.k = e1.k) ∧ (hasK its = true → eh.k = e1.k) ∧ eh.fin = ec.fin
  | [], ts, th, cx, ec, eh, q, qt, hr, hh => by
    simp only [rd, Option.some.injEq] at hr
    subst hr
    simp only [hd, Option.some.injEq, Prod.mk.injEq] at hh
    obtain ⟨rfl, rfl⟩ := hh
    exact ⟨q, qt, .inl rfl, fun h => by simp [hasK] at h, rfl⟩
  | i :: r, ts, th, cx, ec, eh, q, qt, hr, hh => by
    simp only [rd] at hr
    split at hr
    · rename_i a b hr1 hr2
      cases hr
      have memE : ∀ {t : Nat} {x : X T}, tE.getD t .bad = x → x ≠ .bad → x ∈ tE := fun {t x} he hne => by
        rw [List.getD_eq_getElem?_getD] at he
        cases ht : tE[t]? with
        | none => rw [ht] at he; exact absurd he.symm hne
        | some y => rw [ht] at he; rw [← he]; exact List.mem_of_getElem? ht
      cases i with
      | slot t s =>
        simp only [rdI, hn] at hr1
        simp only [hd] at hh
        split at hh
        · rename_i x cx1 ec1 hh1
          obtain ⟨rfl, m1, q1, k1, f1⟩ := shp_step q (fun id v he => (hxE _ (memE he (by simp)) id v rfl).1) hr1 hh1
          obtain ⟨g1, g2, g3, g4, g5⟩ := hd_step hxE hpE hbE hn q1 (qt.set m1) hr2 hh
          exact ⟨g1, g2, by rw [← k1]; exact g3, g4, g5.trans f1⟩
        · cases hh
      | box t ss =>
        simp only [rdI, hn] at hr1
        simp only [hd] at hh
        split at hr1
        · rename_i id hx
          rw [hx] at hh
          simp only at hh
          split at hr1
          · rename_i csE cs1 hgE hg1
            rw [hgE] at hh
            simp only at hh
            split at hh
            · rename_i cs cx1 ec1 hh1
              obtain ⟨sE, hfE⟩ := get_fnd hgE
              obtain ⟨rfl, l1, m1, q1, k1, f1⟩ := shps_step q (fun x hx i v he => (hbE id sE csE hfE x hx i v he).1) hr1 hh1
              have q2 := q1.put (o := .box cs) (hpE _ (memE hx (by simp)) id rfl) hg1 (.box cs1 cs l1 m1)
              obtain ⟨g1, g2, g3, g4, g5⟩ := hd_step hxE hpE hbE hn q2 qt hr2 hh
              exact ⟨g1, g2, by rcases g3 with g3 | g3; exact .inl (g3.trans k1); exact .inr g3, g4, g5.trans f1⟩
            · cases hh
          · cases hr1
        · cases hr1
      | cont t e =>
        simp only [rdI] at hr1
        split at hr1
        · rename_i id v hx
          split at hr1
          · rename_i v' e' l hg
            split at hr1
            · rename_i hb
              cases hr1
              have hv := Nat.eq_of_beq_eq_true hb
              subst hv
              simp only [hd, List.cons_append, List.nil_append, hx] at hh
              obtain ⟨h1, h2⟩ := hxE _ (memE hx (by simp)) id v rfl
              have q2 := q.put (o := .os v e' l) h1 hg (.os v v e' l (.inr ⟨rfl, h2⟩))
              obtain ⟨g1, g2, g3, g4, g5⟩ := hd_step hxE hpE hbE hn q2 qt hr2 hh
              exact ⟨g1, g2, g3, g4, g5⟩
            · cases hr1
          · cases hr1
        · cases hr1
      | contB t off e =>
        simp only [rdI] at hr1
        split at hr1
        · rename_i ib hx
          split at hr1
          · rename_i csE hgE
            split at hr1
            · rename_i id v hcx
              split at hr1
              · rename_i v' e' l hg
                split at hr1
                · rename_i hb
                  cases hr1
                  have hv := Nat.eq_of_beq_eq_true hb
                  subst hv
                  simp only [hd, List.cons_append, List.nil_append, hx, hgE, hcx] at hh
                  obtain ⟨sE, hfE⟩ := get_fnd hgE
                  have hmem : X.os id v ∈ csE := by
                    rw [List.getD_eq_getElem?_getD] at hcx
                    cases ht : csE[off]? with
                    | none => rw [ht] at hcx; cases hcx
                    | some y => rw [ht] at hcx; rw [← (show y = X.os id v from hcx)]; exact List.mem_of_getElem? ht
                  obtain ⟨h1, h2⟩ := hbE ib sE csE hfE _ hmem id v rfl
                  have q2 := q.put (o := .os v e' l) h1 hg (.os v v e' l (.inr ⟨rfl, h2⟩))
                  obtain ⟨g1, g2, g3, g4, g5⟩ := hd_step hxE hpE hbE hn q2 qt hr2 hh
                  exact ⟨g1, g2, g3, g4, g5⟩
                · cases hr1
              · cases hr1
            · cases hr1
          · cases hr1
        · cases hr1
      | k =>
        simp only [rdI, Option.some.injEq] at hr1
        subst hr1
        simp only [hd, List.cons_append, List.nil_append] at hh
        obtain ⟨g1, g2, g3, g4, g5⟩ := hd_step (ec := ⟨ec.env, ec.cnt, e1.k, ec.fin⟩) hxE hpE hbE hn ⟨q.cnt, q.env⟩ qt hr2 hh
        exact ⟨g1, g2, .inr (by rcases g3 with g3 | g3 <;> exact g3), fun _ => by rcases g3 with g3 | g3 <;> exact g3, g5⟩
    · cases hr

end Go.Ev

namespace Go.Ev
open Go
variable {T : TypeId → Type} {P : Program} {E : Enc T} {W : Rec} {Γ : Hi T} {B BE : Nat → Prop} {ρ ρ1 ρE : Loc} {eE e1 eh ec ec' : EC T} {h hS : H} {O O' : Nat → Prop} {ts t1 tE th : List (X T)} {vs vsE : List Value} {n : Nat}

def ρH (eh : EC T) (ρE ρ1 : Loc) (n id : Nat) : Option (SV × Nat) :=
  if id < n then (match fnd eh.env id with
    | some (_, o) => (match ρ1 id with | some (q, _) => some (q, o.vn) | none => none)
    | none => (match ρE id with
      | some p => some p
      | none => (match ρ1 id with | some (q, 0) => some (q, 0) | _ => none)))
  else none

section
variable (hEn : EncOK E) (IE : Inv0 E BE ρE eE hS) (I1 : Inv0 E B ρ1 e1 h) (x : Ext BE ρE eE hS B ρ1 e1 h) (q : HQ eE e1 eE.cnt eh) (hc : chkE eE.cnt eh e1 = true)
include IE I1 x q hc

/-- What is not carried is the same. -/
theorem uncar {id s : Nat} {o : Ob T} (hf : fnd eh.env id = some (s, o)) (hs : s < eE.cnt) : fnd eE.env id = some (s, o) ∧ fnd e1.env id = some (s, o) ∧ (∀ q n b off, ρE id = some (q, n) → q.p = some ⟨b, off, none⟩ → o.own = true → h.get b = hS.get b) := by
  have _ := IE
  have _ := I1
  have hE : fnd eE.env id = some (s, o) := by
    rcases q.env id s o hf with ⟨_, h1⟩ | ⟨h1, _⟩
    · exact h1
    · omega
  have hmem : ∀ {l : Env T} {x : Nat × Ob T}, fnd l id = some x → (id, x) ∈ l := by
    intro l
    induction l with
    | nil => intro x h; cases h
    | cons y r ih =>
      intro x h
      obtain ⟨t, y⟩ := y
      rw [fnd_cons] at h
      split at h
      · rename_i he; cases h; rw [he]; exact List.mem_cons_self ..
      · exact List.mem_cons_of_mem _ (ih h)
  unfold chkE at hc
  rw [List.all_eq_true] at hc
  have h1 := hc _ (hmem hf)
  simp only [Bool.or_eq_true] at h1
  rcases h1 with h1 | h1
  · have := Nat.le_of_ble_eq_true h1; omega
  · obtain ⟨s', o1, o2, g1, g2⟩ := sameS_spec h1
    rw [hf] at g1; cases g1
    obtain ⟨k1, k2⟩ := x.stab id s o2 g2 hs
    rw [hE] at k1; cases k1
    exact ⟨hE, g2, fun q n b off hq hb ho => k2 q n b off hq hb ho⟩

/-- An entry at the head, and what it is of. -/
theorem car {id s : Nat} {o : Ob T} (hf : fnd eh.env id = some (s, o)) : id < eE.cnt ∧ o.vn < eh.cnt ∧ ∃ s1 o1 q1, fnd e1.env id = some (s1, o1) ∧ ρ1 id = some (q1, o1.vn) ∧ ρH eh ρE ρ1 eE.cnt id = some (q1, o.vn) ∧ (o.own = true → o1.own = true) ∧
    ((s < eE.cnt ∧ o1 = o) ∨ (eE.cnt < s ∧ s < eh.cnt ∧ MO e1 eE.cnt o1 o)) := by
  have hcnt := q.cnt
  have fin : ∀ {s1 : Nat} {o1 : Ob T}, id < eE.cnt → fnd e1.env id = some (s1, o1) → ∃ q1, ρ1 id = some (q1, o1.vn) ∧ ρH eh ρE ρ1 eE.cnt id = some (q1, o.vn) := by
    intro s1 o1 hid h1
    obtain ⟨q1, h2⟩ := OOk.loc (I1.obj id s1 o1 h1).2
    refine ⟨q1, h2, ?_⟩
    unfold ρH
    rw [if_pos hid]
    simp only [hf, h2]
  rcases q.env id s o hf with ⟨h1, h2⟩ | ⟨h1, h2, h3, s1, o1, h4, h5⟩
  · obtain ⟨k1, k2, _⟩ := uncar IE I1 x q hc hf h1
    have hid := IE.fnd_lt k1
    obtain ⟨q1, g1, g2⟩ := fin hid k2
    obtain ⟨qE, g3⟩ := OOk.loc (IE.obj id s o k1).2
    have := IE.vers _ _ _ g3
    exact ⟨hid, by omega, s, o, q1, k2, g1, g2, fun e => e, .inl ⟨h1, rfl⟩⟩
  · obtain ⟨q1, g1, g2⟩ := fin h3 h4
    refine ⟨h3, ?_, s1, o1, q1, h4, g1, g2, ?_, .inr ⟨h1, h2, h5⟩⟩
    · cases h5 with
      | box => simp only [Ob.vn]; omega
      | os v v' e l hv => simp only [Ob.vn]; rcases hv with hv | hv <;> omega
    · cases h5 <;> exact fun _ => rfl

theorem blkH {id b : Nat} (hb : blkOf (ρH eh ρE ρ1 eE.cnt) eh.env id b) : id < eE.cnt ∧ blkOf ρ1 e1.env id b := by
  obtain ⟨s, o, q', m, off, h1, h2, h3, h4⟩ := hb
  obtain ⟨g1, _, s1, o1, q1, g2, g3, g4, g5, _⟩ := car IE I1 x q hc h1
  rw [h3] at g4
  simp only [Option.some.injEq, Prod.mk.injEq] at g4
  exact ⟨g1, s1, o1, q1, o1.vn, off, g2, g5 h2, g3, by rw [← g4.1]; exact h4⟩

theorem ownH : ∀ b, OwnS B (ρH eh ρE ρ1 eE.cnt) eh.env b → OwnS B ρ1 e1.env b := by
  rintro b (h1 | h1)
  · exact .inl h1
  · obtain ⟨id, h1⟩ := ownB_iff.1 h1
    exact .inr (ownB_iff.2 ⟨id, (blkH IE I1 x q hc h1).2⟩)

theorem mvH : Mv hS h (OwnS BE ρE eE.env) (OwnS B (ρH eh ρE ρ1 eE.cnt) eh.env) ρE (ρH eh ρE ρ1 eE.cnt) := by
  refine ⟨x.mv.next, x.mv.get, fun b hb ho => x.mv.own b hb (ownH IE I1 x q hc b ho), fun id q0 m hq => ?_⟩
  have hid : id < eE.cnt := by
    rcases Nat.lt_or_ge id eE.cnt with h1 | h1
    · exact h1
    · rw [IE.dom id h1] at hq; cases hq
  have hm := IE.vers _ _ _ hq
  obtain ⟨q1, m1, k1, k2, k3, k4⟩ := x.mv.loc id q0 m hq
  cases hf : fnd eh.env id with
  | none =>
    refine ⟨q0, m, ?_, Nat.le_refl _, fun _ => rfl, fun e => e⟩
    unfold ρH
    rw [if_pos hid]
    simp only [hf, hq]
  | some so =>
    obtain ⟨s, o⟩ := so
    obtain ⟨_, _, s1, o1, q2, g2, g3, g4, g5, g6⟩ := car IE I1 x q hc hf
    rw [k1] at g3
    simp only [Option.some.injEq, Prod.mk.injEq] at g3
    obtain ⟨e3, e4⟩ := g3
    refine ⟨q2, o.vn, g4, ?_⟩
    rcases g6 with ⟨_, g6⟩ | ⟨_, _, g6⟩
    · subst g6
      exact ⟨by omega, fun e => by rw [← e3]; exact k3 (by omega), fun e => by rw [← e4]; exact k4 e⟩
    · cases g6 with
      | box => simp only [Ob.vn] at e4 ⊢; exact ⟨by omega, fun e => by rw [← e3]; exact k3 (by omega), fun _ => trivial⟩
      | os v v' e l hv =>
        simp only [Ob.vn] at e4 ⊢
        have h0 : 0 < v := by
          obtain ⟨_, _, _, h0, _⟩ := (I1.obj _ _ _ g2).2
          exact h0
        rcases hv with hv | ⟨hv, hv2⟩
        · exact ⟨by omega, fun e => by omega, fun e => by have := k4 e; omega⟩
        · exact ⟨by omega, fun e => by rw [← e3]; exact k3 (by omega), fun e => by have := k4 e; omega⟩

include hEn in
theorem MX_D {x1 y : X T} {w : Value} (m : MX e1 eE.cnt x1 y) (d : D E h (OwnS B ρ1 e1.env) ρ1 x1 w) (hcur : X.curN eE.cnt eh y = true) : D E h (OwnS B (ρH eh ρE ρ1 eE.cnt) eh.env) (ρH eh ρE ρ1 eE.cnt) y w := by
  have hO := ownH IE I1 x q hc
  cases m with
  | v u => rw [v_D d]; exact .v u
  | vs l =>
    cases d with
    | agg _ us hl hd =>
      refine .agg _ us hl fun j z w h1 h2 => ?_
      have := hd j z w h1 h2
      rw [List.getElem?_map, Option.map_eq_some_iff] at h1
      obtain ⟨u, _, rfl⟩ := h1
      rw [v_D this]; exact .v u
  | ro e l => exact d.row_loc hEn rfl hO
  | os id u e l hg hid =>
    obtain ⟨s1, hf1⟩ := get_fnd hg
    obtain ⟨q1, rows, h1, rfl, h2, h3, h4⟩ := os_slice I1 hf1 d
    simp only [X.curN, Nat.beq_refl, Bool.not_true, Bool.false_or] at hcur
    split at hcur
    · rename_i v' e' l' hgh
      have hv := Nat.eq_of_beq_eq_true hcur
      obtain ⟨sh, hfh⟩ := get_fnd hgh
      obtain ⟨_, _, s2, o2, q2, g2, g3, g4, _⟩ := car IE I1 x q hc hfh
      rw [h1] at g3
      simp only [Option.some.injEq, Prod.mk.injEq] at g3
      refine .os id eE.cnt eE.cnt q1 q1 ?_ (Nat.le_refl _) fun _ => rfl
      rw [g4, ← g3.1]
      simp only [Ob.vn, hv]
    · cases hcur
  | ros id u e l hg hid =>
    rcases hg with hg | hg
    · obtain ⟨s1, hf1⟩ := get_fnd hg
      obtain ⟨q1, rows, h1, rfl, h2, h3, h4⟩ := os_slice I1 hf1 d
      refine .ro e l q1 rows h2.sli h3.len h4 (by rcases h2.2 with ⟨e1, _⟩ | ⟨b, t, e1, _⟩ <;> rw [e1] <;> simp) (fun b o hq hne hown => ?_) fun i a r g1 g2 j z w g3 g4 => ((h3.row i a r g1 g2).2 j z w g3 g4).row_loc hEn (hEn.row _ _ _ (List.mem_of_getElem? g3)) hO
      rcases hown with hb | hb
      · exact I1.notB b (ownB_iff.2 ⟨id, s1, _, q1, u, o, hf1, rfl, h1, hq⟩) hb
      · obtain ⟨id2, hb⟩ := ownB_iff.1 hb
        obtain ⟨k1, k2⟩ := blkH IE I1 x q hc hb
        have := I1.blk_inj k2 ⟨s1, _, q1, u, o, hf1, rfl, h1, hq⟩
        omega
    · obtain ⟨s1, hf1⟩ := get_fnd hg
      exact (fz_ro I1 hf1 d).row_loc hEn rfl hO
  | nil e =>
    rw [v_D d]
    exact .ro e [] ⟨none, 0, 0⟩ [] ⟨rfl, by simp, fun h => by simp at h⟩ rfl (by simp [maxLen]) (.inl rfl) (fun b o h1 => by cases h1) fun i a r h1 => by simp at h1
  | same y hx =>
    refine same_D (n := eE.cnt) (fun id q0 hid hq => ?_) hx d
    unfold ρH
    rw [if_pos hid]
    cases hf : fnd eh.env id with
    | some so =>
      obtain ⟨s, o⟩ := so
      obtain ⟨_, _, s1, o1, q2, g2, g3, g4, g5, g6⟩ := car IE I1 x q hc hf
      rw [hq] at g3
      simp only [Option.some.injEq, Prod.mk.injEq] at g3
      simp only [hq]
      have : o.vn = 0 := by
        rcases g6 with ⟨_, g6⟩ | ⟨_, _, g6⟩
        · rw [← g6]; exact g3.2.symm
        · cases g6 with
          | box => rfl
          | os v v' e l hv =>
            obtain ⟨_, _, _, h0, _⟩ := (I1.obj _ _ _ g2).2
            have := g3.2
            simp only [Ob.vn] at this
            omega
      rw [this]
    | none =>
      simp only
      cases hqE : ρE id with
      | some p =>
        obtain ⟨qE, m⟩ := p
        obtain ⟨q1, m1, k1, k2, k3, k4⟩ := x.mv.loc id qE m hqE
        rw [hq] at k1
        simp only [Option.some.injEq, Prod.mk.injEq] at k1
        have hm : m = 0 := by omega
        subst hm
        rw [k1.1, k3 (by omega)]
      | none => simp only [hq]
  | bad _ => exact .bad _

include hEn in
/-- **The head holds anew.** -/
theorem head_ok {D : List Tmp} (dE : DL E hS (OwnS BE ρE eE.env) ρE tE vsE) (d1 : DL E h (OwnS B ρ1 e1.env) ρ1 t1 vs) (hfr : FrD D vsE vs) (qt : HT D tE t1 e1 eE.cnt th) (hok : hdOk eE.cnt th eh = true) :
    Inv0 E B (ρH eh ρE ρ1 eE.cnt) eh h ∧ DL E h (OwnS B (ρH eh ρE ρ1 eE.cnt) eh.env) (ρH eh ρE ρ1 eE.cnt) th vs ∧ Ext BE ρE eE hS B (ρH eh ρE ρ1 eE.cnt) eh h := by
  have hO := ownH IE I1 x q hc
  have hmv := mvH IE I1 x q hc
  have hcnt := q.cnt
  simp only [hdOk, Bool.and_eq_true, List.all_eq_true] at hok
  have hstab : ∀ id s o, fnd eh.env id = some (s, o) → s < eE.cnt → fnd eE.env id = some (s, o) ∧ ∀ q n b off, ρE id = some (q, n) → q.p = some ⟨b, off, none⟩ → o.own = true → h.get b = hS.get b := fun id s o hf hs => by
    obtain ⟨g1, _, g3⟩ := uncar IE I1 x q hc hf hs
    exact ⟨g1, g3⟩
  refine ⟨⟨I1.top, fun id hid => ?_, by omega, fun id q0 m hq => ?_, I1.base, fun b hb hB => ?_, ?_, ?_, ?_⟩, ⟨by rw [qt.1, dE.1]; exact hfr.1.symm, fun t y w h1 h2 => ?_⟩, hmv, by omega, hstab⟩
  · unfold ρH
    rw [if_neg (by omega)]
  · unfold ρH at hq
    split at hq
    · split at hq
      · rename_i s o hf
        split at hq
        · cases hq
          exact (car IE I1 x q hc hf).2.1
        · cases hq
      · split at hq
        · rename_i p hp
          cases hq
          have := IE.vers _ _ _ hp; omega
        · split at hq
          · cases hq; omega
          · cases hq
    · cases hq
  · obtain ⟨id, hb⟩ := ownB_iff.1 hb
    exact I1.notB b (ownB_iff.2 ⟨id, (blkH IE I1 x q hc hb).2⟩) hB
  · intro i j s s' o o' q0 q1 m m' b f f' h1 h2 h3 h4 h5 h6 h7 h8
    exact I1.blk_inj (blkH IE I1 x q hc ⟨s, o, q0, m, f, h1, h3, h5, h7⟩).2 (blkH IE I1 x q hc ⟨s', o', q1, m', f', h2, h4, h6, h8⟩).2
  · intro id s o hf
    obtain ⟨hid, _, s1, o1, q1, g2, g3, g4, g5, g6⟩ := car IE I1 x q hc hf
    rcases g6 with ⟨hs, g6⟩ | ⟨hs, hs2, g6⟩
    · obtain ⟨k1, k2, k3⟩ := uncar IE I1 x q hc hf hs
      refine ⟨by omega, (IE.obj id s o k1).2.keep hmv (fun q0 hq => ?_) fun q0 b off ho hq hb => k3 q0 _ b off hq hb ho⟩
      subst g6
      rw [g4]
      have := x.mv.same hq g3
      rw [this]
    · refine ⟨hs2, ?_⟩
      have hko := (I1.obj id s1 o1 g2).2
      cases g6 with
      | box cs1 cs hl hm =>
        obtain ⟨q2, b, us, t, e, r, k1, k2, k3, k4, k5⟩ := hko
        rw [g3] at k1
        simp only [Option.some.injEq, Prod.mk.injEq] at k1
        have hcell := hok.2 (id, s, .box cs) (by
          have hmem : ∀ {l : Env T} {x : Nat × Ob T}, fnd l id = some x → (id, x) ∈ l := by
            intro l
            induction l with
            | nil => intro x h; cases h
            | cons y r ih =>
              intro x h
              obtain ⟨t, y⟩ := y
              rw [fnd_cons] at h
              split at h
              · rename_i he; cases h; rw [he]; exact List.mem_cons_self ..
              · exact List.mem_cons_of_mem _ (ih h)
          exact hmem hf)
        simp only [Bool.or_eq_true] at hcell
        rcases hcell with hcell | hcell
        · have := Nat.le_of_ble_eq_true hcell; omega
        · rw [List.all_eq_true] at hcell
          refine ⟨q2, b, us, t, e, r, by rw [g4, k1.1]; rfl, k2, k3, k4, by rw [← hl]; exact k5.1, fun j y w h1 h2 => ?_⟩
          have hj : j < cs1.length := by rw [hl]; exact (List.getElem?_eq_some_iff.1 h1).1
          exact MX_D hEn IE I1 x q hc (hm j _ y (List.getElem?_eq_getElem hj) h1) (k5.2 j _ w (List.getElem?_eq_getElem hj) h2) (hcell y (List.mem_of_getElem? h1))
      | os v v' e l hv =>
        obtain ⟨q2, rows, k1, k0, k2, k3, k4, k5⟩ := hko
        rw [g3] at k1
        simp only [Option.some.injEq, Prod.mk.injEq] at k1
        refine ⟨q2, rows, by rw [g4, k1.1]; rfl, ?_, k2, k3, k4, fun i a r h1 h2 => ⟨(k5 i a r h1 h2).1, fun j y w g1 g2 => ((k5 i a r h1 h2).2 j y w g1 g2).row_loc hEn (hEn.row _ _ _ (List.mem_of_getElem? g1)) hO⟩⟩
        have := IE.pos
        rcases hv with hv | hv <;> omega
  · intro g cs hg
    obtain ⟨g1, us, g2, g3⟩ := IE.glob g cs hg
    exact ⟨(hmv.layG g2 g1).2, us, (hmv.layG g2 g1).1, g3.mv hmv⟩
  · rcases qt.2 t y h1 with ⟨hD, hy⟩ | rfl | hm
    · have hlt : t < vsE.length := by rw [← dE.1]; exact (List.getElem?_eq_some_iff.1 hy).1
      have e2 : vsE[t]? = some w := by
        have := hfr.2 t hD
        rw [List.getD_eq_getElem?_getD, List.getD_eq_getElem?_getD, h2, List.getElem?_eq_getElem hlt] at this
        rw [List.getElem?_eq_getElem hlt]
        exact congrArg some this.symm
      exact (dE.2 t y w hy e2).mv hmv
    · exact .bad _
    · have hw : w = vs.getD t undef := by rw [List.getD_eq_getElem?_getD, h2]; rfl
      rw [hw]
      exact MX_D hEn IE I1 x q hc hm (d1.getD t undef) (hok.1 y (List.mem_of_getElem? h1))

end

end Go.Ev

namespace Go.Ev
open Go
variable {T : TypeId → Type} {P : Program} {E : Enc T} {W : Rec} {Γ : Hi T} {B B' : Nat → Prop} {ρ ρ' : Loc} {ec ec' : EC T} {h h' : H} {O O' : Nat → Prop}

theorem fnd_delN : ∀ {L : List Nat} {ec : EC T} {id : Nat}, fnd (delN ec L).env id = if id ∈ L then none else fnd ec.env id
  | [], ec, id => by simp [delN]
  | x :: r, ec, id => by
    rw [delN, fnd_delN]
    by_cases h1 : id ∈ r
    · rw [if_pos h1, if_pos (List.mem_cons_of_mem _ h1)]
    · rw [if_neg h1]
      by_cases h2 : id = x
      · subst h2
        rw [if_pos (List.mem_cons_self ..)]
        exact fnd_del_same _ _
      · rw [if_neg (by simp [h1, h2])]
        exact fnd_del_ne _ h2

theorem delN_cnt : ∀ {L : List Nat} {ec : EC T}, (delN ec L).cnt = ec.cnt ∧ (delN ec L).k = ec.k ∧ (delN ec L).fin = ec.fin
  | [], _ => ⟨rfl, rfl, rfl⟩
  | x :: r, ec => by rw [delN]; exact delN_cnt (L := r) (ec := ec.del x)

theorem blk_delN {L : List Nat} {id b : Nat} : blkOf ρ (delN ec L).env id b ↔ id ∉ L ∧ blkOf ρ ec.env id b := by
  constructor
  · rintro ⟨s, o, q, n, off, h1, h2⟩
    rw [fnd_delN] at h1
    split at h1
    · cases h1
    · rename_i hn; exact ⟨hn, s, o, q, n, off, h1, h2⟩
  · rintro ⟨hn, s, o, q, n, off, h1, h2⟩
    exact ⟨s, o, q, n, off, by rw [fnd_delN, if_neg hn]; exact h1, h2⟩

/-- Lent memory counts as others'. -/
def BL (B : Nat → Prop) (ρ : Loc) (env : Env T) (L : List Nat) (b : Nat) : Prop := B b ∨ ∃ id, id ∈ L ∧ blkOf ρ env id b

theorem own_lend {L : List Nat} (b : Nat) : OwnS (BL B ρ ec.env L) ρ (delN ec L).env b ↔ OwnS B ρ ec.env b := by
  constructor
  · rintro ((h1 | ⟨id, _, h1⟩) | h1)
    · exact .inl h1
    · exact .inr (ownB_iff.2 ⟨id, h1⟩)
    · obtain ⟨id, h1⟩ := ownB_iff.1 h1
      exact .inr (ownB_iff.2 ⟨id, (blk_delN.1 h1).2⟩)
  · rintro (h1 | h1)
    · exact .inl (.inl h1)
    · obtain ⟨id, h1⟩ := ownB_iff.1 h1
      by_cases hm : id ∈ L
      · exact .inl (.inr ⟨id, hm, h1⟩)
      · exact .inr (ownB_iff.2 ⟨id, blk_delN.2 ⟨hm, h1⟩⟩)

theorem Inv0.lend (I : Inv0 E B ρ ec h) (L : List Nat) : Inv0 E (BL B ρ ec.env L) ρ (delN ec L) h ∧ Ext B ρ ec h (BL B ρ ec.env L) ρ (delN ec L) h := by
  have hO := fun b => (own_lend (B := B) (ρ := ρ) (ec := ec) (L := L) b)
  have hmv : Mv h h (OwnS B ρ ec.env) (OwnS (BL B ρ ec.env L) ρ (delN ec L).env) ρ ρ := ⟨Nat.le_refl _, fun _ _ _ => rfl, fun b _ hb => (hO b).1 hb, fun id q n hq => ⟨q, n, hq, Nat.le_refl _, fun _ => rfl, fun e => e⟩⟩
  obtain ⟨c1, c2, c3⟩ := delN_cnt (L := L) (ec := ec)
  refine ⟨⟨I.top, fun id hid => I.dom id (by rw [c1] at hid; exact hid), by rw [c1]; exact I.pos, fun id q n hq => by rw [c1]; exact I.vers id q n hq, fun b hb => I.own_lt ((hO b).1 (.inl hb)), fun b hb hc => ?_, ?_, fun id s o hf => ?_, fun g cs hg => ?_⟩, hmv, by rw [c1]; exact Nat.le_refl _, fun id s o hf _ => ?_⟩
  · obtain ⟨id, hb⟩ := ownB_iff.1 hb
    obtain ⟨h1, h2⟩ := blk_delN.1 hb
    rcases hc with hc | ⟨id', h3, h4⟩
    · exact I.notB b (ownB_iff.2 ⟨id, h2⟩) hc
    · exact h1 ((I.blk_inj h4 h2) ▸ h3)
  · intro i j s s' o o' q q' n n' b f f' h1 h2 h3 h4 h5 h6 h7 h8
    exact I.blk_inj (blk_delN.1 ⟨s, o, q, n, f, h1, h3, h5, h7⟩).2 (blk_delN.1 ⟨s', o', q', n', f', h2, h4, h6, h8⟩).2
  · rw [fnd_delN] at hf
    split at hf
    · cases hf
    · obtain ⟨g1, g2⟩ := I.obj id s o hf
      exact ⟨by rw [c1]; exact g1, g2.keep hmv (fun q hq => hq) fun _ _ _ _ _ _ => rfl⟩
  · obtain ⟨g1, us, g2, g3⟩ := I.glob g cs hg
    exact ⟨fun hc => g1 ((hO g).1 hc), us, g2, g3.mv hmv⟩
  · rw [fnd_delN] at hf
    split at hf
    · cases hf
    · exact ⟨hf, fun _ _ _ _ _ _ _ => rfl⟩

end Go.Ev

namespace Go.Ev
open Go
variable {T : TypeId → Type} {P : Program} {E : Enc T} {W : Rec} {Γ : Hi T} {Tf : Nat → Option AFn} {nk : Nat → Bool}

/-- What is put off: nothing but the ends of iterations. -/
def DfOk (Γ : Hi T) (lo : Nat) (df : List ADef) (h : H) (B : Nat → Prop) : Prop := ∃ ds : List Nat, df = ds.map .coll ∧ ds.Nodup ∧ (Γ.y.isNone = false → ds = []) ∧ ∀ d ∈ ds, lo ≤ d ∧ d < h.next ∧ h.get d = some .dfr ∧ B d

theorem DfOk.gs {Y : Nat → Bool → (Nat → Prop) → (Nat → Prop) → H → Prop} {lo : Nat} {df : List ADef} {h h' : H} {B B' : Nat → Prop} {ρ ρ' : Loc} {ec ec' : EC T} (d : DfOk Γ lo df h B) (g : GS E Γ Y B ρ ec h B' ρ' ec' h') : DfOk Γ lo df h' B' := by
  obtain ⟨ds, h1, h2, h0, h3⟩ := d
  refine ⟨ds, h1, h2, h0, fun x hx => ?_⟩
  obtain ⟨k1, k2, k3, k4⟩ := h3 x hx
  cases hy : Γ.y.isNone with
  | false => rw [h0 hy] at hx; simp at hx
  | true =>
    obtain ⟨g1, _, g2⟩ := g.kp hy
    exact ⟨k1, Nat.lt_of_lt_of_le k2 g.ext.mv.next, by rw [g2 x k4]; exact k3, g1 x k4⟩

theorem rdX_all : ∀ {l : List TyX} {cx : List (CX T)} {I : ArrX T l Prop} {M : ArrX T l Nat} {K : Prop → Nat → Prop}, rdX l cx I M K → ∃ i m, K i m ∧ ∀ F : List (CX T) → Prop → Nat → Prop, allX l I M F → F cx i m
  | [], [], I, M, K, h => ⟨I, M, h, fun F hF => hF⟩
  | .at a :: r, .x w :: vs, I, M, K, h => by
    obtain ⟨x, rfl, h1⟩ := at_look h
    obtain ⟨i, m, h2, h3⟩ := rdX_all h1
    exact ⟨i, m, h2, fun F hF => h3 (fun vs i m => F (.x (a.enc x) :: vs) i m) (hF x)⟩
  | .l e :: r, .l e' l :: vs, I, M, K, h => by
    simp only [rdX] at h
    split at h
    · rename_i x hx
      obtain ⟨he, rfl⟩ := castL_eq hx
      subst he
      obtain ⟨i, m, h2, h3⟩ := rdX_all h
      exact ⟨i, m, h2, fun F hF => h3 (fun vs i m => F (.l e' l :: vs) i m) (hF l)⟩
    · exact h.elim
  | .n :: r, .n x :: vs, I, M, K, h => by
    obtain ⟨i, m, h2, h3⟩ := rdX_all (show rdX r vs (I x) (M x) K from h)
    exact ⟨i, m, h2, fun F hF => h3 (fun vs i m => F (.n x :: vs) i m) (hF x)⟩
  | [], _ :: _, _, _, _, h => h.elim
  | .at _ :: _, [], _, _, _, h => h.elim
  | .at _ :: _, .l _ _ :: _, _, _, _, h => h.elim
  | .at _ :: _, .n _ :: _, _, _, _, h => h.elim
  | .l _ :: _, [], _, _, _, h => h.elim
  | .l _ :: _, .x _ :: _, _, _, _, h => h.elim
  | .l _ :: _, .n _ :: _, _, _, _, h => h.elim
  | .n :: _, [], _, _, _, h => h.elim
  | .n :: _, .x _ :: _, _, _, _, h => h.elim
  | .n :: _, .l _ _ :: _, _, _, _, h => h.elim

/-- At the entry of a loop: what is needed to lay its head anew. -/
theorem head_use (hE : EncOK E) {Y : Nat → Bool → (Nat → Prop) → (Nat → Prop) → H → Prop} (hy : YOK E W Γ Y) {BE B : Nat → Prop} {ρE ρ1 : Loc} {eE e1 eh : EC T} {hS h : H} {tE t1 th : List (X T)} {vsE vs : List Value} {D : List Tmp} {its : List Itm} {cx : List (CX T)}
    (IE : Inv0 E BE ρE eE hS) (dE : DL E hS (OwnS BE ρE eE.env) ρE tE vsE) (I1 : Inv0 E B ρ1 e1 h) (d1 : DL E h (OwnS B ρ1 e1.env) ρ1 t1 vs) (y : Y e1.k e1.fin B (ownB ρ1 e1.env) h) (x : Ext BE ρE eE hS B ρ1 e1 h) (hfr : FrD D vsE vs)
    (hr : reHead D its tE eE t1 e1 = some cx) (hh : hd0 D its tE eE cx = some (th, eh)) :
    ∃ ρ', Inv0 E B ρ' eh h ∧ DL E h (OwnS B ρ' eh.env) ρ' th vs ∧ Ext BE ρE eE hS B ρ' eh h ∧ Y eh.k eh.fin B (ownB ρ' eh.env) h ∧ ∀ b, ownB ρ' eh.env b → ownB ρ1 e1.env b := by
  unfold reHead at hr
  split at hr
  · rename_i cx' hcx
    split at hr
    · rename_i th' eh' hhd
      split at hr
      · rename_i hb
        cases hr
        rw [hh] at hhd
        cases hhd
        simp only [Bool.and_eq_true, Bool.or_eq_true] at hb
        obtain ⟨⟨⟨hc, hok⟩, hk⟩, hfin⟩ := hb
        have hxE : ∀ z ∈ tE, ∀ id v, z = .os id v → id < eE.cnt ∧ v < eE.cnt := by
          rintro z hz id v rfl
          obtain ⟨j, hj, e⟩ := List.getElem_of_mem hz
          have hj' : j < vsE.length := by rw [← dE.1]; exact hj
          have := dE.2 j _ _ (by rw [List.getElem?_eq_getElem hj, e]) (List.getElem?_eq_getElem hj')
          generalize vsE[j] = w at this
          cases this with
          | os _ _ n q q0 hq hle _ =>
            have h1 := IE.vers _ _ _ hq
            refine ⟨?_, by omega⟩
            rcases Nat.lt_or_ge id eE.cnt with h2 | h2
            · exact h2
            · rw [IE.dom id h2] at hq; cases hq
        have hpE : ∀ z ∈ tE, ∀ id, z = .ptr id 0 → id < eE.cnt := by
          rintro z hz id rfl
          obtain ⟨j, hj, e⟩ := List.getElem_of_mem hz
          have hj' : j < vsE.length := by rw [← dE.1]; exact hj
          have := dE.2 j _ _ (by rw [List.getElem?_eq_getElem hj, e]) (List.getElem?_eq_getElem hj')
          generalize vsE[j] = w at this
          cases this with
          | ptr _ _ b q hq _ =>
            rcases Nat.lt_or_ge id eE.cnt with h2 | h2
            · exact h2
            · rw [IE.dom id h2] at hq; cases hq
        have hbE : ∀ id s cs, fnd eE.env id = some (s, .box cs) → ∀ z ∈ cs, ∀ i v, z = .os i v → i < eE.cnt ∧ v < eE.cnt := by
          rintro id s cs hf z hz i v rfl
          obtain ⟨_, q, b, us, t, e, r, _, _, _, _, k5⟩ := IE.obj id s _ hf
          obtain ⟨j, hj, e⟩ := List.getElem_of_mem hz
          have hj' : j < us.length := by rw [← k5.1]; exact hj
          have := k5.2 j _ _ (by rw [List.getElem?_eq_getElem hj, e]) (List.getElem?_eq_getElem hj')
          generalize us[j] = w at this
          cases this with
          | os _ _ n q q0 hq hle _ =>
            have h1 := IE.vers _ _ _ hq
            refine ⟨?_, by omega⟩
            rcases Nat.lt_or_ge i eE.cnt with h2 | h2
            · exact h2
            · rw [IE.dom i h2] at hq; cases hq
        have q0 : HQ eE e1 eE.cnt (⟨eE.env, eE.cnt + 1, eE.k, eE.fin⟩ : EC T) := ⟨Nat.lt_succ_self _, fun id s o hf => .inl ⟨(IE.obj id s o hf).1, hf⟩⟩
        obtain ⟨g1, g2, g3, g4, g5⟩ := hd_step (n := eE.cnt) hxE hpE hbE rfl q0 HT.bad hcx hh
        obtain ⟨r1, r2, r3⟩ := head_ok hE IE I1 x g1 hc dE d1 hfr g2 hok
        have hown : ∀ b, ownB (ρH eh ρE ρ1 eE.cnt) eh.env b → ownB ρ1 e1.env b := fun b hb => by
          obtain ⟨id, hb⟩ := ownB_iff.1 hb
          exact ownB_iff.2 ⟨id, (blkH IE I1 x g1 hc hb).2⟩
        refine ⟨_, r1, r2, r3, ?_, hown⟩
        have ek : eh.k = e1.k := by
          rcases hk with hk | hk
          · exact g4 hk
          · rcases g3 with g3 | g3
            · rw [g3]; exact Nat.eq_of_beq_eq_true hk
            · exact g3
        have ef : eh.fin = e1.fin := by rw [g5]; simpa using hfin
        rw [ek, ef]
        exact hy.stab _ _ _ _ _ _ _ y I1.top (Nat.le_refl _) (fun _ _ _ => rfl) fun b hb => ⟨I1.own_lt (.inr (hown b hb)), fun _ => hown b hb⟩
      · cases hr
    · cases hr
  · cases hr

/-- What comes of code. -/
def Comes (P : Program) (E : Enc T) (W : Rec) (Γ : Hi T) (Y : Nat → Bool → (Nat → Prop) → (Nat → Prop) → H → Prop) (lo : Nat) (D : List Tmp) (c : AC) (rd : Bool) (B : Nat → Prop) (ρ : Loc) (ec : EC T) (h : H) (vs : List Value) (df : List ADef) (Q : AExit → List (X T) → EC T → Prop) : Prop :=
  ∃ x vs' df' h' B' ρ' ts' ec', (∀ rc, evC P W c (mkA vs df rc rd) h = some (x, mkA vs' df' rc rd, h')) ∧ GS E Γ Y B ρ ec h B' ρ' ec' h' ∧ DL E h' (OwnS B' ρ' ec'.env) ρ' ts' vs' ∧ FrD D vs vs' ∧ DfOk Γ lo df' h' B' ∧ (rd = true → df' = df) ∧ Q x ts' ec'

theorem XS_sound (hE : EncOK E) (hW : WOK P Tf nk W) : ∀ (c : AC) {Y : Nat → Bool → (Nat → Prop) → (Nat → Prop) → H → Prop} (hy : YOK E W Γ Y) {rd : Bool} {ts : List (X T)} {ec : EC T} {Q : AExit → List (X T) → EC T → Prop} {B : Nat → Prop} {ρ : Loc} {h : H} {vs : List Value} {lo : Nat} {df : List ADef},
    Inv0 E B ρ ec h → Y ec.k ec.fin B (ownB ρ ec.env) h → DL E h (OwnS B ρ ec.env) ρ ts vs → lo ≤ h.next → DfOk Γ lo df h B → XS P E W Γ c rd ts ec Q → Comes P E W Γ Y lo (dstsC c) c rd B ρ ec h vs df Q := by
  intro c
  induction c with
  | skip =>
    intro Y hy rd ts ec Q B ρ h vs lo df I y d hlo hdf hs
    exact ⟨.normal, vs, df, h, B, ρ, ts, ec, fun _ => rfl, .refl I y, d, .refl _ _, hdf, fun _ => rfl, hs⟩
  | reg ops =>
    intro Y hy rd ts ec Q B ρ h vs lo df I y d hlo hdf hs
    obtain ⟨vs', h', B', ρ', ts', ec', h1, h2, h3, h4⟩ := xOps_elim hE hy I y d hs
    refine ⟨.normal, vs', df, h', B', ρ', ts', ec', fun rc => h1 df rc rd, h2, h3, ?_, hdf.gs h2, fun _ => rfl, h4⟩
    have := evOps_fr (h1 df .unk rd)
    exact this
  | regD ops checks cuts =>
    intro Y hy rd ts ec Q B ρ h vs lo df I y d hlo hdf hs
    obtain ⟨S, u, h1, h2, h3, h4, h0, h5, h6⟩ := xTr_elim hE hy I y d hs
    simp only [List.append_nil, List.reverse_reverse] at h6
    obtain ⟨h7, h8⟩ := xChk_elim hE h2 h6
    have hget : (S.map fun s => (s.vs, s.h))[ops.length]? = some (u.vs, u.h) := by rw [List.getElem?_map, h4]; rfl
    refine ⟨.normal, u.vs, df, u.h, u.B, u.ρ, u.ts, u.ec, fun rc => ?_, h5, (h2.ok h4).2, ?_, hdf.gs h5, fun _ => rfl, h8⟩
    · simp only [evC, evRegD]
      simp only [mkA, h1, h7, if_true, hget]
    · exact trace_fr h1 _ _ _ hget
  | regL b ops checks =>
    intro Y hy rd ts ec Q B ρ h vs lo df I y d hlo hdf hs
    exact hs.elim
  | seq a b iha ihb =>
    intro Y hy rd ts ec Q B ρ h vs lo df I y d hlo hdf hs
    obtain ⟨x, vs', df', h', B', ρ', ts', ec', h1, h2, h3, h4, h5, h6, h7⟩ := iha hy I y d hlo hdf hs
    have fr1 : FrD (dstsC (.seq a b)) vs vs' := h4.mono fun t ht => List.mem_append_left _ ht
    cases x with
    | normal =>
      obtain ⟨x, vs2, df2, h2', B2, ρ2, ts2, ec2, k1, k2, k3, k4, k5, k6, k7⟩ := ihb hy h2.inv h2.y h3 (Nat.le_trans hlo h2.ext.mv.next) h5 h7
      refine ⟨x, vs2, df2, h2', B2, ρ2, ts2, ec2, fun rc => ?_, h2.trans I k2, k3, fr1.trans (k4.mono fun t ht => List.mem_append_right _ ht), k5, fun hr => (k6 hr).trans (h6 hr), k7⟩
      simp only [evC, h1 rc]; exact k1 rc
    | exit id => exact ⟨.exit id, vs', df', h', B', ρ', ts', ec', fun rc => by simp only [evC, h1 rc], h2, h3, fr1, h5, h6, h7⟩
    | ret => exact ⟨.ret, vs', df', h', B', ρ', ts', ec', fun rc => by simp only [evC, h1 rc], h2, h3, fr1, h5, h6, h7⟩
    | panic v => exact h7.elim
  | cond c a b iha ihb =>
    intro Y hy rd ts ec Q B ρ h vs lo df I y d hlo hdf hs
    simp only [XS] at hs
    have dc := D.xev d c
    split at hs
    · rename_i t hc
      rw [hc] at dc
      have hv := v_D dc
      rcases brB_elim hs with ⟨rfl, hs⟩ | ⟨rfl, hs⟩
      · obtain ⟨x, vs', df', h', B', ρ', ts', ec', h1, h2, h3, h4, h5, h6, h7⟩ := iha hy I y d hlo hdf hs
        exact ⟨x, vs', df', h', B', ρ', ts', ec', fun rc => by simp only [evC, mkA, hv]; exact h1 rc, h2, h3, h4.mono fun t ht => List.mem_append_left _ ht, h5, h6, h7⟩
      · obtain ⟨x, vs', df', h', B', ρ', ts', ec', h1, h2, h3, h4, h5, h6, h7⟩ := ihb hy I y d hlo hdf hs
        exact ⟨x, vs', df', h', B', ρ', ts', ec', fun rc => by simp only [evC, mkA, hv]; exact h1 rc, h2, h3, h4.mono fun t ht => List.mem_append_right _ ht, h5, h6, h7⟩
    · exact hs.elim
  | block id c ih =>
    intro Y hy rd ts ec Q B ρ h vs lo df I y d hlo hdf hs
    obtain ⟨x, vs', df', h', B', ρ', ts', ec', h1, h2, h3, h4, h5, h6, h7⟩ := ih hy I y d hlo hdf hs
    cases x with
    | normal => exact ⟨.normal, vs', df', h', B', ρ', ts', ec', fun rc => by simp only [evC, h1 rc], h2, h3, h4, h5, h6, h7⟩
    | ret => exact ⟨.ret, vs', df', h', B', ρ', ts', ec', fun rc => by simp only [evC, h1 rc], h2, h3, h4, h5, h6, h7⟩
    | panic v => exact h7.elim
    | exit id' =>
      simp only at h7
      cases hb : Nat.beq id' id with
      | true =>
        rw [hb] at h7
        have e := Nat.eq_of_beq_eq_true hb
        exact ⟨.normal, vs', df', h', B', ρ', ts', ec', fun rc => by simp only [evC, h1 rc, if_pos e], h2, h3, h4, h5, h6, h7⟩
      | false =>
        rw [hb] at h7
        have e : ¬ id' = id := fun e => by rw [e, Nat.beq_refl] at hb; cases hb
        exact ⟨.exit id', vs', df', h', B', ρ', ts', ec', fun rc => by simp only [evC, h1 rc, if_neg e], h2, h3, h4, h5, h6, h7⟩
  | loop c ih =>
    intro Y hy rd ts ec Q B ρ h vs lo df I y d hlo hdf hs
    simp only [XS] at hs
    cases hnrm : nrm (findI Γ.loops (firstT (dstsC c))) ts ec with
    | mk tE eE =>
      rw [hnrm] at hs
      simp only at hs
      obtain ⟨ρE, st, dE⟩ := nrm_spec I d hnrm
      obtain ⟨II, M, hin, hall⟩ := hs
      have gE := st.gs hy y
      have dfE := hdf.gs gE
      -- from whatever state whose head can be laid
      have key : ∀ (m : Nat) {B1 : Nat → Prop} {ρ1 : Loc} {e1 : EC T} {h1 : H} {vs1 : List Value} {t1 : List (X T)} {cx : List (CX T)} {i : Prop} {df1 : List ADef}, Inv0 E B1 ρ1 e1 h1 → DL E h1 (OwnS B1 ρ1 e1.env) ρ1 t1 vs1 → GS E Γ Y B ρE eE h B1 ρ1 e1 h1 → FrD (dstsC c) vs vs1 → DfOk Γ lo df1 h1 B1 → (rd = true → df1 = df) →
          reHead (dstsC c) (findI Γ.loops (firstT (dstsC c))) tE eE t1 e1 = some cx → i → (∀ F : List (CX T) → Prop → Nat → Prop, allX _ II M F → F cx i m) →
          ∃ x vs' df' h' B' ρ' ts' ec', (∀ rc, evC P W (.loop c) (mkA vs1 df1 rc rd) h1 = some (x, mkA vs' df' rc rd, h')) ∧ GS E Γ Y B ρE eE h B' ρ' ec' h' ∧ DL E h' (OwnS B' ρ' ec'.env) ρ' ts' vs' ∧ FrD (dstsC c) vs vs' ∧ DfOk Γ lo df' h' B' ∧ (rd = true → df' = df) ∧ Q x ts' ec' := by
        intro m
        induction m using Nat.strongRecOn with
        | _ m ihm =>
          intro B1 ρ1 e1 h1 vs1 t1 cx i df1 I1 d1 g1 fr1 df1ok dfe hr hi hF
          have hbody := hF (fun cx i m => i → (match hd0 (dstsC c) (findI Γ.loops (firstT (dstsC c))) tE eE cx with
            | some (th, eh) => XS P E W Γ c rd th eh fun x ts' ec' => match x with
              | .normal => (match reHead (dstsC c) (findI Γ.loops (firstT (dstsC c))) tE eE ts' ec' with
                | some cx' => rdX _ cx' II M fun i' m' => i' ∧ m' < m
                | none => False)
              | .exit id => Q (.exit id) ts' ec'
              | .ret => Q .ret ts' ec'
              | .panic _ => False
            | none => False)) hall hi
          split at hbody
          · rename_i th eh hh
            obtain ⟨ρh, r1, r2, r3, r4, r5⟩ := head_use hE hy st.inv dE I1 d1 g1.y g1.ext fr1 hr hh
            have gh : GS E Γ Y B ρE eE h B1 ρh eh h1 := ⟨r1, r3, r4, g1.kp⟩
            obtain ⟨x, vs2, df2, h2, B2, ρ2, t2, e2, k1, k2, k3, k4, k5, k6, k7⟩ := ih hy r1 r4 r2 (Nat.le_trans hlo g1.ext.mv.next) df1ok hbody
            have g2 := gh.trans st.inv k2
            have fr2 := fr1.trans k4
            cases x with
            | normal =>
              simp only at k7
              split at k7
              · rename_i cx' hr2
                obtain ⟨i', m', ⟨hi', hm'⟩, hF'⟩ := rdX_all k7
                obtain ⟨x, vs3, df3, h3, B3, ρ3, t3, e3, l1, l2⟩ := ihm m' hm' k2.inv k3 g2 fr2 k5 (fun hr => (k6 hr).trans (dfe hr)) hr2 hi' hF'
                refine ⟨x, vs3, df3, h3, B3, ρ3, t3, e3, fun rc => ?_, l2⟩
                simp only [evC, k1 rc]
                exact hW.loop _ _ _ _ (l1 rc)
              · exact k7.elim
            | exit id => exact ⟨.exit id, vs2, df2, h2, B2, ρ2, t2, e2, fun rc => by simp only [evC, k1 rc], g2, k3, fr2, k5, fun hr => (k6 hr).trans (dfe hr), k7⟩
            | ret => exact ⟨.ret, vs2, df2, h2, B2, ρ2, t2, e2, fun rc => by simp only [evC, k1 rc], g2, k3, fr2, k5, fun hr => (k6 hr).trans (dfe hr), k7⟩
            | panic v => exact k7.elim
          · exact hbody.elim
      split at hin
      · rename_i cx hr
        obtain ⟨i, m, hi, hF⟩ := rdX_all hin
        obtain ⟨x, vs', df', h', B', ρ', ts', ec', k1, k2, k3⟩ := key m st.inv dE (.refl st.inv gE.y) (.refl _ _) dfE (fun _ => rfl) hr hi hF
        exact ⟨x, vs', df', h', B', ρ', ts', ec', k1, gE.trans I k2, k3⟩
      · exact hin.elim
  | rangeFunc f ps as bd =>
    intro Y hy rd ts ec Q B ρ h vs lo df I y d hlo hdf hs
    exact hs.elim
  | exit id =>
    intro Y hy rd ts ec Q B ρ h vs lo df I y d hlo hdf hs
    exact ⟨.exit id, vs, df, h, B, ρ, ts, ec, fun _ => rfl, .refl I y, d, .refl _ _, hdf, fun _ => rfl, hs⟩
  | ret =>
    intro Y hy rd ts ec Q B ρ h vs lo df I y d hlo hdf hs
    exact ⟨.ret, vs, df, h, B, ρ, ts, ec, fun _ => rfl, .refl I y, d, .refl _ _, hdf, fun _ => rfl, hs⟩
  | stuck =>
    intro Y hy rd ts ec Q B ρ h vs lo df I y d hlo hdf hs
    exact hs.elim

end Go.Ev

namespace Go.Ev
open Go
variable {T : TypeId → Type} {P : Program} {E : Enc T} {W : Rec} {Γ : Hi T} {Tf : Nat → Option AFn} {nk : Nat → Bool} {B B' : Nat → Prop} {ρ ρ1 ρ' : Loc} {ec e1 ec' : EC T} {h h1 h' : H} {O O' : Nat → Prop}

theorem eqCast {e e' : TypeId} {l : List (T e)} {l' : List (T e')} (h : match castL e e' l with | some x => x = l' | none => False) : ∃ he : e = e', he ▸ l = l' := by
  split at h
  · rename_i z hz
    obtain ⟨ee, rfl⟩ := castL_eq hz
    exact ⟨ee, h⟩
  · exact h.elim

mutual
theorem eqX_D (hE : EncOK E) (I : Inv0 E B ρ1 e1 h1) {f : Nat → Option Nat} {w : Nat → Nat}
    (hO : ∀ b, O' b → OwnS B ρ1 e1.env b) (hF : ∀ id k q, f id = some k → ρ1 id = some (q, 0) → ρ' k = some (q, 0)) (hW : ∀ id k u q, f id = some k → curOs e1 id u = true → ρ1 id = some (q, u) → ρ' k = some (q, w k)) (hN : ∀ id b, f id = none → blkOf ρ1 e1.env id b → ¬ O' b) :
    ∀ {x y : X T} {v : Value}, X.eqX f w e1 x y → D E h1 (OwnS B ρ1 e1.env) ρ1 x v → D E h1 O' ρ' y v
  | .v a, y, v, he, d => by
    have hv := v_D d
    subst hv
    cases y with
    | bad => exact .bad _
    | v b =>
      have : v = b := by
        cases v <;> cases b <;> simp only [X.eqX, need_iff, decide_eq_true_eq] at he <;> first | exact he | (rw [he]) | (obtain ⟨e1, e2⟩ := he; rw [e1, e2]) | skip
        all_goals first | rfl | exact he
      subst this
      exact .v _
    | ro e l =>
      have : v = .slice none 0 0 ∧ l = [] := by
        cases v with
        | slice p n c =>
          cases p with
          | none =>
            cases n with
            | zero =>
              cases c with
              | zero => simp only [X.eqX] at he; exact ⟨rfl, he⟩
              | succ c => simp only [X.eqX] at he
            | succ n => simp only [X.eqX] at he
          | some a => simp only [X.eqX] at he
        | _ => simp only [X.eqX] at he
      obtain ⟨rfl, rfl⟩ := this
      exact .ro e [] ⟨none, 0, 0⟩ [] ⟨rfl, by simp, fun h => by simp at h⟩ rfl (by simp [maxLen]) (.inl rfl) (fun b o h1 => by cases h1) fun i a r h1 => by simp at h1
    | _ => cases v <;> simp only [X.eqX] at he
  | .op a, y, v, he, d => by
    cases y with
    | bad => exact .bad _
    | op b => simp only [X.eqX] at he; subst he; exact d.row_loc hE rfl hO
    | _ => simp only [X.eqX] at he
  | .ro e l, y, v, he, d => by
    cases y with
    | bad => exact .bad _
    | ro e' l' =>
      simp only [X.eqX] at he
      obtain ⟨rfl, rfl⟩ := eqCast he
      exact d.row_loc hE rfl hO
    | _ => simp only [X.eqX] at he
  | .os id u, y, v, he, d => by
    cases y with
    | bad => exact .bad _
    | ro e' l' =>
      simp only [X.eqX] at he
      obtain ⟨hf, he⟩ := need_iff.1 he
      have hf0 : f id = none := by
        split at hf
        · assumption
        · cases hf
      split at he
      · rename_i u' e l hg
        obtain ⟨hu, he2⟩ := need_iff.1 he
        have hu := Nat.eq_of_beq_eq_true hu
        subst hu
        · obtain ⟨rfl, rfl⟩ := eqCast he2
          obtain ⟨s, hfd⟩ := get_fnd hg
          obtain ⟨q, rows, k1, rfl, k2, k3, k4⟩ := os_slice I hfd d
          exact .ro e l q rows k2.sli k3.len k4 (by rcases k2.2 with ⟨e1, _⟩ | ⟨b, t, e1, _⟩ <;> rw [e1] <;> simp) (fun b o hq _ => hN id b hf0 ⟨s, _, q, u, o, hfd, rfl, k1, hq⟩) fun i a r g1 g2 j z w g3 g4 => ((k3.row i a r g1 g2).2 j z w g3 g4).row_loc hE (hE.row _ _ _ (List.mem_of_getElem? g3)) hO
      · rename_i u' e l hg
        obtain ⟨hu, he2⟩ := need_iff.1 he
        have hu := Nat.eq_of_beq_eq_true hu
        subst hu
        · obtain ⟨rfl, rfl⟩ := eqCast he2
          obtain ⟨s, hfd⟩ := get_fnd hg
          exact (fz_ro I hfd d).row_loc hE rfl hO
      · exact he.elim
    | os k u' =>
      simp only [X.eqX] at he
      obtain ⟨hc, _⟩ := need_iff.1 he
      simp only [Bool.and_eq_true] at hc
      have hf : f id = some k := by
        have := hc.1.1
        unfold eqN at this
        split at this
        · rename_i a b ha hb
          cases hb
          rw [ha, Nat.eq_of_beq_eq_true this]
        · cases this
      have hu := Nat.eq_of_beq_eq_true hc.2
      have hcur := hc.1.2
      have hcur' := hcur
      unfold curOs at hcur'
      cases d with
      | os _ _ n q q0 hq hle hw =>
        have hn : u = n := by
          split at hcur'
          · rename_i u2 e l hg
            obtain ⟨s, hfd⟩ := get_fnd hg
            obtain ⟨q2, k1⟩ := OOk.loc (I.obj id s _ hfd).2
            rw [hq] at k1; cases k1
            exact (Nat.eq_of_beq_eq_true hcur').symm
          · rename_i u2 e l hg
            obtain ⟨s, hfd⟩ := get_fnd hg
            obtain ⟨q2, k1⟩ := OOk.loc (I.obj id s _ hfd).2
            rw [hq] at k1; cases k1
            exact (Nat.eq_of_beq_eq_true hcur').symm
          · cases hcur'
        subst hn
        rw [hw rfl, hu]
        exact .os k (w k) (w k) q q (hW id k u q hf hcur hq) (Nat.le_refl _) fun _ => rfl
    | _ => simp only [X.eqX] at he
  | .ptr id o, y, v, he, d => by
    cases y with
    | bad => exact .bad _
    | ptr k o' =>
      simp only [X.eqX] at he
      obtain ⟨hc, _⟩ := need_iff.1 he
      simp only [Bool.and_eq_true] at hc
      have hf : f id = some k := by
        have := hc.1
        unfold eqN at this
        split at this
        · rename_i a b ha hb
          cases hb
          rw [ha, Nat.eq_of_beq_eq_true this]
        · cases this
      cases d with
      | ptr _ _ b q hq hb =>
        rw [Nat.eq_of_beq_eq_true hc.2]
        exact .ptr k o' b q (hF id k q hf hq) hb
    | _ => simp only [X.eqX] at he
  | .mp id, y, v, he, d => by
    cases y with
    | bad => exact .bad _
    | mp k =>
      simp only [X.eqX] at he
      obtain ⟨hc, _⟩ := need_iff.1 he
      have hf : f id = some k := by
        unfold eqN at hc
        split at hc
        · rename_i a b ha hb
          cases hb
          rw [ha, Nat.eq_of_beq_eq_true hc]
        · cases hc
      cases d with
      | mp _ b q hq hb => exact .mp k b q (hF id k q hf hq) hb
    | _ => simp only [X.eqX] at he
  | .agg a, y, v, he, d => by
    cases y with
    | bad => exact .bad _
    | agg b =>
      simp only [X.eqX] at he
      cases d with
      | agg _ us hl hd =>
        have := eqXL_D hE I hO hF hW hN (l := a) (m := b) (us := us) he ⟨hl, hd⟩
        exact .agg b us this.1 this.2
    | _ => simp only [X.eqX] at he
  | .tup a, y, v, he, d => by
    cases y with
    | bad => exact .bad _
    | tup b =>
      simp only [X.eqX] at he
      cases d with
      | tup _ us hl hd =>
        have := eqXL_D hE I hO hF hW hN (l := a) (m := b) (us := us) he ⟨hl, hd⟩
        exact .tup b us this.1 this.2
    | _ => simp only [X.eqX] at he
  | .fn g a b, y, v, he, d => by
    cases y with
    | bad => exact .bad _
    | fn g' a' b' =>
      simp only [X.eqX] at he
      obtain ⟨hg, e1, e2⟩ := need_iff.1 he
      have hg := Nat.eq_of_beq_eq_true hg
      subst hg
      cases d with
      | fn _ _ _ va vb ha hb hda hdb =>
        have k1 := eqXL_D hE I hO hF hW hN (l := a) (m := a') (us := va) e1 ⟨ha, hda⟩
        have k2 := eqXL_D hE I hO hF hW hN (l := b) (m := b') (us := vb) e2 ⟨hb, hdb⟩
        exact .fn g a' b' va vb k1.1 k2.1 k1.2 k2.2
    | _ => simp only [X.eqX] at he
  | .ifc t a, y, v, he, d => by
    cases y with
    | bad => exact .bad _
    | ifc t' b =>
      simp only [X.eqX] at he
      obtain ⟨ht, e1⟩ := need_iff.1 he
      have ht := Nat.eq_of_beq_eq_true ht
      subst ht
      cases d with
      | ifc _ _ u hd => exact .ifc t b u (eqX_D hE I hO hF hW hN e1 hd)
    | _ => simp only [X.eqX] at he
  | .arr _ _ _ _ _, y, v, he, d => by cases y <;> first | exact .bad _ | (simp only [X.eqX] at he)
  | .ea _ _ _, y, v, he, d => by cases y <;> first | exact .bad _ | (simp only [X.eqX] at he)
  | .oa _ _ _ _ _, y, v, he, d => by cases y <;> first | exact .bad _ | (simp only [X.eqX] at he)
  | .gp _ _, y, v, he, d => by cases y <;> first | exact .bad _ | (simp only [X.eqX] at he)
  | .ga _ _ _ _ _, y, v, he, d => by cases y <;> first | exact .bad _ | (simp only [X.eqX] at he)
  | .bad, y, v, he, d => by cases y <;> first | exact .bad _ | (simp only [X.eqX] at he)
theorem eqXL_D (hE : EncOK E) (I : Inv0 E B ρ1 e1 h1) {f : Nat → Option Nat} {w : Nat → Nat}
    (hO : ∀ b, O' b → OwnS B ρ1 e1.env b) (hF : ∀ id k q, f id = some k → ρ1 id = some (q, 0) → ρ' k = some (q, 0)) (hW : ∀ id k u q, f id = some k → curOs e1 id u = true → ρ1 id = some (q, u) → ρ' k = some (q, w k)) (hN : ∀ id b, f id = none → blkOf ρ1 e1.env id b → ¬ O' b) :
    ∀ {l m : List (X T)} {us : List Value}, X.eqXL f w e1 l m → DL E h1 (OwnS B ρ1 e1.env) ρ1 l us → DL E h1 O' ρ' m us
  | [], m, us, he, d => by
    cases m with
    | nil =>
      have : us = [] := List.length_eq_zero_iff.1 d.1.symm
      subst this; exact .nil
    | cons _ _ => simp only [X.eqXL] at he
  | a :: r, m, us, he, d => by
    obtain ⟨u, us', rfl, d1, d2⟩ := d.uncons
    cases m with
    | nil => simp only [X.eqXL] at he
    | cons b s =>
      have hh : X.eqX f w e1 a b ∧ X.eqXL f w e1 r s := by
        cases r with
        | nil =>
          cases s with
          | nil => simp only [X.eqXL] at he; exact ⟨he, trivial⟩
          | cons _ _ => simp only [X.eqXL] at he; exact he
        | cons _ _ =>
          cases s with
          | nil => simp only [X.eqXL] at he; exact he.2.elim
          | cons _ _ => simp only [X.eqXL] at he ⊢; exact he
      exact .cons (eqX_D hE I hO hF hW hN hh.1 d1) (eqXL_D hE I hO hF hW hN hh.2 d2)
end

end Go.Ev

namespace Go.Ev
open Go
variable {T : TypeId → Type} {P : Program} {E : Enc T} {W : Rec} {Γ : Hi T} {Tf : Nat → Option AFn} {nk : Nat → Bool} {B B' : Nat → Prop} {ρ ρ1 ρ' : Loc} {ec e1 ec' : EC T} {h h1 h' : H} {O O' : Nat → Prop}

theorem okB_spec {n m : Nat} : ∀ {b : List (Nat × Nat)}, okB n m b = true → (∀ p ∈ b, n ≤ p.2 ∧ p.2 < m) ∧ ∀ p ∈ b, ∀ q ∈ b, (p.1 = q.1 ↔ p.2 = q.2)
  | [], _ => ⟨fun p hp => by simp at hp, fun p hp => by simp at hp⟩
  | (x, y) :: r, h => by
    simp only [okB, Bool.and_eq_true, List.all_eq_true] at h
    obtain ⟨⟨⟨h1, h2⟩, h3⟩, h4⟩ := h
    obtain ⟨k1, k2⟩ := okB_spec h4
    have hp : ∀ p ∈ r, (x = p.1 ↔ y = p.2) := fun p hp => by
      have := h3 p hp
      simp only [Bool.or_eq_true, Bool.and_eq_true, Bool.not_eq_true'] at this
      rcases this with ⟨e1, e2⟩ | ⟨e1, e2⟩
      · exact ⟨fun _ => (Nat.eq_of_beq_eq_true e2).symm, fun _ => (Nat.eq_of_beq_eq_true e1).symm⟩
      · exact ⟨fun e => (by rw [← e, Nat.beq_refl] at e1; cases e1), fun e => (by rw [← e, Nat.beq_refl] at e2; cases e2)⟩
    refine ⟨fun p hp' => ?_, fun p hp' q hq => ?_⟩
    · rcases List.mem_cons.1 hp' with rfl | h5
      · exact ⟨Nat.le_of_ble_eq_true h1, by have := h2; rw [Nat.blt_eq] at this; exact this⟩
      · exact k1 p h5
    · rcases List.mem_cons.1 hp' with rfl | h5 <;> rcases List.mem_cons.1 hq with rfl | h6
      · exact ⟨fun _ => rfl, fun _ => rfl⟩
      · exact hp q h6
      · exact ⟨fun e => ((hp p h5).1 e.symm).symm, fun e => ((hp p h5).2 e.symm).symm⟩
      · exact k2 p h5 q h6

theorem lookN_mem : ∀ {b : List (Nat × Nat)} {d k : Nat}, lookN b d = some k → (d, k) ∈ b
  | [], _, _, h => by cases h
  | (x, y) :: r, d, k, h => by
    simp only [lookN] at h
    cases hb : Nat.beq x d with
    | true =>
      rw [hb] at h
      simp only [cond_true, Option.some.injEq] at h
      rw [← h, ← Nat.eq_of_beq_eq_true hb]; exact List.mem_cons_self ..
    | false => rw [hb] at h; exact List.mem_cons_of_mem _ (lookN_mem h)

theorem lookN_of : ∀ {b : List (Nat × Nat)} {d k : Nat}, (∀ p ∈ b, ∀ q ∈ b, (p.1 = q.1 ↔ p.2 = q.2)) → (d, k) ∈ b → lookN b d = some k
  | [], _, _, _, h => by simp at h
  | (x, y) :: r, d, k, hp, h => by
    simp only [lookN]
    cases hb : Nat.beq x d with
    | true =>
      have := (hp _ (List.mem_cons_self ..) _ h).1 (Nat.eq_of_beq_eq_true hb)
      simp only at this
      rw [this]; rfl
    | false =>
      rcases List.mem_cons.1 h with h1 | h1
      · cases h1; rw [Nat.beq_refl] at hb; cases hb
      · exact lookN_of (fun p hp' q hq => hp p (List.mem_cons_of_mem _ hp') q (List.mem_cons_of_mem _ hq)) h1

theorem flipN_mem : ∀ {b : List (Nat × Nat)} {d k : Nat}, flipN b d = some k → (k, d) ∈ b
  | [], _, _, h => by cases h
  | (x, y) :: r, d, k, h => by
    simp only [flipN] at h
    cases hb : Nat.beq y d with
    | true =>
      rw [hb] at h
      simp only [cond_true, Option.some.injEq] at h
      rw [← h, ← Nat.eq_of_beq_eq_true hb]; exact List.mem_cons_self ..
    | false => rw [hb] at h; exact List.mem_cons_of_mem _ (flipN_mem h)

theorem flipN_of : ∀ {b : List (Nat × Nat)} {d k : Nat}, (∀ p ∈ b, ∀ q ∈ b, (p.1 = q.1 ↔ p.2 = q.2)) → (k, d) ∈ b → flipN b d = some k
  | [], _, _, _, h => by simp at h
  | (x, y) :: r, d, k, hp, h => by
    simp only [flipN]
    cases hb : Nat.beq y d with
    | true =>
      have := (hp _ (List.mem_cons_self ..) _ h).2 (Nat.eq_of_beq_eq_true hb)
      simp only at this
      rw [this]; rfl
    | false =>
      rcases List.mem_cons.1 h with h1 | h1
      · cases h1; rw [Nat.beq_refl] at hb; cases hb
      · exact flipN_of (fun p hp' q hq => hp p (List.mem_cons_of_mem _ hp') q (List.mem_cons_of_mem _ hq)) h1

theorem endOld_spec {n : Nat} {out : List (Ch T)} {b : List (Nat × Nat)} : ∀ {c : Nat} {K : Prop}, endOld n out b e1 c K → K ∧ ∀ k, k < c → match chAt out k with
    | .same => ∃ o, fnd e1.env k = some (0, o)
    | .chg o => ∃ o', e1.get k = some o' ∧ eqO (endF n out b) (endW n out e1) e1 o' o
    | .gone => True
  | 0, K, h => ⟨h, fun k hk => by omega⟩
  | c + 1, K, h => by
    simp only [endOld] at h
    obtain ⟨h1, h2⟩ := endOld_spec h
    have key : K ∧ match chAt out c with
        | .same => ∃ o, fnd e1.env c = some (0, o)
        | .chg o => ∃ o', e1.get c = some o' ∧ eqO (endF n out b) (endW n out e1) e1 o' o
        | .gone => True := by
      cases hc : chAt out c with
      | same =>
        rw [hc] at h1
        simp only at h1
        obtain ⟨g1, g2⟩ := need_iff.1 h1
        refine ⟨g2, ?_⟩
        split at g1
        · rename_i o ho; exact ⟨o, ho⟩
        · cases g1
      | chg o =>
        rw [hc] at h1
        simp only at h1
        split at h1
        · rename_i o' ho; exact ⟨h1.2, o', ho, h1.1⟩
        · exact h1.elim
      | gone => rw [hc] at h1; exact ⟨h1, trivial⟩
    refine ⟨key.1, fun k hk => ?_⟩
    by_cases he : k = c
    · rw [he]; exact key.2
    · exact h2 k (by omega)

theorem endNew_spec {n : Nat} {out : List (Ch T)} {b : List (Nat × Nat)} : ∀ {l : List (Ob T)} {j : Nat} {K : Prop}, endNew n out b e1 j l K → K ∧ ∀ (i : Nat) (o : Ob T), l[i]? = some o → ∃ id o', flipN b (n + (j + i)) = some id ∧ e1.get id = some o' ∧ eqO (endF n out b) (endW n out e1) e1 o' o
  | [], j, K, h => ⟨h, fun i o hi => by simp at hi⟩
  | o :: r, j, K, h => by
    simp only [endNew] at h
    split at h
    · rename_i id hid
      split at h
      · rename_i o' ho
        obtain ⟨h1, h2⟩ := h
        obtain ⟨g1, g2⟩ := endNew_spec h2
        refine ⟨g1, fun i u hi => ?_⟩
        cases i with
        | zero => simp at hi; subst hi; exact ⟨id, o', hid, ho, h1⟩
        | succ i =>
          simp at hi
          obtain ⟨id', o'', k1, k2⟩ := g2 i u hi
          exact ⟨id', o'', by rw [show j + (i + 1) = j + 1 + i by omega]; exact k1, k2⟩
      · exact h.elim
    · exact h.elim

theorem eqO_kind {f : Nat → Option Nat} {w : Nat → Nat} {o' o : Ob T} (h : eqO f w e1 o' o) : o'.own = true ∧ o.own = true ∧ (osV o' = none ↔ osV o = none) := by
  unfold eqO at h
  split at h
  · exact ⟨rfl, rfl, by simp [osV]⟩
  · exact ⟨rfl, rfl, by simp [osV]⟩
  · exact ⟨rfl, rfl, by simp [osV]⟩
  · exact h.elim

theorem osV_none {o : Ob T} (h : osV o = none) : o.vn = 0 := by cases o <;> simp_all [osV, Ob.vn]

theorem OOk.vn0 {id : Nat} {o : Ob T} (ho : OOk E h O ρ id o) : osV o = none ↔ o.vn = 0 := by
  cases o with
  | box => simp [osV, Ob.vn]
  | mp => simp [osV, Ob.vn]
  | os v e l => obtain ⟨_, _, _, h0, _⟩ := ho; simp [osV, Ob.vn]; omega
  | fz v e l => obtain ⟨_, _, h0, _⟩ := ho; simp [osV, Ob.vn]; omega

theorem verOk_mem {w : Nat} {l : List (Ob T)} (h : verOk w l = true) {o : Ob T} (ho : o ∈ l) : o.vn = 0 ∧ osV o = none ∨ o.vn = w ∧ osV o ≠ none := by
  unfold verOk at h
  rw [List.all_eq_true] at h
  have := h o ho
  split at this
  · rename_i v hv
    exact .inr ⟨by rw [osV_vn hv]; exact Nat.eq_of_beq_eq_true this, by rw [hv]; simp⟩
  · rename_i hv; exact .inl ⟨osV_none hv, hv⟩

def ρZ (ρ ρ1 : Loc) (n : Nat) (out : List (Ch T)) (new : List (Ob T)) (b : List (Nat × Nat)) (k : Nat) : Option (SV × Nat) :=
  if k < n then (match chAt out k with
    | .chg o => (match ρ1 k with | some (q, _) => some (q, o.vn) | none => ρ k)
    | _ => ρ k)
  else (match flipN b k, new[k - n]? with
    | some id, some o => (match ρ1 id with | some (q, _) => some (q, o.vn) | none => none)
    | _, _ => none)

theorem end_ok (hE : EncOK E) {Ein : List (Ob T)} (I : Inv0 E B ρ (ecOf Ein) h) (hnone : ∀ k, Ein.length ≤ k → ρ k = none) (hver : verOk 1 Ein = true) (I1 : Inv0 E B ρ1 e1 h1) (x : Ext B ρ (ecOf Ein) h B ρ1 e1 h1) (hkeep : ∀ b, B b → h1.get b = h.get b)
    {res xx : X T} {out : List (Ch T)} {new : List (Ob T)} {v : Value} (dx : D E h1 (OwnS B ρ1 e1.env) ρ1 xx v) (hs : xEnd Ein.length res out new xx e1) :
    ∃ ρ', Inv0 E B ρ' (ecOut Ein out new) h1 ∧ D E h1 (OwnS B ρ' (ecOut Ein out new).env) ρ' res v ∧
      (∀ b, b < h.next → ¬ touchB ρ Ein out b → h1.get b = h.get b) ∧
      (∀ b, b < h.next → ownB ρ' (ecOut Ein out new).env b → ownB ρ (ecOf Ein).env b) ∧
      (∀ k q m, k < Ein.length → ρ k = some (q, m) → match chAt out k with
        | .same => ρ' k = some (q, m)
        | .chg _ => (m = 0 → ρ' k = some (q, 0)) ∧ (m ≠ 0 → ∃ q' m', ρ' k = some (q', m') ∧ m' ≠ 0)
        | .gone => True) := by
  unfold xEnd at hs
  simp only at hs
  generalize hb : ((X.bnd xx res).filter fun p => Nat.ble Ein.length p.2) ++ endB Ein.length e1 0 out = b at hs
  obtain ⟨hok, hs⟩ := need_iff.1 hs
  simp only [Bool.and_eq_true, List.all_eq_true] at hok
  obtain ⟨⟨⟨⟨hv2, hv1⟩, hokb⟩, hball⟩, holen⟩ := hok
  obtain ⟨hbr, hbi⟩ := okB_spec hokb
  obtain ⟨hs2, hold⟩ := endOld_spec hs
  obtain ⟨hres, hnew⟩ := endNew_spec hs2
  generalize hn : Ein.length = n at *
  have hcnt : (ecOf Ein).cnt = n + 2 := by show Ein.length + 2 = n + 2; rw [hn]
  -- entries at the start
  have hent : ∀ k, k < n → ∃ o q, Ein[k]? = some o ∧ fnd (ecOf Ein).env k = some (0, o) ∧ ρ k = some (q, o.vn) ∧ (o.vn = 0 ∧ osV o = none ∨ o.vn = 1 ∧ osV o ≠ none) := fun k hk => by
    have hE' := List.getElem?_eq_getElem (show k < Ein.length by omega)
    have hf : fnd (ecOf Ein).env k = some (0, Ein[k]) := by rw [fnd_ecOf, hE']; rfl
    obtain ⟨q, hq⟩ := OOk.loc (I.obj k 0 _ hf).2
    exact ⟨_, q, hE', hf, hq, verOk_mem hver (List.getElem_mem _)⟩
  have hsame : ∀ k, k < n → chAt out k = .same → ∃ o q, Ein[k]? = some o ∧ fnd e1.env k = some (0, o) ∧ ρ k = some (q, o.vn) ∧ ρ1 k = some (q, o.vn) ∧ (∀ q n b off, ρ k = some (q, n) → q.p = some ⟨b, off, none⟩ → o.own = true → h1.get b = h.get b) := fun k hk hc => by
    have h1' := hold k hk
    rw [hc] at h1'
    obtain ⟨o1, ho1⟩ := h1'
    obtain ⟨o, q, k1, k2, k3, _⟩ := hent k hk
    obtain ⟨g1, g2⟩ := x.stab k 0 o1 ho1 (by rw [hcnt]; omega)
    rw [k2] at g1; cases g1
    obtain ⟨q1, e3⟩ := OOk.loc (I1.obj k 0 _ ho1).2
    have := x.mv.same k3 e3
    subst this
    exact ⟨_, q1, k1, ho1, k3, e3, g2⟩
  have hchg : ∀ k o, k < n → chAt out k = .chg o → ∃ o' s q, fnd e1.env k = some (s, o') ∧ e1.get k = some o' ∧ ρ1 k = some (q, o'.vn) ∧ eqO (endF n out b) (endW n out e1) e1 o' o ∧ (o'.vn = 0 ↔ o.vn = 0) ∧ (o.vn = 0 ∧ osV o = none ∨ o.vn = 2 ∧ osV o ≠ none) := fun k o hk hc => by
    have h1' := hold k hk
    rw [hc] at h1'
    obtain ⟨o', g1, g2⟩ := h1'
    obtain ⟨s, hf⟩ := get_fnd g1
    obtain ⟨q, e3⟩ := OOk.loc (I1.obj k s _ hf).2
    have hmem : o ∈ out.filterMap fun c => match c with | .chg o => some o | _ => none := by
      rw [List.mem_filterMap]
      refine ⟨.chg o, ?_, rfl⟩
      unfold chAt at hc
      rw [List.getD_eq_getElem?_getD] at hc
      cases ho : out[k]? with
      | none => rw [ho] at hc; cases hc
      | some c => rw [ho] at hc; rw [← (show c = .chg o from hc)]; exact List.mem_of_getElem? ho
    have hvo := verOk_mem hv2 hmem
    obtain ⟨_, _, k3⟩ := eqO_kind g2
    have := OOk.vn0 (I1.obj k s _ hf).2
    refine ⟨o', s, q, hf, g1, e3, g2, ?_, hvo⟩
    rw [← this, k3]
    rcases hvo with ⟨a, c⟩ | ⟨a, c⟩
    · exact ⟨fun _ => a, fun _ => c⟩
    · exact ⟨fun e => absurd e c, fun e => by omega⟩
  have hnw : ∀ (i : Nat) (o : Ob T), new[i]? = some o → ∃ id o' s q, flipN b (n + i) = some id ∧ fnd e1.env id = some (s, o') ∧ e1.get id = some o' ∧ ρ1 id = some (q, o'.vn) ∧ eqO (endF n out b) (endW n out e1) e1 o' o ∧ (o'.vn = 0 ↔ o.vn = 0) ∧ (o.vn = 0 ∧ osV o = none ∨ o.vn = 1 ∧ osV o ≠ none) := fun i o hi => by
    obtain ⟨id, o', g0, g1, g2⟩ := hnew i o hi
    rw [Nat.zero_add] at g0
    obtain ⟨s, hf⟩ := get_fnd g1
    obtain ⟨q, e3⟩ := OOk.loc (I1.obj id s _ hf).2
    have hvo := verOk_mem hv1 (List.mem_of_getElem? hi)
    obtain ⟨_, _, k3⟩ := eqO_kind g2
    have := OOk.vn0 (I1.obj id s _ hf).2
    refine ⟨id, o', s, q, g0, hf, g1, e3, g2, ?_, hvo⟩
    rw [← this, k3]
    rcases hvo with ⟨a, c⟩ | ⟨a, c⟩
    · exact ⟨fun _ => a, fun _ => c⟩
    · exact ⟨fun e => absurd e c, fun e => by omega⟩
  -- the numbers told
  have hf_old : ∀ k, k < n → (match chAt out k with | .gone => False | _ => True) → endF n out b k = some k := fun k hk hc => by
    unfold endF
    rw [blt_iff.2 hk]
    cases hcc : chAt out k with
    | gone => rw [hcc] at hc; exact hc.elim
    | same => rfl
    | chg o => rfl
  have hf_new : ∀ i id, flipN b (n + i) = some id → endF n out b id = some (n + i) := fun i id hf => by
    have hm := flipN_mem hf
    have hl := lookN_of hbi hm
    have hb2 := hball _ hm
    simp only [Bool.or_eq_true] at hb2
    unfold endF
    cases hlt : Nat.blt id n with
    | false => cases chAt out id <;> exact hl
    | true =>
      rcases hb2 with hb2 | hb2
      · have := Nat.le_of_ble_eq_true hb2
        have := blt_iff.1 hlt
        omega
      · cases hcc : chAt out id with
        | gone => exact hl
        | _ => rw [hcc] at hb2; cases hb2
  have hf_inv : ∀ id k, endF n out b id = some k → (k < n ∧ k = id ∧ (match chAt out k with | .gone => False | _ => True)) ∨ (n ≤ k ∧ k < n + new.length ∧ flipN b k = some id) := fun id k hf => by
    unfold endF at hf
    have look : lookN b id = some k → n ≤ k ∧ k < n + new.length ∧ flipN b k = some id := fun hl => by
      have hm := lookN_mem hl
      have := hbr _ hm
      exact ⟨this.1, this.2, flipN_of hbi hm⟩
    cases hlt : Nat.blt id n with
    | false => rw [hlt] at hf; cases hcc : chAt out id <;> rw [hcc] at hf <;> exact .inr (look hf)
    | true =>
      rw [hlt] at hf
      cases hcc : chAt out id with
      | gone => rw [hcc] at hf; exact .inr (look hf)
      | same => rw [hcc] at hf; cases hf; exact .inl ⟨blt_iff.1 hlt, rfl, by rw [hcc]; trivial⟩
      | chg o => rw [hcc] at hf; cases hf; exact .inl ⟨blt_iff.1 hlt, rfl, by rw [hcc]; trivial⟩
  have hz_same : ∀ k, k < n → chAt out k = .same → ρZ ρ ρ1 n out new b k = ρ k := fun k hk hc => by unfold ρZ; rw [if_pos hk, hc]
  have hz_gone : ∀ k, k < n → chAt out k = .gone → ρZ ρ ρ1 n out new b k = ρ k := fun k hk hc => by unfold ρZ; rw [if_pos hk, hc]
  have hz_chg : ∀ k o q m, k < n → chAt out k = .chg o → ρ1 k = some (q, m) → ρZ ρ ρ1 n out new b k = some (q, o.vn) := fun k o q m hk hc hq => by unfold ρZ; rw [if_pos hk, hc]; simp only [hq]
  have hz_new : ∀ i o id q m, new[i]? = some o → flipN b (n + i) = some id → ρ1 id = some (q, m) → ρZ ρ ρ1 n out new b (n + i) = some (q, o.vn) := fun i o id q m hi hf hq => by
    unfold ρZ
    rw [if_neg (by omega), hf, show n + i - n = i by omega, hi]
    simp only [hq]
  -- own memory, told
  have hblk : ∀ k c, blkOf (ρZ ρ ρ1 n out new b) (ecOut Ein out new).env k c → ∃ id, endF n out b id = some k ∧ blkOf ρ1 e1.env id c := by
    rintro k c ⟨s, o, q, m, off, g1, g2, g3, g4⟩
    rw [fnd_ecOut, hn] at g1
    split at g1
    · rename_i hk
      obtain ⟨o0, q0, k1, _⟩ := hent k hk
      rw [k1] at g1
      cases hc : chAt out k with
      | same =>
        rw [hc] at g1
        cases g1
        obtain ⟨o1, q1, l1, l2, l3, l4, _⟩ := hsame k hk hc
        rw [k1] at l1; cases l1
        rw [hz_same k hk hc, l3] at g3; cases g3
        exact ⟨k, hf_old k hk (by rw [hc]; trivial), 0, _, _, _, off, l2, g2, l4, g4⟩
      | chg o2 =>
        rw [hc] at g1
        cases g1
        obtain ⟨o', s', q', l1, _, l2, l3, _⟩ := hchg k _ hk hc
        rw [hz_chg k _ q' _ hk hc l2] at g3; cases g3
        exact ⟨k, hf_old k hk (by rw [hc]; trivial), s', o', _, _, off, l1, (eqO_kind l3).1, l2, g4⟩
      | gone => rw [hc] at g1; cases g1
    · rename_i hk
      rw [Option.map_eq_some_iff] at g1
      obtain ⟨o2, hi, e⟩ := g1
      cases e
      obtain ⟨id, o', s', q', l0, l1, _, l2, l3, _⟩ := hnw (k - n) _ hi
      have hkn : n + (k - n) = k := by omega
      have hz := hz_new (k - n) _ id q' _ hi l0 l2
      rw [hkn] at l0 hz
      rw [hz] at g3; cases g3
      exact ⟨id, by rw [← hkn]; exact hf_new (k - n) id (by rw [hkn]; exact l0), s', o', _, _, off, l1, (eqO_kind l3).1, l2, g4⟩
  have hO : ∀ c, OwnS B (ρZ ρ ρ1 n out new b) (ecOut Ein out new).env c → OwnS B ρ1 e1.env c := by
    rintro c (g | g)
    · exact .inl g
    · obtain ⟨k, g⟩ := ownB_iff.1 g
      obtain ⟨id, _, g2⟩ := hblk k c g
      exact .inr (ownB_iff.2 ⟨id, g2⟩)
  have hF : ∀ id k q, endF n out b id = some k → ρ1 id = some (q, 0) → ρZ ρ ρ1 n out new b k = some (q, 0) := fun id k q hf hq => by
    rcases hf_inv id k hf with ⟨hk, rfl, hc⟩ | ⟨hk, hk2, hfl⟩
    · cases hcc : chAt out k with
      | same =>
        obtain ⟨o, q', l1, l2, l3, l4, _⟩ := hsame k hk hcc
        rw [hz_same k hk hcc, l3]
        rw [hq] at l4
        simp only [Option.some.injEq, Prod.mk.injEq] at l4
        rw [← l4.1, ← l4.2]
      | chg o =>
        obtain ⟨o', s, q', l1, _, l2, _, l3, _⟩ := hchg k o hk hcc
        rw [hz_chg k o q' _ hk hcc l2]
        rw [hq] at l2
        simp only [Option.some.injEq, Prod.mk.injEq] at l2
        rw [l3.1 l2.2.symm, l2.1]
      | gone => rw [hcc] at hc; exact hc.elim
    · have hi := List.getElem?_eq_getElem (show k - n < new.length by omega)
      have hkn : n + (k - n) = k := by omega
      obtain ⟨id2, o', s', q', l0, l1, _, l2, _, l3, _⟩ := hnw (k - n) _ hi
      rw [hkn, hfl] at l0; cases l0
      have hz := hz_new (k - n) _ id q' _ hi (by rw [hkn]; exact hfl) l2
      rw [hkn] at hz
      rw [hz]
      rw [hq] at l2
      simp only [Option.some.injEq, Prod.mk.injEq] at l2
      rw [l3.1 l2.2.symm, l2.1]
  have hWv : ∀ id k u q, endF n out b id = some k → curOs e1 id u = true → ρ1 id = some (q, u) → ρZ ρ ρ1 n out new b k = some (q, endW n out e1 k) := fun id k u q hf hcur hq => by
    have hos : ∃ o', e1.get id = some o' ∧ osV o' = some u := by
      unfold curOs at hcur
      split at hcur
      · rename_i u2 e l hg; exact ⟨_, hg, by rw [← Nat.eq_of_beq_eq_true hcur]; rfl⟩
      · rename_i u2 e l hg; exact ⟨_, hg, by rw [← Nat.eq_of_beq_eq_true hcur]; rfl⟩
      · cases hcur
    obtain ⟨o', hg, hv⟩ := hos
    rcases hf_inv id k hf with ⟨hk, rfl, hc⟩ | ⟨hk, hk2, hfl⟩
    · have hlt := blt_iff.2 hk
      cases hcc : chAt out k with
      | same =>
        obtain ⟨o, q', l1, l2, l3, l4, _⟩ := hsame k hk hcc
        rw [hz_same k hk hcc, l3]
        rw [hq] at l4
        simp only [Option.some.injEq, Prod.mk.injEq] at l4
        unfold endW
        rw [hlt, hcc]
        simp only [hg, hv]
        rw [← l4.1, ← l4.2]
      | chg o =>
        obtain ⟨o2, s, q', l1, l5, l2, l6, l3, l4⟩ := hchg k o hk hcc
        rw [hg] at l5; cases l5
        rw [hz_chg k o q' _ hk hcc l2]
        rw [hq] at l2
        simp only [Option.some.injEq, Prod.mk.injEq] at l2
        unfold endW
        rw [hlt, hcc]
        simp only
        have hne : osV o ≠ none := fun e => by have := (eqO_kind l6).2.2.2 e; rw [hv] at this; cases this
        rcases l4 with ⟨_, l4⟩ | ⟨l4, _⟩
        · exact absurd l4 hne
        · rw [l4, l2.1]
      | gone => rw [hcc] at hc; exact hc.elim
    · have hi := List.getElem?_eq_getElem (show k - n < new.length by omega)
      have hkn : n + (k - n) = k := by omega
      obtain ⟨id2, o2, s', q', l0, l1, l5, l2, l6, l3, l4⟩ := hnw (k - n) _ hi
      rw [hkn, hfl] at l0; cases l0
      rw [hg] at l5; cases l5
      have hz := hz_new (k - n) _ id q' _ hi (by rw [hkn]; exact hfl) l2
      rw [hkn] at hz
      rw [hz]
      rw [hq] at l2
      simp only [Option.some.injEq, Prod.mk.injEq] at l2
      unfold endW
      have hlt : Nat.blt k n = false := by
        cases hb' : Nat.blt k n with
        | false => rfl
        | true => have := blt_iff.1 hb'; omega
      rw [hlt]
      simp only
      have hne : osV new[k - n] ≠ none := fun e => by have := (eqO_kind l6).2.2.2 e; rw [hv] at this; cases this
      rcases l4 with ⟨_, l4⟩ | ⟨l4, _⟩
      · exact absurd l4 hne
      · rw [l4, l2.1]
  have hN : ∀ id c, endF n out b id = none → blkOf ρ1 e1.env id c → ¬ OwnS B (ρZ ρ ρ1 n out new b) (ecOut Ein out new).env c := fun id c hf hc ho => by
    rcases ho with ho | ho
    · exact I1.notB c (ownB_iff.2 ⟨id, hc⟩) ho
    · obtain ⟨k, g⟩ := ownB_iff.1 ho
      obtain ⟨id2, g1, g2⟩ := hblk k c g
      have := I1.blk_inj g2 hc
      rw [this, hf] at g1; cases g1
  have hmv : Mv h h1 (OwnS B ρ (ecOf Ein).env) (OwnS B (ρZ ρ ρ1 n out new b) (ecOut Ein out new).env) ρ (ρZ ρ ρ1 n out new b) := by
    refine ⟨x.mv.next, x.mv.get, fun c hc ho => x.mv.own c hc (hO c ho), fun k q m hq => ?_⟩
    have hk : k < n := by
      rcases Nat.lt_or_ge k n with g | g
      · exact g
      · rw [hnone k g] at hq; cases hq
    cases hcc : chAt out k with
    | same => exact ⟨q, m, by rw [hz_same k hk hcc]; exact hq, Nat.le_refl _, fun _ => rfl, fun e => e⟩
    | gone => exact ⟨q, m, by rw [hz_gone k hk hcc]; exact hq, Nat.le_refl _, fun _ => rfl, fun e => e⟩
    | chg o =>
      obtain ⟨o', s, q', l1, l5, l2, l6, l3, l4⟩ := hchg k o hk hcc
      obtain ⟨o0, q0, k1, k2, k3, k4⟩ := hent k hk
      rw [hq] at k3
      simp only [Option.some.injEq, Prod.mk.injEq] at k3
      obtain ⟨q1, m1, j1, j2, j3, j4⟩ := x.mv.loc k q m hq
      rw [l2] at j1
      simp only [Option.some.injEq, Prod.mk.injEq] at j1
      refine ⟨q', o.vn, hz_chg k o q' _ hk hcc l2, ?_⟩
      rcases k4 with ⟨k4, _⟩ | ⟨k4, _⟩
      · have hm : m = 0 := by omega
        have ho'0 : o'.vn = 0 := by rw [j1.2]; exact j4 hm
        have ho0 := l3.1 ho'0
        exact ⟨by omega, fun _ => by rw [j1.1]; exact j3 (by omega), fun _ => ho0⟩
      · have hm : m = 1 := by omega
        have ho'0 : o'.vn ≠ 0 := by omega
        have ho0 : o.vn ≠ 0 := fun e => ho'0 (l3.2 e)
        have ho2 : o.vn = 2 := by rcases l4 with l4 | l4 <;> omega
        exact ⟨by omega, fun e => by omega, fun e => by omega⟩
  refine ⟨ρZ ρ ρ1 n out new b, ⟨I1.top, fun k hk => ?_, ?_, fun k q m hq => ?_, I1.base, fun c hc hB => ?_, ?_, ?_, ?_⟩, eqX_D hE I1 hO hF hWv hN hres dx, fun c hc ht => ?_, fun c hc ho => ?_, fun k q m hk hq => ?_⟩
  · have hk' : Ein.length + new.length + 3 ≤ k := hk
    unfold ρZ
    rw [if_neg (by omega), List.getElem?_eq_none (by omega)]
    cases flipN b k <;> rfl
  · show 0 < Ein.length + new.length + 3; omega
  · show m < Ein.length + new.length + 3
    unfold ρZ at hq
    split at hq
    · rename_i hk
      have hρ : ρ k = some (q, m) → m < Ein.length + new.length + 3 := fun e => by have := I.vers _ _ _ e; rw [hcnt] at this; omega
      cases hcc : chAt out k with
      | same => rw [hcc] at hq; exact hρ hq
      | gone => rw [hcc] at hq; exact hρ hq
      | chg o =>
        rw [hcc] at hq
        simp only at hq
        obtain ⟨_, _, q', _, _, l2, _, _, l4⟩ := hchg k o hk hcc
        rw [l2] at hq
        simp only [Option.some.injEq, Prod.mk.injEq] at hq
        rcases l4 with l4 | l4 <;> omega
    · split at hq
      · rename_i id o hfl hi
        obtain ⟨_, _, _, _, _, _, _, _, _, _, l4⟩ := hnw (k - n) o hi
        split at hq
        · simp only [Option.some.injEq, Prod.mk.injEq] at hq
          rcases l4 with l4 | l4 <;> omega
        · cases hq
      · cases hq
  · obtain ⟨k, hc⟩ := ownB_iff.1 hc
    obtain ⟨id, _, g2⟩ := hblk k c hc
    exact I1.notB c (ownB_iff.2 ⟨id, g2⟩) hB
  · intro i j s s' o o' q q' m m' c f f' g1 g2 g3 g4 g5 g6 g7 g8
    obtain ⟨id, a1, a2⟩ := hblk i c ⟨s, o, q, m, f, g1, g3, g5, g7⟩
    obtain ⟨id2, a3, a4⟩ := hblk j c ⟨s', o', q', m', f', g2, g4, g6, g8⟩
    have := I1.blk_inj a2 a4
    subst this
    rw [a1] at a3
    exact Option.some.inj a3
  · have tell : ∀ {id k : Nat} {o' o : Ob T} {q : SV}, OOk E h1 (OwnS B ρ1 e1.env) ρ1 id o' → eqO (endF n out b) (endW n out e1) e1 o' o → ρ1 id = some (q, o'.vn) → ρZ ρ ρ1 n out new b k = some (q, o.vn) → (o'.vn = 0 ↔ o.vn = 0) → OOk E h1 (OwnS B (ρZ ρ ρ1 n out new b) (ecOut Ein out new).env) (ρZ ρ ρ1 n out new b) k o := by
      intro id k o' o q ho he hq hz hvz
      unfold eqO at he
      split at he
      · rename_i cs cs'
        obtain ⟨q2, bb, us, t, e, r, k1, k2, k3, k4, k5⟩ := ho
        rw [hq] at k1; cases k1
        exact ⟨_, bb, us, t, e, r, hz, k2, k3, k4, eqXL_D hE I1 hO hF hWv hN he k5⟩
      · rename_i v1 e l v2 e' l'
        obtain ⟨rfl, rfl⟩ := eqCast he
        obtain ⟨q2, rows, k1, k0, k2, k3, k4, k5⟩ := ho
        rw [hq] at k1
        simp only [Option.some.injEq, Prod.mk.injEq] at k1
        simp only [Ob.vn] at hvz hz
        exact ⟨q2, rows, by rw [hz, k1.1], by omega, k2, k3, k4, fun i a r g1 g2 => ⟨(k5 i a r g1 g2).1, fun j y w g3 g4 => ((k5 i a r g1 g2).2 j y w g3 g4).row_loc hE (hE.row _ _ _ (List.mem_of_getElem? g3)) hO⟩⟩
      · rename_i es es'
        subst he
        obtain ⟨q2, bb, k1, k2, k3, k4⟩ := ho
        rw [hq] at k1; cases k1
        exact ⟨_, bb, hz, k2, k3, k4⟩
      · exact he.elim
    intro k s o hf
    rw [fnd_ecOut, hn] at hf
    split at hf
    · rename_i hk
      obtain ⟨o0, q0, k1, k2, k3, k4⟩ := hent k hk
      rw [k1] at hf
      cases hcc : chAt out k with
      | same =>
        rw [hcc] at hf
        cases hf
        obtain ⟨o1, q1, l1, l2, l3, l4, l5⟩ := hsame k hk hcc
        rw [k1] at l1; cases l1
        refine ⟨by show 0 < Ein.length + new.length + 3; omega, (I.obj k 0 _ k2).2.keep hmv (fun q hq => by rw [hz_same k hk hcc]; exact hq) fun q c off ho hq hb' => l5 q _ c off hq hb' ho⟩
      | chg o2 =>
        rw [hcc] at hf
        cases hf
        obtain ⟨o', s', q', l1, l5, l2, l6, l3, l4⟩ := hchg k _ hk hcc
        exact ⟨by show 0 < Ein.length + new.length + 3; omega, tell (I1.obj k s' o' l1).2 l6 l2 (hz_chg k _ q' _ hk hcc l2) l3⟩
      | gone => rw [hcc] at hf; cases hf
    · rename_i hk
      rw [Option.map_eq_some_iff] at hf
      obtain ⟨o2, hi, e⟩ := hf
      cases e
      obtain ⟨id, o', s', q', l0, l1, l5, l2, l6, l3, l4⟩ := hnw (k - n) _ hi
      have hkn : n + (k - n) = k := by omega
      have hz := hz_new (k - n) _ id q' _ hi l0 l2
      rw [hkn] at hz
      exact ⟨by show 0 < Ein.length + new.length + 3; omega, tell (I1.obj id s' o' l1).2 l6 l2 hz l3⟩
  · intro g cs hg
    obtain ⟨g1, us, g2, g3⟩ := I.glob g cs hg
    exact ⟨(hmv.layG g2 g1).2, us, (hmv.layG g2 g1).1, g3.mv hmv⟩
  · by_cases ho : OwnS B ρ (ecOf Ein).env c
    · rcases ho with ho | ho
      · exact hkeep c ho
      · obtain ⟨k, s, o, q, m, off, g1, g2, g3, g4⟩ := ho
        have hk : k < n := by
          rcases Nat.lt_or_ge k n with g | g
          · exact g
          · rw [hnone k g] at g3; cases g3
        cases hcc : chAt out k with
        | same =>
          obtain ⟨o1, q1, l1, l2, l3, l4, l5⟩ := hsame k hk hcc
          obtain ⟨o0, q0, k1, k2, _⟩ := hent k hk
          rw [k1] at l1; cases l1
          rw [k2] at g1; cases g1
          exact l5 q m c off g3 g4 g2
        | _ => exact absurd ⟨k, s, o, q, m, off, by rw [hcc]; trivial, g1, g2, g3, g4⟩ ht
    · exact x.mv.get c hc ho
  · obtain ⟨k, ho⟩ := ownB_iff.1 ho
    obtain ⟨id, _, g2⟩ := hblk k c ho
    have hown : ownB ρ1 e1.env c := ownB_iff.2 ⟨id, g2⟩
    rcases x.mv.own c hc (.inr hown) with g | g
    · exact absurd g (I1.notB c hown)
    · exact g
  · cases hcc : chAt out k with
    | same => simp only; rw [hz_same k hk hcc]; exact hq
    | gone => trivial
    | chg o =>
      simp only
      obtain ⟨q', m', j1, j2, j3, j4⟩ := hmv.loc k q m hq
      refine ⟨fun e => ?_, fun e => ⟨q', m', j1, by omega⟩⟩
      subst e
      have := j4 rfl
      subst this
      rw [j1, j3 rfl]

end Go.Ev

namespace Go.Ev
open Go
variable {T : TypeId → Type} {P : Program} {E : Enc T} {W : Rec} {Γ : Hi T} {Tf : Nat → Option AFn} {nk : Nat → Bool} {B B' : Nat → Prop} {ρ ρ1 ρ' : Loc} {ec e1 ec' : EC T} {h h1 h' : H} {O O' : Nat → Prop}

theorem D.notBad {x : X T} {w : Value} (d : D E h O ρ x w) : match x with | .bad => True | .tup _ => True | .v w => isBad w = false → isBad w = false | _ => isBad w = false := by
  cases d with
  | op w hw => cases w <;> first | rfl | (simp [isFnV] at hw)
  | v w => exact fun h => h
  | bad w => trivial
  | tup => trivial
  | _ => rfl

theorem resX_sound (I : Inv0 E B ρ ec h) {ts : List (X T)} {vs : List Value} (d : DL E h (OwnS B ρ ec.env) ρ ts vs) : ∀ {rs : List ARV} {l : List (X T)}, resX ts ec rs = some l → ∃ us, resA h vs rs = some us ∧ DL E h (OwnS B ρ ec.env) ρ l us
  | [], l, hs => by cases hs; exact ⟨[], rfl, DL.nil⟩
  | .tmp t :: r, l, hs => by
    have dt := d.getD t undef
    simp only [resX] at hs
    cases hr : resX ts ec r with
    | none => rw [hr] at hs; generalize ts.getD t .bad = x at hs; cases x <;> cases hs
    | some l' =>
      obtain ⟨us, h1, h2⟩ := resX_sound I d hr
      rw [hr] at hs
      generalize hx : ts.getD t .bad = x at hs dt
      have nb := dt.notBad
      have key : isBad (vs.getD t undef) = false → some (x :: l') = some l → ∃ us, resA h vs (.tmp t :: r) = some us ∧ DL E h (OwnS B ρ ec.env) ρ l us := fun hb e => by
        cases e
        refine ⟨vs.getD t undef :: us, ?_, DL.cons dt h2⟩
        simp only [resA, hb, h1]; rfl
      cases x with
      | bad => cases hs
      | tup => cases hs
      | v w =>
        simp only at hs
        have : vs.getD t undef = w := by cases dt; rfl
        cases hb : isBad w with
        | true => rw [hb] at hs; cases hs
        | false => rw [hb] at hs; exact key (by rw [this]; exact hb) hs
      | _ => exact key nb hs
  | .cell t agg n :: r, l, hs => by
    have dt := d.getD t undef
    simp only [resX] at hs
    generalize hx : ts.getD t .bad = x at hs dt
    cases hr : resX ts ec r with
    | none => rw [hr] at hs; cases x <;> cases hs
    | some l' =>
      obtain ⟨us, h1, h2⟩ := resX_sound I d hr
      rw [hr] at hs
      cases x with
      | ptr id o =>
        simp only at hs
        split at hs
        · rename_i cs hg
          obtain ⟨s, hf⟩ := get_fnd hg
          obtain ⟨_, q, b, ws, tt, e, rr, hq, hb, hlt, hget, dcs⟩ := I.obj id s _ hf
          generalize hv : vs.getD t undef = v at dt
          cases dt with
          | ptr _ _ b' q' hq' hb' =>
            rw [hq] at hq'; cases hq'
            rw [hb] at hb'; cases hb'
            cases hle : Nat.ble (o + n) cs.length with
            | false => rw [hle] at hs; cases hs
            | true =>
              have hle' := Nat.le_of_ble_eq_true hle
              have hcells : h.cells ⟨b, o, none⟩ n = some ((ws.drop o).take n) := by
                unfold H.cells
                simp only [hget]
                show (if o + n ≤ ws.length then some ((ws.drop o).take n) else none) = _
                rw [if_pos (by rw [← dcs.1]; exact hle')]
              have dsub := (dcs.drop o).take n
              rw [hle] at hs
              cases agg with
              | true =>
                simp only at hs
                cases hs
                refine ⟨.agg ((ws.drop o).take n).toArray :: us, ?_, DL.cons (.agg _ _ dsub.1 dsub.2) h2⟩
                simp only [resA, hv, hcells, h1, if_true]
              | false =>
                generalize hy : (cs.drop o).take n = ys at hs dsub
                generalize hz : (ws.drop o).take n = zs at dsub hcells
                match ys, hs, dsub with
                | [x], hs, dsub =>
                  cases hs
                  obtain ⟨w, zs', rfl, d1, d2⟩ := dsub.uncons
                  have : zs' = [] := by have := d2.1; cases zs' with | nil => rfl | cons => simp at this
                  subst this
                  refine ⟨w :: us, ?_, DL.cons d1 h2⟩
                  simp only [resA, hv, hcells, h1, one, if_false, Bool.false_eq_true]
                | [], hs, _ => cases hs
                | _ :: _ :: _, hs, _ => cases hs
        · cases hs
      | _ => cases hs

theorem tup_D {l : List (X T)} {us : List Value} (d : DL E h O ρ l us) : D E h O ρ (tupX l) (tupleOf us) := by
  match l, us, d with
  | [x], [w], d => exact d.2 0 _ _ rfl rfl
  | [], [], d => exact .tup _ _ d.1 d.2
  | _ :: _ :: _, _ :: _ :: _, d => exact .tup _ _ d.1 d.2
  | [], _ :: _, d => exact absurd d.1 (by simp)
  | _ :: _, [], d => exact absurd d.1 (by simp)
  | [_], _ :: _ :: _, d => exact absurd d.1 (by simp)
  | _ :: _ :: _, [_], d => exact absurd d.1 (by simp)

theorem unwind_coll : ∀ {ds : List Nat} {h : H}, ds.Nodup → (∀ d ∈ ds, d < h.next ∧ h.get d = some .dfr) → Top h → ∃ h2, unwindA W (ds.map .coll) none h = some (none, h2) ∧ h2.next = h.next ∧ (∀ b, ¬ b ∈ ds → h2.get b = h.get b) ∧ Top h2
  | [], h, _, _, ht => ⟨h, rfl, rfl, fun _ _ => rfl, ht⟩
  | d :: r, h, hn, hd, ht => by
    obtain ⟨h1, h2⟩ := hd d (List.mem_cons_self ..)
    have hn' := List.nodup_cons.1 hn
    have hne : ∀ x ∈ r, d ≠ x := fun x hx e => hn'.1 (e ▸ hx)
    obtain ⟨h3, k1, k2, k3, k4⟩ := unwind_coll (ds := r) (h := h.set d .dead) hn'.2 (fun x hx => ⟨(hd x (List.mem_cons_of_mem _ hx)).1, by rw [H.get_set_ne _ _ (hne x hx)]; exact (hd x (List.mem_cons_of_mem _ hx)).2⟩) (ht.set h1 _)
    refine ⟨h3, ?_, k2, fun b hb => ?_, k4⟩
    · simp only [List.map_cons, unwindA, h2, k1]
    · rw [k3 b fun hm => hb (List.mem_cons_of_mem _ hm), H.get_set_ne (i := d) (j := b) _ _ fun e => hb (by rw [← e]; exact List.mem_cons_self ..)]

theorem yok_true (hn : Γ.y.isNone = true) : YOK E W Γ fun _ _ _ _ _ => True := by
  have e : Γ.y = none := Option.isNone_iff_eq_none.1 hn
  exact ⟨fun _ _ _ _ _ _ _ _ _ _ _ _ => trivial, by rw [e]; trivial, by rw [e]; trivial⟩

/-- **WHAT IS ASKED OF A FUNCTION, ONCE SHOWN.** -/
theorem ctr_of (hE : EncOK E) (hW : WOK P Tf nk W) {g : Nat} (hg : nk g = true) {Ein : List (Ob T)} {a args b : List (X T)} {res : X T} {out : List (Ch T)} {new : List (Ob T)}
    (hs : xFn P E W Γ Tf g Ein (a ++ (args ++ b)) res out new) : Ctr E W (.fn g a b) Ein args res out new := by
  unfold xFn at hs
  split at hs
  · rename_i fn hfn
    obtain ⟨hok, hs⟩ := need_iff.1 hs
    simp only [Bool.and_eq_true] at hok
    intro h B ρ vf vs I hnone df da
    cases df with
    | fn _ _ _ va vb ha hb hda hdb =>
      have din : DL E h (OwnS B ρ (ecOf Ein).env) ρ (a ++ (args ++ b)) (va ++ (vs ++ vb)) := DL.append ⟨ha, hda⟩ (DL.append da ⟨hb, hdb⟩)
      have dst : DL E h (OwnS B ρ (ecOf Ein).env) ρ (a ++ (args ++ b) ++ List.replicate (fn.ntmps - (a ++ (args ++ b)).length) (.v undef)) (va ++ (vs ++ vb) ++ List.replicate (fn.ntmps - (va ++ (vs ++ vb)).length) undef) := by
        refine DL.append din ?_
        rw [← din.1]
        refine ⟨by simp, fun j x w h1 h2 => ?_⟩
        have e1 := List.eq_of_mem_replicate (List.mem_of_getElem? h1)
        have e2 := List.eq_of_mem_replicate (List.mem_of_getElem? h2)
        rw [e1, e2]; exact .v _
      obtain ⟨x, vs', df', h', B', ρ', ts', ec', k1, k2, k3, _, k5, _, k7⟩ := XS_sound hE hW fn.body (yok_true hok.2) I trivial dst (Nat.le_refl _) (df := []) ⟨[], rfl, List.nodup_nil, fun _ => rfl, fun d hd => by simp at hd⟩ hs
      have hx : leftBy x = some none ∧ (match resX ts' ec' fn.results with | some l => xEnd Ein.length res out new (tupX l) ec' | none => False) := by
        cases x with
        | normal => exact ⟨rfl, k7⟩
        | ret => exact ⟨rfl, k7⟩
        | exit id => exact k7.elim
        | panic v => exact k7.elim
      obtain ⟨hx1, hx2⟩ := hx
      split at hx2
      · rename_i l hl
        obtain ⟨ds, rfl, hnd, _, hds⟩ := k5
        obtain ⟨h2, u1, u2, u3, u4⟩ := unwind_coll (W := W) hnd (fun d hd => ⟨(hds d hd).2.1, (hds d hd).2.2.1⟩) k2.inv.top
        obtain ⟨g1, g2, g3⟩ := k2.kp hok.2
        -- the base as it was
        obtain ⟨I2, x2⟩ := k2.inv.yield (B2 := B) (h2 := h2) (k := ec'.k) (fin := ec'.fin) u4 (by rw [u2]; exact Nat.le_refl _)
          (fun i _ hi => u3 i fun hm => hi (hds i hm).2.2.2) (fun i hi => ⟨by rw [u2]; exact k2.inv.base i (g1 i hi), fun _ => g1 i hi⟩)
        have dl2 := k3.mv x2.mv
        obtain ⟨us, r1, r2⟩ := resX_sound I2 dl2 hl
        have xall := k2.ext.trans I k2.inv x2
        have hkeep : ∀ b, B b → h2.get b = h.get b := fun b hb => by
          rw [u3 b fun hm => absurd (hds b hm).1 (by have := I.base b hb; omega)]
          exact g3 b hb
        obtain ⟨ρz, z1, z2, z3, z4, z5⟩ := end_ok hE I hnone hok.1 I2 xall hkeep (tup_D r2) hx2
        refine ⟨tupleOf us, .unk, h2, ρz, hW.call _ _ _ _ _ _ hg ?_, z1, z2, xall.mv.next, z3, z4, z5⟩
        unfold callA
        simp only [hfn]
        have e : startA fn (va ++ vs ++ vb) .unk = mkA (va ++ (vs ++ vb) ++ List.replicate (fn.ntmps - (va ++ (vs ++ vb)).length) undef) [] .unk false := by rw [List.append_assoc]; rfl
        rw [e, k1]
        simp only [finishA, hx1, mkA, u1, r1]
        rfl
      · exact hx2.elim
  · exact hs.elim

end Go.Ev

namespace Go.Ev
open Go

theorem wrap64 {x : Int} (h0 : -9223372036854775808 ≤ x) (h1 : x ≤ 9223372036854775807) : IntKind.i64.wrap x = x := by
  have hb : IntKind.i64.bits = 64 := rfl
  have hs : IntKind.i64.signed = true := rfl
  unfold IntKind.wrap
  simp only [hb, hs, Bool.true_and, decide_eq_true_eq]
  split <;> omega

theorem wrap_succ {x n : Int} (h0 : 0 ≤ x) (h1 : x < n) (h2 : n ≤ 9223372036854775807) : IntKind.i64.wrap (x + 1) = x + 1 := wrap64 (by omega) (by omega)

theorem brB_mk {b : Bool} {X Y : Prop} (h1 : b = true → X) (h2 : b = false → Y) : brB b X Y := by
  cases b
  · exact h2 rfl
  · exact h1 rfl


end Go.Ev
