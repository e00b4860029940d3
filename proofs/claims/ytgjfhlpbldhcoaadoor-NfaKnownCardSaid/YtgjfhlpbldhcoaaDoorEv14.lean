/- The evaluator: a region that draws its order: at the machine. -/
import Derived.Test.YtgjfhlpbldhcoaaDoorEv13
namespace Go.Ev
open Go Go.RowKit

variable {P : Program} {rec : Rec}

theorem compL_get {ops : Array Oper} : ∀ (r : List Oper) (l : List AO), compL P ops r = some l → l.length = r.length ∧ ∀ (i : Nat) (o : Oper), r[i]? = some o → ∃ ao, l[i]? = some ao ∧ compO P ops o = some ao
  | [], l, h => by simp only [compL, Option.some.injEq] at h; subst h; exact ⟨rfl, fun i o hi => by simp at hi⟩
  | o :: r, l, h => by
    obtain ⟨ao, m, rfl, h1, h2⟩ := compL_cons h
    obtain ⟨h3, h4⟩ := compL_get r m h2
    refine ⟨by simp [h3], fun i o' hi => ?_⟩
    cases i with
    | zero => simp only [List.getElem?_cons_zero, Option.some.injEq] at hi; subst hi; exact ⟨ao, rfl, h1⟩
    | succ i => simpa using h4 i o' (by simpa using hi)

theorem checksFrom_mem {b : List Nat} {l : List AO} : ∀ (r : List AO) (k j : Nat) (o : AO), r[j]? = some o → ∀ c ∈ checksAt b l o (k + j), c ∈ checksFrom b l r k
  | [], _, _, _, h, _, _ => by simp at h
  | o :: r, k, 0, o', h, c, hc => by
    simp only [List.getElem?_cons_zero, Option.some.injEq] at h
    subst h
    simp only [checksFrom, List.mem_append]
    exact .inl hc
  | o :: r, k, j + 1, o', h, c, hc => by
    simp only [checksFrom, List.mem_append]
    refine .inr (checksFrom_mem r (k + 1) j o' (by simpa using h) c ?_)
    rwa [show k + 1 + j = k + (j + 1) by omega]

theorem evOp_of_opV {o : AO} (hp : plainOp o.op = true) {a : AAct} {h h' : H} {v : Value} (hx : opV P rec o a.tmps h = some (v, h')) : evOp P rec o a h = some (.on (a.put o.dst v) h') := by
  unfold opV at hx
  unfold evOp
  split at hx
  · rename_i hw
    rw [if_pos hw]
    cases hop : o.op <;> rw [hop] at hx hp <;> simp only [plainOp, Bool.false_eq_true] at hp hx ⊢ <;> (try (rw [hx]; done))
    case call f args =>
      split at hx
      · rename_i v' rc h1 hc
        cases hx
        rw [hc]
      · cases hx
  · rename_i hw
    rw [if_neg hw]
    cases hx; rfl

theorem exists_min : ∀ (U : List Nat), U ≠ [] → ∃ m ∈ U, ∀ i ∈ U, m ≤ i
  | [], h => absurd rfl h
  | [x], _ => ⟨x, by simp, fun i hi => by simp at hi; omega⟩
  | x :: y :: U, _ => by
    obtain ⟨m, hm, hle⟩ := exists_min (y :: U) (by simp)
    by_cases hx : x ≤ m
    · exact ⟨x, by simp, fun i hi => by
        rcases List.mem_cons.1 hi with rfl | hi
        · exact Nat.le_refl _
        · exact Nat.le_trans hx (hle i hi)⟩
    · exact ⟨m, by simp [List.mem_cons.1 hm], fun i hi => by
        rcases List.mem_cons.1 hi with rfl | hi
        · omega
        · exact hle i hi⟩

theorem edgesOk_spec : ∀ (r : List Oper) (k j : Nat) (o : Oper), edgesOk r k = true → r[j]? = some o → ∀ e ∈ o.after, Region.binds .any e = true → e.on < k + j
  | [], _, _, _, _, h, _, _, _ => by simp at h
  | o :: r, k, 0, o', he, h, e, hem, hb => by
    simp only [List.getElem?_cons_zero, Option.some.injEq] at h
    subst h
    simp only [edgesOk, Bool.and_eq_true, List.all_eq_true, Bool.or_eq_true, Bool.not_eq_true'] at he
    rcases he.1 e (by simpa using hem) with h1 | h1
    · rw [hb] at h1; cases h1
    · rw [Nat.blt_eq] at h1; omega
  | o :: r, k, j + 1, o', he, h, e, hem, hb => by
    simp only [edgesOk, Bool.and_eq_true] at he
    have := edgesOk_spec r (k + 1) j o' he.2 (by simpa using h) e hem hb
    omega

section
variable {ops : Array Oper} {l : List AO} {ts0 : List Value} {h0 : H} {G : List (List Value × H)} {vs : List Value} {N : Nat} {w0 : World}

/-- The walk in whatever order. -/
theorem draw_walk (hrec : RecOK P rec) (D : Draw P rec (befL ops.toList []) l ts0 h0 G vs) (hedges : edgesOk ops.toList 0 = true) (hcomp : compL P ops ops.toList = some l) {b : Frame} {k : List Item} {a : AAct} {hF : H} {tsF : List Value}
    (hfin : G[l.length]? = some (tsF, hF)) :
    ∀ (fuel t : Nat) (listed : Array Bool) (U : List Nat) (ρ : Ren) (w : World) (ca : Act) (cs : List Frame) (h : H),
      U.Nodup → (∀ i, i ∈ U ↔ i < ops.size ∧ listed.getD i true = false) → U.length = fuel → listed.size = ops.size →
      (∀ i j, listed.getD j false = true → bit (befL ops.toList []) i j = true → listed.getD i false = true) →
      Rep P ρ N w0 h w → StartOK ρ b cs { a with tmps := puts l vs (fun i => listed.getD i false) 0 ts0 } ca → HeapAt l G (lcs l (fun i => listed.getD i false) 0) h →
      Went P ρ N w0 (lone (b.atR ca (.inRegion ops (Region.linearise.go .any ops fuel t listed []) :: k)) cs w) b k cs { a with tmps := puts l vs (fun i => listed.getD i false) 0 ts0 } .normal { a with tmps := tsF } hF := by
  obtain ⟨hll, hlget⟩ := compL_get _ _ hcomp
  have hlen : l.length = ops.size := by simpa using hll
  intro fuel
  induction fuel with
  | zero =>
    intro t listed U ρ w ca cs h hnd hU hlenU hsz hcl hR hs hh
    have hall : ∀ i, i < ops.size → listed.getD i false = true := fun i hi => by
      have hnm : i ∉ U := by rw [List.eq_nil_of_length_eq_zero hlenU]; simp
      rw [hU] at hnm
      have h1 : listed.getD i true = true := by
        cases hc : listed.getD i true with
        | true => rfl
        | false => exact absurd ⟨hi, hc⟩ hnm
      have hlt : i < listed.size := by omega
      simp only [Array.getD_eq_getD_getElem?, Array.getElem?_eq_getElem hlt, Option.getD_some] at h1 ⊢
      exact h1
    have hputs : puts l vs (fun i => listed.getD i false) 0 ts0 = tsF := by
      obtain ⟨hx, hg⟩ := D.slots l.length (Nat.le_refl _)
      rw [hfin] at hg
      simp only [Option.some.injEq, Prod.mk.injEq] at hg
      rw [hg.1]
      exact puts_congr fun i hi => by rw [hall i (by omega), blt_t (by omega)]
    have hheap : h = hF := by
      refine D.heap_uniq ⟨l.length, tsF, Nat.le_refl _, rfl, hfin⟩ ?_
      have : lcs l (fun i => listed.getD i false) 0 = Lex l l.length := lcs_congr _ _ _ _ fun i o hi _ => by
        have := (List.getElem?_eq_some_iff.1 hi).1
        simp only [Nat.zero_add]
        rw [hall i (by omega), blt_t (by omega)]
      rw [← this]; exact hh
    subst hheap
    simp only [Region.linearise.go, List.reverse_nil]
    refine ⟨ρ, w, ca, cs, ρ.le_refl, hR, ?_, CsTo.refl _ _, rfl, .one stepR_region_end⟩
    rw [← hputs]; exact hs.1
  | succ fuel ih =>
    intro t listed U ρ w ca cs h hnd hU hlenU hsz hcl hR hs hh
    -- one is ready
    obtain ⟨m, hmU, hmin⟩ := exists_min U (by intro e; rw [e] at hlenU; simp at hlenU)
    have hmr : m ∈ Region.ready .any ops listed := by
      rw [mem_ready]
      obtain ⟨hm1, hm2⟩ := (hU m).1 hmU
      refine ⟨hm2, ops[m], by simp, fun e he hb => ?_⟩
      have hlt := edgesOk_spec ops.toList 0 m ops[m] hedges (by simp) e he hb
      have hnot : e.on ∉ U := fun hc => by have := hmin _ hc; omega
      rw [hU] at hnot
      have hsz' : e.on < listed.size := by omega
      simp only [Array.getD_eq_getD_getElem?, Array.getElem?_eq_getElem hsz', Option.getD_some] at hnot ⊢
      cases hc : listed[e.on] with
      | true => rfl
      | false => exact absurd ⟨by omega, hc⟩ hnot
    simp only [Region.linearise.go]
    change Went P ρ N w0 (lone (b.atR ca (.inRegion ops (match (Region.ready .any ops listed)[t % (Region.ready .any ops listed).length]? with
      | some i => Region.linearise.go .any ops fuel (t / (Region.ready .any ops listed).length) (listed.setIfInBounds i true) [i]
      | none => [].reverse) :: k)) cs w) b k cs _ .normal _ hF
    obtain ⟨i, hi⟩ : ∃ i, (Region.ready .any ops listed)[t % (Region.ready .any ops listed).length]? = some i := by
      have hpos : 0 < (Region.ready .any ops listed).length := List.length_pos_of_mem hmr
      exact ⟨_, List.getElem?_eq_getElem (Nat.mod_lt _ hpos)⟩
    rw [hi]
    simp only []
    rw [linearise_go_acc, List.reverse_singleton, List.singleton_append]
    have hir := List.mem_of_getElem? hi
    obtain ⟨hif, o, ho, hedge⟩ := mem_ready.1 hir
    have hilt : i < ops.size := (Array.getElem?_eq_some_iff.1 ho).1
    have hilt' : i < listed.size := by omega
    obtain ⟨ao, hao, hco⟩ := hlget i o (by simpa using ho)
    obtain ⟨v, hv⟩ := D.val hao
    have hSi : listed.getD i false = false := by
      simp only [Array.getD_eq_getD_getElem?, Array.getElem?_eq_getElem hilt', Option.getD_some] at hif ⊢
      exact hif
    have hready : ∀ j, bit (befL ops.toList []) j i = true → listed.getD j false = true := fun j hb => by
      obtain ⟨e, he, hbe, _, hh'⟩ := befL_spec ops.toList [] hedges i o j (by simpa using ho) (by simpa using hb)
      have := hedge e he hbe
      rcases hh' with rfl | hh'
      · exact this
      · exact hcl _ _ this hh'
    obtain ⟨h1, hop, hh1, hputs⟩ := D.one (S := fun i => listed.getD i false) hcl hao hv hSi hready hh
    have hp := D.plain ao (List.mem_of_getElem? hao)
    have hev := evOp_of_opV (P := P) (rec := rec) hp (a := { a with tmps := puts l vs (fun i => listed.getD i false) 0 ts0 }) hop
    obtain ⟨ρ1, w1, ca1, cs1, hle1, hR1, hact1, hcs1, hrd1, hst1⟩ := evOp_ok hrec hR ho hco hs (rest := Region.linearise.go .any ops fuel (t / (Region.ready .any ops listed).length) (listed.setIfInBounds i true) []) hev k
    have hs1 := hs.next hle1 hact1 hcs1 hrd1
    have hS' : ∀ j, (listed.setIfInBounds i true).getD j false = (listed.getD j false || j == i) := fun j => by
      by_cases hji : j = i
      · subst hji
        simp [Array.getD_eq_getD_getElem?, hilt']
      · have : (j == i) = false := by simpa using hji
        rw [this, Bool.or_false, getD_set_ne false (Ne.symm hji)]
    have hfun : (fun j => (listed.setIfInBounds i true).getD j false) = fun j => (listed.getD j false || j == i) := funext hS'
    have hstate : ({ a with tmps := puts l vs (fun i => listed.getD i false) 0 ts0 } : AAct).put ao.dst v = { a with tmps := puts l vs (fun j => (listed.setIfInBounds i true).getD j false) 0 ts0 } := by
      rw [hfun, hputs]; rfl
    rw [hstate] at hs1 hcs1 hrd1
    have hiU : i ∈ U := (hU i).2 ⟨hilt, hif⟩
    have hrec2 := ih (t / (Region.ready .any ops listed).length) (listed.setIfInBounds i true) (U.erase i) ρ1 w1 ca1 cs1 h1 (hnd.erase i) (fun j => by
        rw [hnd.mem_erase_iff, hU]
        by_cases hji : j = i
        · subst hji
          simp [Array.getD_eq_getD_getElem?, hilt']
        · rw [getD_set_ne true (Ne.symm hji)]
          simp [hji]) (by rw [List.length_erase_of_mem hiU, hlenU]; rfl) (by simpa using hsz) (fun x y hy hb => by
        rw [hS'] at hy ⊢
        simp only [Bool.or_eq_true, beq_iff_eq] at hy ⊢
        rcases hy with hy | rfl
        · exact .inl (hcl x y hy hb)
        · exact .inl (hready x hb)) hR1 hs1 (by rw [hfun]; exact hh1)
    obtain ⟨ρ2, w2, ca2, cs2, hle2, hR2, hact2, hcs2, hrd2, harr⟩ := hrec2
    exact ⟨ρ2, w2, ca2, cs2, Ren.le_trans hle1 hle2, hR2, hact2, hcs1.trans hcs2, rfl, Arr.of_steps hst1 harr⟩
end

theorem evRegD_ok (hrec : RecOK P rec) (hm : P.follows .mixedOrders = true) {ops : Array Oper} {l : List AO} (hcomp : compL P ops ops.toList = some l) (hd : drawOk ops.toList l = true) {id : Nat}
    {ρ : Ren} {N : Nat} {w0 w : World} {h : H} {a : AAct} {ca : Act} {b : Frame} {k : List Item} {cs : List Frame} {x : AExit} {a' : AAct} {h' : H} (hR : Rep P ρ N w0 h w) (hs : StartOK ρ b cs a ca)
    (he : evRegD P rec l (checksFrom (befL ops.toList []) l l 0) a h = some (x, a', h')) :
    Went P ρ N w0 (lone (b.atR ca (.code (.region id ops true) :: k)) cs w) b k cs a x a' h' := by
  unfold evRegD at he
  split at he
  · rename_i G hG
    split at he
    · rename_i hck
      split at he
      · rename_i tsF hF hfin
        cases he
        obtain ⟨vs, h1, h2, h3, h4⟩ := trace_spec l a.tmps h G hG
        simp only [drawOk, Bool.and_eq_true, List.all_eq_true] at hd
        obtain ⟨⟨hedges, hplain⟩, hpairs⟩ := hd
        have D : Draw P rec (befL ops.toList []) l a.tmps h G vs := {
          plain := hplain
          pair := fun i j x y hij hi hj => by
            have := pairs_spec l 0 hpairs i j x y hij hi hj
            simp only [Nat.zero_add, Bool.and_eq_true, Bool.or_eq_true, Bool.not_eq_true'] at this
            exact ⟨this.1, by
              rcases this.2 with (hh | hh) | hh
              · exact .inl hh
              · exact .inr (.inl hh)
              · exact .inr (.inr hh)⟩
          vlen := h1
          glen := h2
          start := h3
          step := h4
          checks := fun i o hi c hc => by
            rw [List.all_eq_true] at hck
            exact hck c (checksFrom_mem l 0 i o hi c (by simpa using hc)) }
        obtain ⟨hll, _⟩ := compL_get _ _ hcomp
        have hlen : l.length = ops.size := by simpa using hll
        have hf : ∀ (i : Nat), (Array.replicate ops.size false).getD i false = false := fun i => by
          simp only [Array.getD_eq_getD_getElem?, Array.getElem?_replicate]
          split <;> rfl
        have hfun : (fun i => (Array.replicate ops.size false).getD i false) = fun _ => false := funext hf
        have hp0 : puts l vs (fun i => (Array.replicate ops.size false).getD i false) 0 a.tmps = a.tmps := by
          apply List.ext_getElem?
          intro t
          exact puts_none l vs _ 0 a.tmps (fun j o _ _ => hf _)
        have hl0 : lcs l (fun i => (Array.replicate ops.size false).getD i false) 0 = Lex l 0 := lcs_congr _ _ _ _ fun j _ _ _ => by
          rw [hf, Nat.zero_add, blt_f (Nat.zero_le _)]
        have := draw_walk hrec D hedges hcomp (b := b) (k := k) (a := a) hfin ops.size (w.tape w.drawn (.order b.fn id)) (Array.replicate ops.size false) (List.range ops.size) ρ w.drew ca cs h
          List.nodup_range (fun i => by
            rw [List.mem_range]
            constructor
            · intro hi
              refine ⟨hi, ?_⟩
              simp [Array.getD_eq_getD_getElem?, hi]
            · exact fun hi => hi.1) (by simp) (by simp) (fun i j hj _ => by rw [hf] at hj; cases hj) hR.drew (by rw [hp0]; exact hs) ⟨0, _, Nat.zero_le _, hl0.symm, h3⟩
        rw [hp0] at this
        obtain ⟨ρ2, w2, ca2, cs2, hle2, hR2, hact2, hcs2, hrd2, harr⟩ := this
        refine ⟨ρ2, w2, ca2, cs2, hle2, hR2, hact2, hcs2, hrd2, Arr.of_steps (.one ?_) harr⟩
        have hstep := stepR_region_draw (P := P) (b := b) (a := ca) (k := k) (cs := cs) (w := w) (ops := ops) (id := id)
        rw [hstep]
        simp only [Region.schedule, hm, Bool.true_or, if_true]
        rfl
      · cases he
    · cases he
  · cases he

end Go.Ev
