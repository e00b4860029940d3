/- The evaluator over a small code, and that what it finds of a call holds of the machine, part 10f. -/
import Derived.Test.YtcajalekkffcjaaDoorEv10
namespace Go.Ev
open Go Go.RowKit

variable {P : Program} {ρ : Ren} {N : Nat} {w0 w : World} {h h' : H}

theorem makeSlice_okAt (hR : Rep P ρ N w0 h w) {r : Nat} (hr0 : h.get r = none) (hρ0 : ρ r = none) (hlt0 : r < h.next) {t e : TypeId} {i : TypeInfo} {z : List Value} (ht : P.underlying t = some (.slice e)) (hi : P.info? e = some i) (hz : zeroL P e = some z)
    {k k' : IntKind} {l : Int} (h0 : 0 ≤ l) (hb : l.toNat * i.bytes ≤ maxBytes) (hm : l.toNat ≤ maxLen) :
    OpOK P ρ N w0 (h.set r (.cells true (repL z l.toNat) e l.toNat)) w (do pure (Next.value (← Instr.makeSlice t (.int k l) (.int k' l)))) (.slice (some ⟨r, 0, none⟩) l.toNat 0) := by
  obtain ⟨i', zv, hi', hzv, hzl, hzs, hzlen⟩ := zeroL_info hz
  rw [hi] at hi'; cases hi'
  have hzsize : zv.cells.size = i.size := by rw [← hzlen, ← hzl]; simp
  have hw := wrap_nat h0 hm
  obtain ⟨n, rfl⟩ := Int.eq_ofNat_of_zero_le h0
  simp only [Int.toNat_natCast] at hb hm ⊢
  have hbig : ¬ ((281474976710656 : Int) < (i.bytes : Int) * (n : Int)) := by
    have : i.bytes * n ≤ 140737488355328 := by rw [Nat.mul_comm]; exact hb
    omega
  have hneg : ¬ ((n : Int) < 0) := by omega
  have hrow : (Array.range (n * i.size)).map (fun x => zv.cells[x % zv.cells.size]!) = (repL z n).toArray := by
    apply Array.ext'
    rw [← hzsize, zeros_eq, hzl]
  have hst : sizeT P e = some i.size := by simp [sizeT, hi]
  have hrl : RL ρ (repL z n) (repL z n).toArray.toList := by
    simpa using list_self scal_self (repL_scal hzs n)
  have hrep := repB_newAt hR hr0 hρ0 hlt0 hrl hst (by rw [repL_length, hzlen]) hm
  refine OpOK.value _ _ (.slice (some ⟨w.heap.size, 0, none⟩) n n) (Ren.le_upd _ hρ0) hrep ?_ ?_
  · have := Rv.slice0 (ρ := ρ.upd r (⟨w.heap.size, 0, none⟩, n)) r 0 n w.heap.size 0 n (Ren.upd_same _ _ _) (by omega)
    simpa using this
  · by_cases hn0 : n * i.size = 0
    · have hrow0 : (repL z n).toArray = #[] := by
        have : (repL z n).length = 0 := by rw [repL_length, hzlen]; exact hn0
        simpa using List.eq_nil_of_length_eq_zero this
      rw [hrow0]
      simp [Instr.makeSlice, run_underlying ht, asInt, asIntOf, sizeOf, typeInfo, hi, hw, hbig, hneg, hn0, newRow, Array.range_zero']
    · simp [Instr.makeSlice, run_underlying ht, asInt, asIntOf, sizeOf, typeInfo, zeroValue, hi, hzv, hw, hbig, hneg, hn0, newRow, hrow]

theorem buildSlice_okAt (hR : Rep P ρ N w0 h w) {r : Nat} (hr0 : h.get r = none) (hρ0 : ρ r = none) (hlt0 : r < h.next) {t e : TypeId} {size n : Nat} {z : List Value} (ht : P.underlying t = some (.slice e)) (hs : sizeT P e = some size) (hz : zeroL P e = some z)
    (hle : n * size ≤ 16777216) (hpos : 0 < size) {ts : List Value} {ce : Operand → Value} {ps : Array (Nat × Operand)} {aps : List (Nat × Nat × Operand)} {l : List (Nat × List Value)}
    (hc : partsC (fun i => some (i * size, size)) ps.toList = some aps) (hl : partsOk ts (n * size) aps = some l) (hrel : ∀ p ∈ ps.toList, Rv ρ (aev ts p.2) (ce p.2)) :
    OpOK P ρ N w0 (h.set r (.cells true (fillL (repL z n) l) e n)) w (do pure (Next.value (← Instr.buildSlice t n (ps.map fun (i, x) => (i, ce x))))) (.slice (some ⟨r, 0, none⟩) n 0) := by
  obtain ⟨i, zv, hi, hzv, hzl, hzs, hzlen⟩ := zeroL_info hz
  obtain ⟨i', hi', hsz⟩ := sizeT_info hs
  rw [hi] at hi'; cases hi'
  subst hsz
  have hzsize : zv.cells.size = i.size := by rw [← hzlen, ← hzl]; simp
  have hrl : RL ρ (repL z n) (repL z n) := list_self scal_self (repL_scal hzs n)
  have hrow : ∀ c : Array Value, (if n * i.size = 0 then c = #[] else c = zv.cells) → (Array.range (n * i.size)).map (fun x => c[x % c.size]!) = (repL z n).toArray := fun c hc => by
    split at hc
    · rename_i h0
      rw [h0]
      have : (repL z n).length = 0 := by rw [repL_length, hzlen]; exact h0
      simp [Array.range_zero', List.eq_nil_of_length_eq_zero this]
    · subst hc
      apply Array.ext'
      rw [← hzsize, zeros_eq, hzl]
  obtain ⟨cells', hf, hr⟩ := fill_ok (ce := ce) ps.toList aps l (repL z n) (repL z n).toArray hc (by rw [repL_length, hzlen]; exact hl) hrel (by simpa using hrl)
  have hlen : (fillL (repL z n) l).length = n * i.size := by
    have hfl : ∀ (l : List (Nat × List Value)) (aps : List (Nat × Nat × Operand)) (zs : List Value), partsOk ts zs.length aps = some l → (fillL zs l).length = zs.length := by
      intro l
      induction l with
      | nil => intro aps zs _; rfl
      | cons p l ih =>
        intro aps zs hh
        obtain ⟨off, xs⟩ := p
        cases aps with
        | nil => simp [partsOk] at hh
        | cons q aps =>
          obtain ⟨o, s, x⟩ := q
          simp only [partsOk] at hh
          split at hh
          · rename_i hcc
            simp only [Bool.and_eq_true, decide_eq_true_eq] at hcc
            obtain ⟨l', hl', he⟩ := map_some_iff hh
            have hle := Nat.le_of_ble_eq_true hcc.2
            simp only [List.cons.injEq, Prod.mk.injEq] at he
            obtain ⟨⟨rfl, rfl⟩, rfl⟩ := he
            have hL : (zs.take o ++ cellsL (aev ts x) ++ zs.drop (o + (cellsL (aev ts x)).length)).length = zs.length := by
              simp only [List.length_append, List.length_take, List.length_drop, hcc.1]; omega
            simp only [fillL]
            rw [ih aps _ (by rw [hL]; exact hl'), hL]
          · cases hh
    rw [hfl l aps _ (by rw [repL_length, hzlen]; exact hl), repL_length, hzlen]
  have hn63 : n ≤ maxLen := by
    have : n * 1 ≤ n * i.size := Nat.mul_le_mul_left n hpos
    simp only [maxLen]; omega
  have hrep := repB_newAt hR hr0 hρ0 hlt0 hr hs hlen hn63
  refine OpOK.value _ _ (.slice (some ⟨w.heap.size, 0, none⟩) n n) (Ren.le_upd _ hρ0) hrep ?_ ?_
  · have := Rv.slice0 (ρ := ρ.upd r (⟨w.heap.size, 0, none⟩, n)) r 0 n w.heap.size 0 n (Ren.upd_same _ _ _) (by omega)
    simpa using this
  · have hps : (ps.map fun (p : Nat × Operand) => (p.1, ce p.2)).toList = ps.toList.map fun p => (p.1, ce p.2) := by simp
    have h24 : ¬ (n * i.size > 2 ^ 24) := by omega
    by_cases hn0 : n * i.size = 0
    · have hz0 : repL z n = [] := List.eq_nil_of_length_eq_zero (by rw [repL_length, hzlen]; exact hn0)
      rw [hz0] at hf
      simp [Instr.buildSlice, run_underlying ht, sizeOf, typeInfo, hi, hn0, newRow, Array.range_zero', hf]
    · have h3 := hrow zv.cells (by simp [hn0])
      have h24' : ¬ (16777216 < n * i.size) := by omega
      simp [Instr.buildSlice, run_underlying ht, sizeOf, typeInfo, zeroValue, hi, hzv, hn0, newRow, h24']
      rw [h3, hf]
      simp

/-- A number that was set aside stands for no block. -/
theorem Rep.ghostAt (R : Rep P ρ N w0 h w) {r : Nat} (hr : h.get r = none) (hρ : ρ r = none) (hlt : r < h.next) (x : Addr × Nat) : Rep P (ρ.upd r x) N w0 (h.set r .dead) w := by
  have hle := Ren.le_upd x hρ
  refine ⟨R.below, R.size, ?_, ?_, ?_, ?_, ?_, ?_, ?_⟩
  · intro i hi
    have hi' : h.next ≤ i := hi
    rw [Ren.upd_ne ρ _ (by omega)]
    exact R.fresh i hi'
  · intro i hi
    have hi' : h.next ≤ i := hi
    rw [H.get_set_ne h _ (by omega)]
    exact R.top i hi'
  · intro i hi hg
    by_cases e : i = r
    · subst e; rw [H.get_set_same] at hg; cases hg
    · rw [H.get_set_ne h _ (Ne.symm e)] at hg
      rw [Ren.upd_ne ρ _ e]
      exact R.hole i hi hg
  · intro i b' hg
    by_cases e : i = r
    · subst e; rw [H.get_set_same] at hg; cases hg; trivial
    · rw [H.get_set_ne h _ (Ne.symm e)] at hg; exact (R.blk i b' hg).mono hle
  · intro i j b1 b2 y z h1 h2 hne ho hl hy hz
    by_cases ei : i = r
    · subst ei; rw [H.get_set_same] at h1; cases h1; cases ho
    · by_cases ej : j = r
      · subst ej; rw [H.get_set_same] at h2; cases h2; cases hl
      · rw [H.get_set_ne h _ (Ne.symm ei)] at h1
        rw [H.get_set_ne h _ (Ne.symm ej)] at h2
        rw [Ren.upd_ne ρ _ ei] at hy
        rw [Ren.upd_ne ρ _ ej] at hz
        exact R.excl i j b1 b2 y z h1 h2 hne ho hl hy hz
  · intro i b1 y h1 ho hy
    by_cases ei : i = r
    · subst ei; rw [H.get_set_same] at h1; cases h1; cases ho
    · rw [H.get_set_ne h _ (Ne.symm ei)] at h1
      rw [Ren.upd_ne ρ _ ei] at hy
      exact R.above i b1 y h1 ho hy
  · intro g hg
    obtain ⟨c', hc'⟩ := R.glob g hg
    exact ⟨c', hle _ _ hc'⟩

theorem fill_okAt (hR : Rep P ρ N w0 h w) {r : Nat} (hr0 : h.get r = none) (hρ0 : ρ r = none) (hlt0 : r < h.next) {ts : List Value} {ce : Operand → Value} {o : Oper} {ao : AOp} (hc : compOp P o = some ao)
    (hrel : ∀ x ∈ o.op.operands, Rv ρ (aev ts x) (ce x)) {v : Value} {ob : Option Blk} (hx : fillV r ts ao = some (v, ob)) : OpOK P ρ N w0 (fillH h r ob) w (execOp ce o) v := by
  obtain ⟨dst, op, ty, pos, after, guard⟩ := o
  cases op <;> simp only [compOp] at hc <;> (try (cases hc; done)) <;> simp only [Op.operands] at hrel
  case alloc e =>
    obtain ⟨z, hz, rfl⟩ := map_some_iff hc
    simp only [fillV, Option.some.injEq, Prod.mk.injEq] at hx
    obtain ⟨rfl, rfl⟩ := hx
    exact (alloc_okAt hR hr0 hρ0 hlt0 hz).of_run fun _ => rfl
  case box e x =>
    obtain ⟨n, hn, rfl⟩ := map_some_iff hc
    simp only [fillV] at hx
    split at hx
    · rename_i hl
      cases hx
      exact (box_okAt hR hr0 hρ0 hlt0 (by rw [hl]; exact hn) (hrel x (by simp))).of_run fun _ => rfl
    · cases hx
  case buildSlice t n ps =>
    split at hc
    · rename_i e ht
      split at hc
      · rename_i s z hs hz
        split at hc
        · rename_i hle
          obtain ⟨aps, haps, rfl⟩ := map_some_iff hc
          simp only [fillV] at hx
          obtain ⟨l, hl, he⟩ := map_some_iff hx
          cases he
          exact (buildSlice_okAt hR hr0 hρ0 hlt0 ht hs hz hle.1 hle.2 haps hl fun p hp => hrel p.2 (by simp; exact ⟨p.1, by simpa using hp⟩)).of_run fun _ => rfl
        · cases hc
      · cases hc
    · cases hc
  case makeSlice t l c =>
    split at hc
    · rename_i e ht
      split at hc
      · rename_i i z hi hz
        split at hc
        · cases hc
          simp only [fillV] at hx
          split at hx
          · rename_i k1 l' k2 c' hl hcv
            split at hx
            · rename_i hcond
              obtain ⟨h0, rfl, hb, hm⟩ := hcond
              cases hx
              have h1 := hrel l (by simp)
              rw [hl] at h1
              have h1 := scal_eq rfl h1
              have h2 := hrel c (by simp)
              rw [hcv] at h2
              have h2 := scal_eq rfl h2
              exact (makeSlice_okAt (k := k1) (k' := k2) hR hr0 hρ0 hlt0 ht hi hz h0 hb hm).of_run fun w => by simp [execOp, h1, h2]
            · cases hx
          · cases hx
        · cases hc
      · cases hc
    · cases hc
  case slice t x lo hi mx =>
    cases mx with
    | some m =>
      cases hi with
      | none => simp only at hc; cases hc
      | some hh =>
        simp only at hc
        split at hc
        · obtain ⟨_, _, rfl⟩ := map_some_iff hc
          simp only [fillV] at hx; cases hx
        · cases hc
    | none =>
      simp only at hc
      split at hc
      · obtain ⟨_, _, rfl⟩ := map_some_iff hc
        simp only [fillV] at hx; cases hx
      · cases hc; simp only [fillV] at hx; cases hx
      · obtain ⟨_, _, rfl⟩ := map_some_iff hc
        simp only [fillV] at hx; cases hx
      · cases hc
  case call c =>
    have : isFill ao = false := by
      unfold compCall at hc
      (repeat' (split at hc)) <;> first
        | (cases hc; done)
        | (cases hc; rfl)
        | (cases hc; rcases callOp_cases P _ _ with e | ⟨_, _, _, e⟩ <;> rw [e] <;> rfl)
        | (rcases compExt_ctor hc with ⟨x, e⟩ | ⟨x, y, e⟩ | ⟨e, x, e⟩ <;> cases e <;> rfl)
    cases ao <;> simp only [isFill, Bool.true_eq_false] at this <;> simp only [fillV] at hx <;> cases hx
  case makeFunc fn x y =>
    cases fn <;> simp only at hc <;> cases hc
    simp only [fillV] at hx
    cases hx
  case makeMap t r =>
    cases r <;> simp only at hc <;> cases hc
    simp only [fillV] at hx
    cases hx
  case next it b =>
    cases b <;> simp only at hc <;> cases hc
    simp only [fillV] at hx
    cases hx
  all_goals
    (try (split at hc))
    all_goals (repeat' (split at hc)) <;> first
      | (cases hc; done)
      | (cases hc; simp only [fillV] at hx; cases hx; done)
      | (obtain ⟨_, _, rfl⟩ := map_some_iff hc; simp only [fillV] at hx; cases hx; done)

end Go.Ev
