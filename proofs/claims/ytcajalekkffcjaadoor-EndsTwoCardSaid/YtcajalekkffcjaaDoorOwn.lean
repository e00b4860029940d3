/- The tables of the seat; ends in new memory. -/
import Derived.Test.YtcajalekkffcjaaDoorProg
import Derived.KernelRfl
import Derived.Test.YtcajalekkffcjaaDoorXA
import Derived.Test.YtcajalekkffcjaaDoorXB
namespace Go.Proofs.YtcajalekkffcjaaDoor
open Go Go.Ev
noncomputable abbrev PP : Program := Tryd.prog

/-! ### Kinds of rows -/
structure Span where
  f : Int
  t : Int
structure Set4 where
  a : Int
  b : Int
  c : Int
  d : Int
structure Node where
  kind : Int
  times : Int
  set : Set4
  group : Int
  first : Int
  next : Int
structure Rng where
  low : Int
  high : Int

inductive Kd where
  | span | set | node | rng | int | u8 | bool | str | none

def Kd.T : Kd → Type
  | .span => Span | .set => Set4 | .node => Node | .rng => Rng | .int => Int | .u8 => Int | .bool => Bool | .str => ByteArray | .none => Empty

def lkd : List (Nat × Kd) → Nat → Kd
  | [], _ => .none
  | (t, k) :: r, d => bif Nat.beq t d then k else lkd r d

def tyTab : List (Nat × Kd) := [(45, .set), (3, .int), (9, .str), (4, .bool), (5, .u8)]

def TT (e : TypeId) : Type := (lkd tyTab e).T

def xInt (n : Int) : X TT := .v (.int .i64 n)
def xU8 (n : Int) : X TT := .v (.int .u8 n)
def xU64 (n : Int) : X TT := .v (.int .u64 n)
def xBool (b : Bool) : X TT := .v (.bool b)
def xStr (s : ByteArray) : X TT := .v (.string s)
def cSpan (s : Span) : List (X TT) := [xInt s.f, xInt s.t]
def cSet (s : Set4) : List (X TT) := [xU64 s.a, xU64 s.b, xU64 s.c, xU64 s.d]
def cNode (n : Node) : List (X TT) := [xInt n.kind, xInt n.times, xU64 n.set.a, xU64 n.set.b, xU64 n.set.c, xU64 n.set.d, xInt n.group, xInt n.first, xInt n.next]
def cRng (s : Rng) : List (X TT) := [xU8 s.low, xU8 s.high]

def Kd.enc : (k : Kd) → k.T → List (X TT)
  | .span, s => cSpan s
  | .set, s => cSet s
  | .node, s => cNode s
  | .rng, s => cRng s
  | .int, n => [xInt n]
  | .u8, n => [xU8 n]
  | .bool, b => [xBool b]
  | .str, s => [xStr s]
def Kd.sz : Kd → Nat
  | .span => 2 | .set => 4 | .node => 9 | .rng => 2 | .int => 1 | .u8 => 1 | .bool => 1 | .str => 1 | .none => 0
def Kd.dec : (k : Kd) → List (X TT) → Option k.T
  | .span, [.v (.int .i64 a), .v (.int .i64 b)] => some (Span.mk a b)
  | .set, [.v (.int .u64 a), .v (.int .u64 b), .v (.int .u64 c), .v (.int .u64 d)] => some (Set4.mk a b c d)
  | .node, [.v (.int .i64 k), .v (.int .i64 t), .v (.int .u64 a), .v (.int .u64 b), .v (.int .u64 c), .v (.int .u64 d), .v (.int .i64 g), .v (.int .i64 f), .v (.int .i64 n)] => some (Node.mk k t ⟨a, b, c, d⟩ g f n)
  | .rng, [.v (.int .u8 a), .v (.int .u8 b)] => some (Rng.mk a b)
  | .int, [.v (.int .i64 a)] => some a
  | .u8, [.v (.int .u8 a)] => some a
  | .bool, [.v (.bool a)] => some a
  | .str, [.v (.string a)] => some a
  | _, _ => Option.none
def Kd.byte : (k : Kd) → Option ((Int → k.T) × (k.T → Int))
  | .u8 => some (fun n => n, fun n => n)
  | _ => Option.none
def lkg : List (Nat × List (X TT)) → Nat → Option (List (X TT))
  | [], _ => Option.none
  | (t, k) :: r, d => bif Nat.beq t d then some k else lkg r d

structure Tree where
  nodes : List Node
  bgn : Bool
  fin : Bool
  groups : Int
structure Match where
  ok : Bool
  spans : List Span
  used : Int

structure Ends where
  lead : List Set4
  trail : List Set4
  least : Int
  most : Int
structure Shape where
  first : ByteArray
  last : ByteArray
  exact : Bool
  least : Int
  most : Int

structure FIn where
  env : List (Ob TT)
  fst : List (X TT)
  args : List (X TT)
  cap : List (X TT)

def globs : List (Nat × List (X TT)) := [(0, [0, 1, 56, 2, 57, 49, 28, 3, 61, 58, 42, 50, 38, 29, 17, 4, 62, 47, 59, 36, 45, 43, 51, 22, 53, 39, 33, 30, 24, 18, 12, 5, 63, 55, 48, 27, 60, 41, 37, 16, 46, 35, 44, 21, 52, 32, 23, 11, 54, 26, 40, 15, 34, 20, 31, 10, 25, 14, 19, 9, 13, 8, 7, 6].map fun n => .v (.int .u8 n))]
def E : Enc TT := ⟨fun e r => (lkd tyTab e).enc r, fun e => (lkd tyTab e).sz, fun e xs => (lkd tyTab e).dec xs, lkg globs, fun e => (lkd tyTab e).byte⟩
def tSet : Nat := 45
def xSet (s : Set4) : X TT := .agg (cSet s)
def xEnds (e : Ends) : X TT := .agg [.ro 45 e.lead, .ro 45 e.trail, xInt e.least, xInt e.most]
def pureS (R : Type) (res : R → X TT) : Sig TT := ⟨R, res, fun _ => [], fun _ => [], false, false⟩
def lks : List (Nat × Sig TT) → Nat → Sig TT
  | [], _ => pureS Unit fun _ => .bad
  | (t, k) :: r, d => bif Nat.beq t d then k else lks r d
def boolE (r : Bool × Int) : X TT := .tup [xBool r.1, xInt r.2]
def pairI (r : Int × Int) : X TT := .agg [xInt r.1, xInt r.2]
abbrev f_waypostlaw23_EndsTwo : Nat := 4
abbrev f_waypostlaw23_awake : Nat := 10
abbrev f_ends_Check : Nat := 15
abbrev f_waypostref23_Check : Nat := 16
abbrev f_ends_Both : Nat := 17
abbrev f_waypostkit_OwnEnds : Nat := 18
abbrev f_waypostref23_Both : Nat := 19
abbrev f_ends_lengthsOf : Nat := 51
abbrev f__ends_interval__meets : Nat := 52
abbrev f_ends_along_api_Set_api_Set_ : Nat := 53
abbrev f_ends_common : Nat := 54
abbrev f_waypostref23_common : Nat := 55
abbrev f_byteset_Common : Nat := 78
abbrev f_waypostref01_Common : Nat := 79
abbrev f_byteset_Not : Nat := 101
abbrev f_waypostref01_Not : Nat := 102
def sigs : List (Nat × Sig TT) := [
  (4, pureS Bool xBool),
  (10, pureS Bool xBool), (15, pureS Int xInt), (16, pureS Int xInt), (17, pureS (Bool × Int) boolE), (19, pureS (Bool × Int) boolE), (18, ⟨Ends, xEnds, fun _ => [], fun _ => [], false, true⟩),
  (51, pureS (Int × Int) pairI), (52, pureS Bool xBool), (53, pureS Bool xBool), (54, pureS Bool xBool), (55, pureS Bool xBool), (78, pureS Set4 xSet), (79, pureS Set4 xSet), (101, pureS Set4 xSet), (102, pureS Set4 xSet)]
def Γ0 (loops : List (Tmp × List Itm)) : Hi TT := { sig := lks sigs, it := fun _ => ⟨Unit, fun _ => []⟩, loops := loops, y := none, yv := undef }
def iI (t : Tmp) : Itm := .slot t (.at (.int .i64))
def iOs (t : Tmp) (e : TypeId) : Itm := .slot t (.os e)
def iS (t : Tmp) : Itm := .box t [.at (.int .u64), .at (.int .u64), .at (.int .u64), .at (.int .u64)]
def Γ4 : Hi TT := Γ0 []
def Γ15 : Hi TT := Γ0 [(28, [iI 27])]
def Γ16 : Hi TT := Γ0 []
def Γ17 : Hi TT := Γ0 [(13, [iI 12])]
def Γ19 : Hi TT := Γ0 []
def Γ51 : Hi TT := Γ0 []
def Γ52 : Hi TT := Γ0 []
def Γ53 : Hi TT := Γ0 [(14, [iI 13])]
def Γ54 : Hi TT := Γ0 []
def Γ55 : Hi TT := Γ0 [(6, [iI 5])]
def Γ78 : Hi TT := Γ0 [(12, [iI 11, iS 3]), (16, [iI 15, iS 3])]
def Γ79 : Hi TT := Γ0 [(8, [iI 4, iS 3]), (14, [iI 5, iS 3])]
def Γ101 : Hi TT := Γ0 [(5, [iI 4, iS 1])]
def Γ102 : Hi TT := Γ0 [(4, [iI 3, iS 1])]
def in4 (a b : Ends) : FIn := ⟨[], [], [xEnds a, xEnds b], []⟩
def in15 (a : Ends) : FIn := ⟨[], [], [xEnds a], []⟩
def in16 (a : Ends) : FIn := ⟨[], [], [xEnds a], []⟩
def in17 (a b : Ends) : FIn := ⟨[], [], [xEnds a, xEnds b], []⟩
def in19 (a b : Ends) : FIn := ⟨[], [], [xEnds a, xEnds b], []⟩
def in51 (a : Ends) : FIn := ⟨[], [], [xEnds a], []⟩
def in52 (a b : Int × Int) : FIn := ⟨[], [], [pairI a, pairI b], []⟩
def in53 (a b : List Set4) : FIn := ⟨[], [], [.ro 45 a, .ro 45 b, .fn 54 [] []], []⟩
def in54 (a b : Set4) : FIn := ⟨[], [], [xSet a, xSet b], []⟩
def in55 (a b : List Set4) : FIn := ⟨[], [], [.ro 45 a, .ro 45 b], []⟩
def in78 (a : List Set4) : FIn := ⟨[], [], [.ro 45 a], []⟩
def in79 (a : List Set4) : FIn := ⟨[], [], [.ro 45 a], []⟩
def in101 (a : Set4) : FIn := ⟨[], [], [xSet a], []⟩
def in102 (a : Set4) : FIn := ⟨[], [], [xSet a], []⟩

end Go.Proofs.YtcajalekkffcjaaDoor

namespace Go.Proofs.YtcajalekkffcjaaDoor
open Go Go.Ev

theorem Kd.enc_len (k : Kd) (r : k.T) : (k.enc r).length = k.sz := by
  cases k <;> first | rfl | exact r.elim

theorem Kd.dec_ok (k : Kd) (xs : List (X TT)) (r : k.T) (h : k.dec xs = some r) : k.enc r = xs := by
  revert h
  unfold Kd.dec
  split
  all_goals first | (intro h; cases h; rfl) | (intro h; cases h; done)

theorem Kd.enc_row (k : Kd) (r : k.T) : ∀ x ∈ k.enc r, x.row = true := by
  have key : (k.enc r).all (·.row) = true := by cases k <;> first | exact r.elim | rfl
  exact List.all_eq_true.1 key

theorem Kd.byte_ok (k : Kd) (f : Int → k.T) (g : k.T → Int) (h : k.byte = some (f, g)) : (∀ n, k.enc (f n) = [.v (.int .u8 n)]) ∧ ∀ r, k.enc r = [.v (.int .u8 (g r))] := by
  cases k <;> simp only [Kd.byte] at h <;> cases h
  exact ⟨fun _ => rfl, fun _ => rfl⟩

theorem lkg_row : ∀ {l : List (Nat × List (X TT))} {g : Nat} {cs : List (X TT)}, (l.all fun p => p.2.all (·.row)) = true → lkg l g = some cs → ∀ x ∈ cs, x.row = true
  | [], _, _, _, h => by cases h
  | (t, k) :: r, g, cs, ha, h => by
    simp only [List.all_cons, Bool.and_eq_true] at ha
    simp only [lkg] at h
    cases hb : Nat.beq t g with
    | true => rw [hb] at h; cases h; exact List.all_eq_true.1 ha.1
    | false => rw [hb] at h; exact lkg_row ha.2 h

theorem encOK : EncOK E where
  len := fun e r => Kd.enc_len (lkd tyTab e) r
  dec := fun e xs r h => Kd.dec_ok (lkd tyTab e) xs r h
  row := fun e r => Kd.enc_row (lkd tyTab e) r
  byte := fun e f g h => Kd.byte_ok (lkd tyTab e) f g h
  glob := fun g cs h => lkg_row (l := globs) (by decide) h

end Go.Proofs.YtcajalekkffcjaaDoor

namespace Go.Proofs.YtcajalekkffcjaaDoor
open Go Go.Ev
/- waypost/waypostkit.OwnEnds -/
def Γ18 : Hints := { sh := [(5, .one (.at (.sl))), (6, .one (.at (.sl))), (9, .one (.at (.sl))), (10, .one (.at (.sl))), (13, .one (.agg [.sl, .sl, .int .i64, .int .i64]))], loops := [], res := [.agg [.sl, .sl, .int .i64, .int .i64]], pan := false }
def V18 (_W : Rec) (a0 : SV) (a1 : SV) (a2 : Int) (a3 : Int) (h : H) (R : ARes → H → Prop) : Prop :=
 ∀ h1, h1 = H.alloc h (.cells true [.slice a0.p a0.n a0.c, .slice a1.p a1.n a1.c, .int .i64 a2, .int .i64 a3] 27 1) →
 ∀ h2, h2 = H.alloc h1 (.cells true [.slice none 0 0, .slice none 0 0, .int .i64 0, .int .i64 0] 27 1) →
 ∀ h3, h3 = H.res h2 12 →
 ∃ q4 : SV, H.cells h3 ⟨h.next, 0, none⟩ 1 = some [.slice q4.p q4.n q4.c] ∧
 ∀ h5, h5 = plug h3 (h2.next + 0) (.cells true [] 45 0) →
 ∃ q6 : SV, ∃ h7, appV PP h5 45 4 32 (.slice (some ⟨(h2.next + 0), 0, none⟩) 0 0) (.slice q4.p q4.n q4.c) = some (.slice q6.p q6.n q6.c, h7) ∧
 ∃ q8 : SV, H.cells h7 ⟨h.next, 1, none⟩ 1 = some [.slice q8.p q8.n q8.c] ∧
 ∀ h9, h9 = plug h7 (h2.next + 0) (.cells true [] 45 0) →
 ∀ h10, h10 = plug h9 (h2.next + 4) (.cells true [] 45 0) →
 ∃ q11 : SV, ∃ h12, appV PP h10 45 4 32 (.slice (some ⟨(h2.next + 4), 0, none⟩) 0 0) (.slice q8.p q8.n q8.c) = some (.slice q11.p q11.n q11.c, h12) ∧
 ∀ h13, h13 = plug h12 (h2.next + 0) (.cells true [] 45 0) →
 ∀ h14, h14 = plug h13 (h2.next + 4) (.cells true [] 45 0) →
 ∃ (t15 : Bool) (cs16 : List Value) (e17 r18 : Nat), H.get h14 h.next = some (.cells t15 cs16 e17 r18) ∧ 0 + 1 ≤ cs16.length ∧
 ∀ h19, h19 = H.set h14 h.next (.cells t15 (wr 0 [.slice q6.p q6.n q6.c] cs16) e17 r18) →
 ∀ h20, h20 = plug h19 (h2.next + 0) (.cells true [] 45 0) →
 ∀ h21, h21 = plug h20 (h2.next + 4) (.cells true [] 45 0) →
 ∃ (t22 : Bool) (cs23 : List Value) (e24 r25 : Nat), H.get h21 h.next = some (.cells t22 cs23 e24 r25) ∧ 1 + 1 ≤ cs23.length ∧
 ∀ h26, h26 = H.set h21 h.next (.cells t22 (wr 1 [.slice q11.p q11.n q11.c] cs23) e24 r25) →
 (sameCells h7 h3 ⟨h.next, 1, none⟩ 1 = true) ∧ ∀ h27, h27 = plug h26 (h2.next + 0) (.cells true [] 45 0) →
 ∀ h28, h28 = plug h27 (h2.next + 4) (.cells true [] 45 0) →
 ∃ q29 : SV, ∃ q30 : SV, ∃ x31 : Int, ∃ x32 : Int, H.cells h28 ⟨h.next, 0, none⟩ 4 = some [.slice q29.p q29.n q29.c, .slice q30.p q30.n q30.c, .int .i64 x31, .int .i64 x32] ∧
 ∃ (t33 : Bool) (cs34 : List Value) (e35 r36 : Nat), H.get h28 h1.next = some (.cells t33 cs34 e35 r36) ∧ 0 + 4 ≤ cs34.length ∧
 ∀ h37, h37 = H.set h28 h1.next (.cells t33 (wr 0 [.slice q29.p q29.n q29.c, .slice q30.p q30.n q30.c, .int .i64 x31, .int .i64 x32] cs34) e35 r36) →
 ∃ q38 : SV, ∃ q39 : SV, ∃ x40 : Int, ∃ x41 : Int, H.cells h37 ⟨h1.next, 0, none⟩ 4 = some [.slice q38.p q38.n q38.c, .slice q39.p q39.n q39.c, .int .i64 x40, .int .i64 x41] ∧
 R (.ret (.agg ⟨[.slice q38.p q38.n q38.c, .slice q39.p q39.n q39.c, .int .i64 x40, .int .i64 x41]⟩)) h37
set_option maxRecDepth 100000 in
theorem v18 (W : Rec) (a0 : SV) (a1 : SV) (a2 : Int) (a3 : Int) (h : H) (R : ARes → H → Prop) : sFn PP W Γ18 (Tof PP) 18 [.agg ⟨[.slice a0.p a0.n a0.c, .slice a1.p a1.n a1.c, .int .i64 a2, .int .i64 a3]⟩] h R = V18 W a0 a1 a2 a3 h R := by kernel_rfl
end Go.Proofs.YtcajalekkffcjaaDoor

namespace Go.Proofs.YtcajalekkffcjaaDoor
open Go Go.Ev

theorem plug_keep {h : H} {r : Nat} {b : Blk} (t : Top h) (hr : r < h.next) : Keep [r] h (plug h r b) := by
  cases hg : h.get r with
  | none => rw [plug_none hg]; exact (Keep.refl t _).set hr (.inr (by simp)) _
  | some c => rw [plug_some hg]; exact .refl t _

/-- Appending to a new slice of nothing. -/
theorem app_own {P : Program} {h : H} (t : Top h) {b e : Nat} (hb : b < h.next) (hg : h.get b = some (.cells true [] e 0)) {q : SV} {sz bytes : Nat} {rows : List (List Value)} (s : Sli h q sz rows)
    (hone : (rows.flatten.all (·.oneCell')) = true) (hbd : rows.length * bytes ≤ maxBytes) (hm : rows.length ≤ maxLen) :
    ∃ (q' : SV) (h' : H), appV P h e sz bytes (.slice (some ⟨b, 0, none⟩) 0 0) (.slice q.p q.n q.c) = some (.slice q'.p q'.n q'.c, h') ∧ Keep [b] h h' ∧ Sli h' q' sz rows ∧ ∃ b', q'.p = some ⟨b', 0, none⟩ ∧ (b' = b ∧ rows = [] ∨ h.next ≤ b') := by
  have hsrc := s.src
  cases hr : rows with
  | nil =>
    subst hr
    refine ⟨⟨some ⟨b, 0, none⟩, 0, 0⟩, h, ?_, .refl t _, ⟨rfl, by simp, fun h => by simp at h⟩, b, rfl, .inl ⟨rfl, rfl⟩⟩
    simp only [appV, aexec, aev, hsrc]
    rw [if_pos (by simp)]
    rfl
  | cons r0 rs =>
    have hne : rows ≠ [] := by rw [hr]; simp
    have g : Gr h ⟨some ⟨b, 0, none⟩, 0, 0⟩ e sz [] := ⟨by simp, .inr ⟨b, true, rfl, hb, hg⟩⟩
    obtain ⟨h', k1, k2, k3, k4⟩ := g.app (P := P) (bytes := bytes) t s.all hsrc hone hne (by simpa using hbd) (by simpa using hm)
    rw [← hr]
    refine ⟨⟨some ⟨h.next, 0, none⟩, 0 + rows.length, 0⟩, h', k1, k3, ?_, h.next, rfl, .inr (Nat.le_refl _)⟩
    have := k2.sli
    simpa using this

theorem own_gives {W : Rec} {nk : Nat → Bool} (hW : WOK PP (Tof PP) nk W) (hg : nk 18 = true) {h : H} (t : Top h) {q1 q2 : SV} {r1 r2 : List (List Value)} (a2 a3 : Int) (s1 : Sli h q1 4 r1) (s2 : Sli h q2 4 r2)
    (o1 : (r1.flatten.all (·.oneCell')) = true) (o2 : (r2.flatten.all (·.oneCell')) = true) (l1 : r1.length ≤ 80) (l2 : r2.length ≤ 80) :
    Gives W (.func (.func 18) #[] #[]) [.agg ⟨[.slice q1.p q1.n q1.c, .slice q2.p q2.n q2.c, .int .i64 a2, .int .i64 a3]⟩] h fun r h' => ∃ (p1 p2 : SV), r = .ret (.agg ⟨[.slice p1.p p1.n p1.c, .slice p2.p p2.n p2.c, .int .i64 a2, .int .i64 a3]⟩) ∧ Keep [] h h' ∧ Sli h' p1 4 r1 ∧ Sli h' p2 4 r2 ∧
      (∃ b, p1.p = some ⟨b, 0, none⟩ ∧ h.next ≤ b) ∧ ∃ b, p2.p = some ⟨b, 0, none⟩ ∧ h.next ≤ b := by
  refine sFn_gives hW (Γ := Γ18) hg (a := #[]) (b := #[]) ?_
  show sFn PP W Γ18 (Tof PP) 18 [.agg ⟨[.slice q1.p q1.n q1.c, .slice q2.p q2.n q2.c, .int .i64 a2, .int .i64 a3]⟩] h _
  rw [v18]
  have hmx : ∀ n : Nat, n ≤ 80 → n * 32 ≤ maxBytes ∧ n ≤ maxLen := fun n hn => ⟨Nat.le_trans (Nat.mul_le_mul_right 32 hn) (by decide), Nat.le_trans hn (by decide)⟩
  intro h1 e1 h2 e2 h3 e3
  have n1 : h1.next = h.next + 1 := by rw [e1]; rfl
  have n2 : h2.next = h.next + 2 := by rw [e2]; show h1.next + 1 = _; omega
  have n3 : h3.next = h.next + 14 := by rw [e3, H.res_next]; omega
  have t1 : Top h1 := by rw [e1]; exact t.alloc _
  have t2 : Top h2 := by rw [e2]; exact t1.alloc _
  have t3 : Top h3 := by rw [e3]; exact t2.res _
  have k03 : Keep [] h h3 := by rw [e3, e2, e1]; exact (((Keep.refl t _).alloc _).alloc _).res _
  have b3 : h3.get h.next = some (.cells true [.slice q1.p q1.n q1.c, .slice q2.p q2.n q2.c, .int .i64 a2, .int .i64 a3] 27 1) := by
    rw [e3, H.res_get, e2, H.get_alloc_ne h1 _ (by omega), e1]; exact H.get_alloc_same _ _
  have c3 : h3.get (h.next + 1) = some (.cells true [.slice none 0 0, .slice none 0 0, .int .i64 0, .int .i64 0] 27 1) := by
    rw [e3, H.res_get, e2, ← n1]; exact H.get_alloc_same _ _
  refine ⟨q1, ?_, ?_⟩
  · exact blk_cells b3 rfl (show 0 + 1 ≤ 4 by decide)
  intro h5 e5
  have i5 : h3.get (h.next + 2) = none := by rw [e3, H.res_get]; exact t2 _ (by omega)
  have j5 : h3.get (h.next + 6) = none := by rw [e3, H.res_get]; exact t2 _ (by omega)
  have hp5 : h5 = h3.set (h.next + 2) (.cells true [] 45 0) := by rw [e5, n2, Nat.add_zero]; exact plug_none i5
  have t5 : Top h5 := by rw [hp5]; exact t3.set (by omega) _
  have n5 : h5.next = h.next + 14 := by rw [hp5]; exact n3
  have k35 : Keep [h.next + 2, h.next + 6] h3 h5 := by rw [hp5]; exact (Keep.refl t3 _).set (by omega) (.inr (by simp)) _
  have s5 : ∀ {q : SV} {r : List (List Value)}, Sli h q 4 r → Sli h5 q 4 r := fun s => s.keep0 (k03.from k35 (by simp))
  obtain ⟨p1, h7, f1, f2, f3, b1, f4, f5⟩ := app_own (P := PP) (b := h.next + 2) (e := 45) (bytes := 32) t5 (by omega) (by rw [hp5]; exact H.get_set_same _ _ _) (s5 s1) o1 (hmx _ l1).1 (hmx _ l1).2
  rw [n2, Nat.add_zero]
  refine ⟨p1, h7, f1, q2, ?_, ?_⟩
  · have : h7.get h.next = some (.cells true [.slice q1.p q1.n q1.c, .slice q2.p q2.n q2.c, .int .i64 a2, .int .i64 a3] 27 1) := by
      rw [f2.get _ (by omega) (by simp), k35.get _ (by omega) (by simp)]; exact b3
    exact blk_cells this rfl (show 1 + 1 ≤ 4 by decide)
  intro h9 e9 h10 e10
  have n7 : h.next + 14 ≤ h7.next := by have := f2.next; omega
  have k57 : Keep [h.next + 2, h.next + 6] h5 h7 := f2.mono fun i hi _ => by simp at hi; simp [hi]
  have k79 : Keep [h.next + 2, h.next + 6] h7 h9 := by rw [e9]; exact (plug_keep f2.top (by omega)).mono fun i hi _ => by simp at hi; simp [hi]
  have g9 : h9.get (h.next + 6) = none := by
    have a1 : h9.get (h.next + 6) = h7.get (h.next + 6) := by rw [e9]; exact (plug_keep f2.top (by omega)).get _ (by omega) (by simp)
    have a2 : h7.get (h.next + 6) = h5.get (h.next + 6) := f2.get _ (by omega) (by simp)
    rw [a1, a2, hp5, H.get_set_ne _ _ (by omega)]; exact j5
  have n9 : h.next + 14 ≤ h9.next := by have := k79.next; omega
  have hp10 : h10 = h9.set (h.next + 6) (.cells true [] 45 0) := by rw [e10]; exact plug_none g9
  have k910 : Keep [h.next + 2, h.next + 6] h9 h10 := by rw [hp10]; exact (Keep.refl k79.top _).set (by omega) (.inr (by simp)) _
  have k310 : Keep [h.next + 2, h.next + 6] h3 h10 := ((k35.trans k57).trans k79).trans k910
  have s10 : ∀ {q : SV} {r : List (List Value)}, Sli h q 4 r → Sli h10 q 4 r := fun s => s.keep0 (k03.from k310 (by simp))
  have n10 : h.next + 14 ≤ h10.next := by have := k910.next; omega
  obtain ⟨p2, h12, g1, g2, g3, b2, g4, g5⟩ := app_own (P := PP) (b := h.next + 6) (e := 45) (bytes := 32) k310.top (by omega) (by rw [hp10]; exact H.get_set_same _ _ _) (s10 s2) o2 (hmx _ l2).1 (hmx _ l2).2
  refine ⟨p2, h12, g1, ?_⟩
  intro h13 e13 h14 e14
  have k1012 : Keep [h.next + 2, h.next + 6] h10 h12 := g2.mono fun i hi _ => by simp at hi; simp [hi]
  have pk : ∀ {ha hb hc : H}, Keep [h.next + 2, h.next + 6] h3 ha → hb = plug ha (h.next + 2) (.cells true [] 45 0) → hc = plug hb (h.next + 2 + 4) (.cells true [] 45 0) → Keep [h.next + 2, h.next + 6] ha hc := fun {ha hb hc} k eb ec => by
    have n0 : h.next + 14 ≤ ha.next := by have := k.next; omega
    have k1 : Keep [h.next + 2, h.next + 6] ha hb := by rw [eb]; exact (plug_keep k.top (by omega)).mono fun i hi _ => by simp at hi; simp [hi]
    have n1 : h.next + 14 ≤ hb.next := by have := k1.next; omega
    exact k1.trans (by rw [ec]; exact (plug_keep k1.top (by omega)).mono fun i hi _ => by simp at hi; simp [hi])
  have k312 := k310.trans k1012
  have k1214 := pk k312 e13 e14
  have k314 := k312.trans k1214
  have b14 : h14.get h.next = some (.cells true [.slice q1.p q1.n q1.c, .slice q2.p q2.n q2.c, .int .i64 a2, .int .i64 a3] 27 1) := by rw [k314.get _ (by omega) (by simp)]; exact b3
  refine ⟨_, _, _, _, b14, (by decide : (1:Nat) ≤ 4), ?_⟩
  intro h19 e19 h20 e20 h21 e21
  have n14 : h.next + 14 ≤ h14.next := by have := k314.next; omega
  have k319 : Keep [h.next + 2, h.next + 6, h.next] h3 h19 := by
    rw [e19]; exact (k314.mono fun i hi _ => by simp at hi; rcases hi with h | h <;> simp [h]).set (by omega) (.inr (by simp)) _
  have pk2 : ∀ {ha hb hc : H}, Keep [h.next + 2, h.next + 6, h.next] h3 ha → hb = plug ha (h.next + 2) (.cells true [] 45 0) → hc = plug hb (h.next + 2 + 4) (.cells true [] 45 0) → Keep [h.next + 2, h.next + 6] ha hc := fun {ha hb hc} k eb ec => by
    have n0 : h.next + 14 ≤ ha.next := by have := k.next; omega
    have k1 : Keep [h.next + 2, h.next + 6] ha hb := by rw [eb]; exact (plug_keep k.top (by omega)).mono fun i hi _ => by simp at hi; simp [hi]
    have n1 : h.next + 14 ≤ hb.next := by have := k1.next; omega
    exact k1.trans (by rw [ec]; exact (plug_keep k1.top (by omega)).mono fun i hi _ => by simp at hi; simp [hi])
  have up : ∀ {ha hb : H}, Keep [h.next + 2, h.next + 6] ha hb → Keep [h.next + 2, h.next + 6, h.next] ha hb := fun k => k.mono fun i hi _ => by simp at hi; rcases hi with h | h <;> simp [h]
  have k1921 := pk2 k319 e20 e21
  have k321 := k319.trans (up k1921)
  have n19 : h.next + 14 ≤ h19.next := by have := k319.next; omega
  have b21 : h21.get h.next = some (.cells true [.slice p1.p p1.n p1.c, .slice q2.p q2.n q2.c, .int .i64 a2, .int .i64 a3] 27 1) := by
    rw [k1921.get _ (by omega) (by simp), e19]; exact H.get_set_same _ _ _
  refine ⟨_, _, _, _, b21, (by decide : (2:Nat) ≤ 4), ?_⟩
  intro h26 e26
  have n21 : h.next + 14 ≤ h21.next := by have := k321.next; omega
  refine ⟨?_, ?_⟩
  · refine same_cells (blk := .cells true [.slice q1.p q1.n q1.c, .slice q2.p q2.n q2.c, .int .i64 a2, .int .i64 a3] 27 1) ?_ ?_ rfl (by decide : (2:Nat) ≤ 4) rfl
    · rw [f2.get _ (by omega) (by simp), k35.get _ (by omega) (by simp)]; exact b3
    · rw [f2.get _ (by omega) (by simp), k35.get _ (by omega) (by simp)]
  intro h27 e27 h28 e28
  have k326 : Keep [h.next + 2, h.next + 6, h.next] h3 h26 := by rw [e26]; exact k321.set (by omega) (.inr (by simp)) _
  have k2628 := pk2 k326 e27 e28
  have k328 := k326.trans (up k2628)
  have n26 : h.next + 14 ≤ h26.next := by have := k326.next; omega
  have n28 : h.next + 14 ≤ h28.next := by have := k328.next; omega
  have b28 : h28.get h.next = some (.cells true [.slice p1.p p1.n p1.c, .slice p2.p p2.n p2.c, .int .i64 a2, .int .i64 a3] 27 1) := by
    rw [k2628.get _ (by omega) (by simp), e26]; exact H.get_set_same _ _ _
  refine ⟨p1, p2, a2, a3, blk_cells b28 rfl (show 0 + 4 ≤ 4 by decide), ?_⟩
  have c28 : h28.get h1.next = some (.cells true [.slice none 0 0, .slice none 0 0, .int .i64 0, .int .i64 0] 27 1) := by
    rw [n1, k328.get _ (by omega) (by simp)]; exact c3
  refine ⟨_, _, _, _, c28, (by decide : (4:Nat) ≤ 4), ?_⟩
  intro h37 e37
  have k0_37 : Keep [] h h37 := by
    rw [e37]
    exact (k03.from k328 (by simp)).set (by omega) (.inl (by omega)) _
  have b37 : h37.get h1.next = some (.cells true [.slice p1.p p1.n p1.c, .slice p2.p p2.n p2.c, .int .i64 a2, .int .i64 a3] 27 1) := by rw [e37]; exact H.get_set_same _ _ _
  -- on from the two appends
  have up2 : ∀ {ha hb : H} {L : List Nat}, Keep L ha hb → (∀ i ∈ L, i ∈ [h.next + 2, h.next + 6, h.next]) → Keep [h.next + 2, h.next + 6, h.next, h.next + 1] ha hb := fun k hL => k.mono fun i hi _ => by
    have := hL i hi
    simp at this
    rcases this with h | h | h <;> simp [h]
  have k12_37 : Keep [h.next + 2, h.next + 6, h.next, h.next + 1] h12 h37 := by
    have a1 : Keep [h.next + 2, h.next + 6, h.next, h.next + 1] h14 h19 := by rw [e19]; exact (Keep.refl k314.top _).set (by omega) (.inr (by simp)) _
    have a2 : Keep [h.next + 2, h.next + 6, h.next, h.next + 1] h21 h26 := by rw [e26]; exact (Keep.refl k321.top _).set (by omega) (.inr (by simp)) _
    have a3 : Keep [h.next + 2, h.next + 6, h.next, h.next + 1] h28 h37 := by rw [e37]; exact (Keep.refl k328.top _).set (by omega) (.inr (by simp [n1])) _
    exact ((((((up2 k1214 (by simp)).trans a1).trans (up2 k1921 (by simp))).trans a2).trans (up2 k2628 (by simp))).trans a3)
  have k7_37 : Keep [h.next + 2, h.next + 6, h.next, h.next + 1] h7 h37 := (((up2 k79 (by simp)).trans (up2 k910 (by simp))).trans (up2 k1012 (by simp))).trans k12_37
  have fin : ∀ {p : SV} {r : List (List Value)} {ha hb : H} {b c : Nat}, Sli ha p 4 r → p.p = some ⟨b, 0, none⟩ → (b = c ∧ r = [] ∨ hb.next ≤ b) → h.next + 14 ≤ hb.next → h.next ≤ c → Keep [h.next + 2, h.next + 6, h.next, h.next + 1] ha h37 → Sli h37 p 4 r ∧ ∃ b, p.p = some ⟨b, 0, none⟩ ∧ h.next ≤ b := fun {p r ha hb b c} s e hc hn hcn k => by
    rcases hc with ⟨rfl, rfl⟩ | hb'
    · exact ⟨⟨s.len, s.all, fun h => by simp at h⟩, b, e, hcn⟩
    · refine ⟨s.keep k fun b0 o e0 => ?_, b, e, by omega⟩
      rw [e] at e0
      cases e0
      simp
      omega
  have fA := fin f3 f4 f5 (by omega) (by omega) k7_37
  have fB := fin g3 g4 g5 (by omega) (by omega) k12_37
  exact ⟨p1, p2, a2, a3, blk_cells b37 rfl (show 0 + 4 ≤ 4 by decide), p1, p2, rfl, k0_37, fA.1, fB.1, fA.2, fB.2⟩

/-- **OwnEnds.** -/
theorem ctr18 {W : Rec} {nk : Nat → Bool} (hW : WOK PP (Tof PP) nk W) (hg : nk 18 = true) (e : Ends) (l1 : e.lead.length ≤ 80) (l2 : e.trail.length ≤ 80) : Ctr E W (.fn 18 [] []) [] [xEnds e] (xEnds e) [] [] := by
  intro h B ρ vf vs I _ df da
  obtain ⟨v, vs', rfl, dv, dn⟩ := da.uncons
  have : vs' = [] := by have := dn.1; cases vs' with | nil => rfl | cons => simp at this
  subst this
  cases df with
  | fn _ _ _ va vb ha hb _ _ =>
    have hva : va = [] := List.length_eq_zero_iff.1 ha.symm
    have hvb : vb = [] := List.length_eq_zero_iff.1 hb.symm
    subst hva hvb
    cases dv with
    | agg _ us hl hd =>
      obtain ⟨w1, u1, rfl, d1, du1⟩ := DL.uncons (E := E) (h := h) (O := OwnS B ρ (ecOf ([] : List (Ob TT))).env) (ρ := ρ) ⟨hl, hd⟩
      obtain ⟨w2, u2, rfl, d2, du2⟩ := du1.uncons
      obtain ⟨w3, u3, rfl, d3, du3⟩ := du2.uncons
      obtain ⟨w4, u4, rfl, d4, du4⟩ := du3.uncons
      have : u4 = [] := by have := du4.1; cases u4 with | nil => rfl | cons => simp at this
      subst this
      have e3 := v_D d3
      have e4 := v_D d4
      subst e3 e4
      obtain ⟨q1, r1, rfl, s1, rd1, m1, _, _⟩ := ro_rows encOK d1
      obtain ⟨q2, r2, rfl, s2, rd2, m2, _, _⟩ := ro_rows encOK d2
      obtain ⟨r, rc, h', g1, p1, p2, rfl, k, f1, f2, ⟨b1, c1, c2⟩, b2, c3, c4⟩ := own_gives hW hg I.top e.least e.most s1 s2 (rd1.one encOK) (rd2.one encOK) (by rw [rd1.len]; exact l1) (by rw [rd2.len]; exact l2)
      obtain ⟨I2, x2⟩ := I.yield (B2 := B) (h2 := h') (k := 0) (fin := false) k.top k.next (fun i hi _ => k.get i hi (by simp)) fun i hi => ⟨Nat.lt_of_lt_of_le (I.base i hi) k.next, fun _ => hi⟩
      have hO : ∀ b, OwnS B ρ (ecOf ([] : List (Ob TT))).env b → b < h.next := fun b hb => I.own_lt hb
      have mkro : ∀ {l : List (TT 45)} {p : SV} {rr : List (List Value)} {b : Nat}, RowsD E h (OwnS B ρ (ecOf ([] : List (Ob TT))).env) ρ 45 l rr → l.length ≤ maxLen → Sli h' p 4 rr → p.p = some ⟨b, 0, none⟩ → h.next ≤ b → D E h' (OwnS B ρ (ecOf ([] : List (Ob TT))).env) ρ (.ro 45 l) (.slice p.p p.n p.c) := fun {l p rr b} rd m s e1 hb => by
        refine D.ro (T := TT) (E := E) 45 l p rr s rd.len m (.inr ⟨b, 0, e1⟩) ?_ fun i a r hi hr j x w hx hw => ?_
        · intro b' o e2 _ hc
          rw [e1] at e2
          cases e2
          have := hO _ hc
          omega
        · exact ((rd.mv x2.mv).row i a r hi hr).2 j x w hx hw
      refine ⟨_, rc, h', ρ, g1, ⟨I2.top, fun id hid => I2.dom id (Nat.le_of_succ_le hid), Nat.succ_pos _, fun id q n hq => Nat.lt_succ_of_lt (I2.vers id q n hq), I2.base, I2.notB, I2.dist, fun id s o hf => ?_, I2.glob⟩, ?_, k.next, fun b hb _ => k.get b hb (by simp), fun b _ hb => hb, fun k q m hk => absurd hk (Nat.not_lt_zero _)⟩
      · cases hf
      · refine .agg _ _ rfl ?_
        exact (DL.cons (mkro rd1 m1 f1 c1 c2) (DL.cons (mkro rd2 m2 f2 c3 c4) (DL.cons (.v _) (DL.cons (.v _) .nil)))).2

end Go.Proofs.YtcajalekkffcjaaDoor
