/- What is to be shown of the functions that EndsTwo reaches, and that it holds. -/
import Derived.Test.YtcajalekkffcjaaDoorOwn
import Derived.Test.YtcajalekkffcjaaDoorXB
namespace Go.Proofs.YtcajalekkffcjaaDoor
open Go Go.Ev

/- f_ends_Check -/
def V15 (_W : Rec) (a : Ends) (r : Int) : Prop :=
 brP (a.least < (0 : Int))
 ((2 : Int) = r)
 (brP (a.most = (-1 : Int))
 (∀ x0 : Int, x0 = ((a.lead.length : Nat) : Int) → x0 ≤ 9223372036854775807 →
 ∀ x1 : Int, x1 = ((a.trail.length : Nat) : Int) → x1 ≤ 9223372036854775807 →
 ∃ I2 : Int → Prop,
 ∃ I3 : Int → Nat,
 (I2 (0 : Int)) ∧
 ∀ x4 : Int,
 I2 x4 →
 brP (x4 < (2 : Int))
 (((0 : Int) ≤ x4) ∧
 (x4 < (↑(2 : Nat) : Int)) ∧
 ∀ x5 : Int, x5 = [x0, x1].getD x4.toNat (0 : Int) →
 brP ((64 : Int) < x5)
 ((4 : Int) = r)
 (brP (a.least < x5)
 ((4 : Int) = r)
 (∀ x6 : Int, x6 = Go.IntKind.i64.wrap (x4 + (1 : Int)) →
 (I2 x6) ∧
 I3 x6 < I3 x4)))
 ((0 : Int) = r))
 (brP (a.most < a.least)
 ((2 : Int) = r)
 (∀ x7 : Int, x7 = ((a.lead.length : Nat) : Int) → x7 ≤ 9223372036854775807 →
 ∀ x8 : Int, x8 = ((a.trail.length : Nat) : Int) → x8 ≤ 9223372036854775807 →
 ∃ I9 : Int → Prop,
 ∃ I10 : Int → Nat,
 (I9 (0 : Int)) ∧
 ∀ x11 : Int,
 I9 x11 →
 brP (x11 < (2 : Int))
 (((0 : Int) ≤ x11) ∧
 (x11 < (↑(2 : Nat) : Int)) ∧
 ∀ x12 : Int, x12 = [x7, x8].getD x11.toNat (0 : Int) →
 brP ((64 : Int) < x12)
 ((4 : Int) = r)
 (brP (a.least < x12)
 ((4 : Int) = r)
 (∀ x13 : Int, x13 = Go.IntKind.i64.wrap (x11 + (1 : Int)) →
 (I9 x13) ∧
 I10 x13 < I10 x11)))
 ((0 : Int) = r))))
set_option maxRecDepth 100000 in
theorem v15 (W : Rec) (a : Ends) (r : Int) : xFn PP E W Γ15 (Tof PP) f_ends_Check (in15 a).env ((in15 a).fst ++ ((in15 a).args ++ (in15 a).cap)) ((Γ15.sig f_ends_Check).res r) ((Γ15.sig f_ends_Check).out r) ((Γ15.sig f_ends_Check).new r) = V15 W a r := by kernel_rfl

/- f_waypostref23_Check -/
def V16 (_W : Rec) (a : Ends) (r : Int) : Prop :=
 brP (a.least < (0 : Int))
 ((2 : Int) = r)
 (brP (a.most < (-1 : Int))
 ((2 : Int) = r)
 (brP ((0 : Int) ≤ a.most)
 (brP (a.most < a.least)
 ((2 : Int) = r)
 (∀ x0 : Int, x0 = ((a.lead.length : Nat) : Int) → x0 ≤ 9223372036854775807 →
 brP ((64 : Int) < x0)
 ((4 : Int) = r)
 (∀ x1 : Int, x1 = ((a.trail.length : Nat) : Int) → x1 ≤ 9223372036854775807 →
 brP ((64 : Int) < x1)
 ((4 : Int) = r)
 (∀ x2 : Int, x2 = ((a.lead.length : Nat) : Int) → x2 ≤ 9223372036854775807 →
 brP (a.least < x2)
 ((4 : Int) = r)
 (∀ x3 : Int, x3 = ((a.trail.length : Nat) : Int) → x3 ≤ 9223372036854775807 →
 brP (a.least < x3)
 ((4 : Int) = r)
 ((0 : Int) = r))))))
 (∀ x4 : Int, x4 = ((a.lead.length : Nat) : Int) → x4 ≤ 9223372036854775807 →
 brP ((64 : Int) < x4)
 ((4 : Int) = r)
 (∀ x5 : Int, x5 = ((a.trail.length : Nat) : Int) → x5 ≤ 9223372036854775807 →
 brP ((64 : Int) < x5)
 ((4 : Int) = r)
 (∀ x6 : Int, x6 = ((a.lead.length : Nat) : Int) → x6 ≤ 9223372036854775807 →
 brP (a.least < x6)
 ((4 : Int) = r)
 (∀ x7 : Int, x7 = ((a.trail.length : Nat) : Int) → x7 ≤ 9223372036854775807 →
 brP (a.least < x7)
 ((4 : Int) = r)
 ((0 : Int) = r)))))))
set_option maxRecDepth 100000 in
theorem v16 (W : Rec) (a : Ends) (r : Int) : xFn PP E W Γ16 (Tof PP) f_waypostref23_Check (in16 a).env ((in16 a).fst ++ ((in16 a).args ++ (in16 a).cap)) ((Γ16.sig f_waypostref23_Check).res r) ((Γ16.sig f_waypostref23_Check).out r) ((Γ16.sig f_waypostref23_Check).new r) = V16 W a r := by kernel_rfl

/- f_ends_Both -/
def V17 (W : Rec) (a : Ends) (b : Ends) (r : (Bool × Int)) : Prop :=
 ∃ I0 : Int → Prop,
 ∃ I1 : Int → Nat,
 (I0 (0 : Int)) ∧
 ∀ x2 : Int,
 I0 x2 →
 brP (x2 < (2 : Int))
 (((0 : Int) ≤ x2) ∧
 (x2 < (↑(2 : Nat) : Int)) ∧
 (x2 = (↑(0 : Nat) : Int) →
 ∃ x3 : Int,
 (Ctr E W (.fn f_ends_Check [] []) [] [.agg [.ro 45 a.lead, .ro 45 a.trail, .v (.int .i64 a.least), .v (.int .i64 a.most)]] (.v (.int .i64 x3)) [] []) ∧
 brP (x3 = (0 : Int))
 (∀ x4 : Int, x4 = Go.IntKind.i64.wrap (x2 + (1 : Int)) →
 (I0 x4) ∧
 I1 x4 < I1 x2)
 ((false = r.fst) ∧
 x3 = r.snd)) ∧
 (x2 = (↑((0 : Nat) + (1 : Nat)) : Int) →
 ∃ x5 : Int,
 (Ctr E W (.fn f_ends_Check [] []) [] [.agg [.ro 45 b.lead, .ro 45 b.trail, .v (.int .i64 b.least), .v (.int .i64 b.most)]] (.v (.int .i64 x5)) [] []) ∧
 brP (x5 = (0 : Int))
 (∀ x6 : Int, x6 = Go.IntKind.i64.wrap (x2 + (1 : Int)) →
 (I0 x6) ∧
 I1 x6 < I1 x2)
 ((false = r.fst) ∧
 x5 = r.snd)) ∧
 True)
 (∃ r7 : (Int × Int),
 (Ctr E W (.fn f_ends_lengthsOf [] []) [] [.agg [.ro 45 a.lead, .ro 45 a.trail, .v (.int .i64 a.least), .v (.int .i64 a.most)]] (.agg [.v (.int .i64 r7.fst), .v (.int .i64 r7.snd)]) [] []) ∧
 ∃ r8 : (Int × Int),
 (Ctr E W (.fn f_ends_lengthsOf [] []) [] [.agg [.ro 45 b.lead, .ro 45 b.trail, .v (.int .i64 b.least), .v (.int .i64 b.most)]] (.agg [.v (.int .i64 r8.fst), .v (.int .i64 r8.snd)]) [] []) ∧
 ∃ b9 : Bool,
 (Ctr E W (.fn f__ends_interval__meets [] []) [] [.agg [.v (.int .i64 r7.fst), .v (.int .i64 r7.snd)], .agg [.v (.int .i64 r8.fst), .v (.int .i64 r8.snd)]] (.v (.bool b9)) [] []) ∧
 brB b9
 (∃ b10 : Bool,
 (Ctr E W (.fn f_ends_along_api_Set_api_Set_ [] []) [] [.ro 45 a.lead, .ro 45 b.lead, .fn f_ends_common [] []] (.v (.bool b10)) [] []) ∧
 brB b10
 (∃ b11 : Bool,
 (Ctr E W (.fn f_ends_along_api_Set_api_Set_ [] []) [] [.ro 45 a.trail, .ro 45 b.trail, .fn f_ends_common [] []] (.v (.bool b11)) [] []) ∧
 brB b11
 ((True) ∧
 (true = r.fst) ∧
 (0 : Int) = r.snd)
 ((True) ∧
 (false = r.fst) ∧
 (0 : Int) = r.snd))
 ((True) ∧
 (false = r.fst) ∧
 (0 : Int) = r.snd))
 ((True) ∧
 (false = r.fst) ∧
 (0 : Int) = r.snd))
set_option maxRecDepth 100000 in
theorem v17 (W : Rec) (a : Ends) (b : Ends) (r : (Bool × Int)) : xFn PP E W Γ17 (Tof PP) f_ends_Both (in17 a b).env ((in17 a b).fst ++ ((in17 a b).args ++ (in17 a b).cap)) ((Γ17.sig f_ends_Both).res r) ((Γ17.sig f_ends_Both).out r) ((Γ17.sig f_ends_Both).new r) = V17 W a b r := by kernel_rfl

/- f_waypostref23_Both -/
def V19 (W : Rec) (a : Ends) (b : Ends) (r : (Bool × Int)) : Prop :=
 ∃ x0 : Int,
 (Ctr E W (.fn f_waypostref23_Check [] []) [] [.agg [.ro 45 a.lead, .ro 45 a.trail, .v (.int .i64 a.least), .v (.int .i64 a.most)]] (.v (.int .i64 x0)) [] []) ∧
 brP (x0 = (0 : Int))
 (∃ x1 : Int,
 (Ctr E W (.fn f_waypostref23_Check [] []) [] [.agg [.ro 45 b.lead, .ro 45 b.trail, .v (.int .i64 b.least), .v (.int .i64 b.most)]] (.v (.int .i64 x1)) [] []) ∧
 brP (x1 = (0 : Int))
 (∃ b2 : Bool,
 (Ctr E W (.fn f_waypostref23_common [] []) [] [.ro 45 a.lead, .ro 45 b.lead] (.v (.bool b2)) [] []) ∧
 brB b2
 (∃ b3 : Bool,
 (Ctr E W (.fn f_waypostref23_common [] []) [] [.ro 45 a.trail, .ro 45 b.trail] (.v (.bool b3)) [] []) ∧
 brB b3
 (brP (a.most < (0 : Int))
 (brP (b.most < (0 : Int))
 ((true = r.fst) ∧
 (0 : Int) = r.snd)
 (brP (a.least ≤ b.most)
 ((true = r.fst) ∧
 (0 : Int) = r.snd)
 ((false = r.fst) ∧
 (0 : Int) = r.snd)))
 (brP (b.least ≤ a.most)
 (brP (b.most < (0 : Int))
 ((true = r.fst) ∧
 (0 : Int) = r.snd)
 (brP (a.least ≤ b.most)
 ((true = r.fst) ∧
 (0 : Int) = r.snd)
 ((false = r.fst) ∧
 (0 : Int) = r.snd)))
 ((false = r.fst) ∧
 (0 : Int) = r.snd)))
 ((false = r.fst) ∧
 (0 : Int) = r.snd))
 ((false = r.fst) ∧
 (0 : Int) = r.snd))
 ((false = r.fst) ∧
 x1 = r.snd))
 (brP (x0 = (0 : Int))
 (∃ b4 : Bool,
 (Ctr E W (.fn f_waypostref23_common [] []) [] [.ro 45 a.lead, .ro 45 b.lead] (.v (.bool b4)) [] []) ∧
 brB b4
 (∃ b5 : Bool,
 (Ctr E W (.fn f_waypostref23_common [] []) [] [.ro 45 a.trail, .ro 45 b.trail] (.v (.bool b5)) [] []) ∧
 brB b5
 (brP (a.most < (0 : Int))
 (brP (b.most < (0 : Int))
 ((true = r.fst) ∧
 (0 : Int) = r.snd)
 (brP (a.least ≤ b.most)
 ((true = r.fst) ∧
 (0 : Int) = r.snd)
 ((false = r.fst) ∧
 (0 : Int) = r.snd)))
 (brP (b.least ≤ a.most)
 (brP (b.most < (0 : Int))
 ((true = r.fst) ∧
 (0 : Int) = r.snd)
 (brP (a.least ≤ b.most)
 ((true = r.fst) ∧
 (0 : Int) = r.snd)
 ((false = r.fst) ∧
 (0 : Int) = r.snd)))
 ((false = r.fst) ∧
 (0 : Int) = r.snd)))
 ((false = r.fst) ∧
 (0 : Int) = r.snd))
 ((false = r.fst) ∧
 (0 : Int) = r.snd))
 ((false = r.fst) ∧
 x0 = r.snd))
set_option maxRecDepth 100000 in
theorem v19 (W : Rec) (a : Ends) (b : Ends) (r : (Bool × Int)) : xFn PP E W Γ19 (Tof PP) f_waypostref23_Both (in19 a b).env ((in19 a b).fst ++ ((in19 a b).args ++ (in19 a b).cap)) ((Γ19.sig f_waypostref23_Both).res r) ((Γ19.sig f_waypostref23_Both).out r) ((Γ19.sig f_waypostref23_Both).new r) = V19 W a b r := by kernel_rfl

/- f_ends_lengthsOf -/
def V51 (_W : Rec) (a : Ends) (r : (Int × Int)) : Prop :=
 (a.least = r.fst) ∧
 a.most = r.snd
set_option maxRecDepth 100000 in
theorem v51 (W : Rec) (a : Ends) (r : (Int × Int)) : xFn PP E W Γ51 (Tof PP) f_ends_lengthsOf (in51 a).env ((in51 a).fst ++ ((in51 a).args ++ (in51 a).cap)) ((Γ51.sig f_ends_lengthsOf).res r) ((Γ51.sig f_ends_lengthsOf).out r) ((Γ51.sig f_ends_lengthsOf).new r) = V51 W a r := by kernel_rfl

/- f__ends_interval__meets -/
def V52 (_W : Rec) (a : (Int × Int)) (b : (Int × Int)) (r : Bool) : Prop :=
 brP (a.snd = (-1 : Int))
 (brP (b.snd = (-1 : Int))
 (true = r)
 (brP (a.fst ≤ b.snd)
 (true = r)
 (false = r)))
 (brP (b.fst ≤ a.snd)
 (brP (b.snd = (-1 : Int))
 (true = r)
 (brP (a.fst ≤ b.snd)
 (true = r)
 (false = r)))
 (false = r))
set_option maxRecDepth 100000 in
theorem v52 (W : Rec) (a : (Int × Int)) (b : (Int × Int)) (r : Bool) : xFn PP E W Γ52 (Tof PP) f__ends_interval__meets (in52 a b).env ((in52 a b).fst ++ ((in52 a b).args ++ (in52 a b).cap)) ((Γ52.sig f__ends_interval__meets).res r) ((Γ52.sig f__ends_interval__meets).out r) ((Γ52.sig f__ends_interval__meets).new r) = V52 W a b r := by kernel_rfl

/- f_ends_along_api_Set_api_Set_ -/
def V53 (W : Rec) (a : List Set4) (b : List Set4) (r : Bool) : Prop :=
 ∀ x0 : Int, x0 = ((a.length : Nat) : Int) → x0 ≤ 9223372036854775807 →
 ∀ x1 : Int, x1 = ((b.length : Nat) : Int) → x1 ≤ 9223372036854775807 →
 ∀ x2 : Int, x2 = Go.Ev.minI x0 x1 →
 ∃ I3 : Int → Prop,
 ∃ I4 : Int → Nat,
 (I3 (0 : Int)) ∧
 ∀ x5 : Int,
 I3 x5 →
 brP (x5 < x2)
 (((0 : Int) ≤ x5) ∧
 (x5 < (↑a.length : Int)) ∧
 ∀ r6 : Set4,
 a[x5.toNat]? = some r6 →
 ((0 : Int) ≤ x5) ∧
 (x5 < (↑b.length : Int)) ∧
 ∀ r7 : Set4,
 b[x5.toNat]? = some r7 →
 ∃ b8 : Bool,
 (Ctr E W (.fn f_ends_common [] []) [] [.agg [.v (.int .u64 r6.a), .v (.int .u64 r6.b), .v (.int .u64 r6.c), .v (.int .u64 r6.d)], .agg [.v (.int .u64 r7.a), .v (.int .u64 r7.b), .v (.int .u64 r7.c), .v (.int .u64 r7.d)]] (.v (.bool b8)) [] []) ∧
 brB b8
 (∀ x9 : Int, x9 = Go.IntKind.i64.wrap (x5 + (1 : Int)) →
 (I3 x9) ∧
 I4 x9 < I4 x5)
 (false = r))
 (true = r)
set_option maxRecDepth 100000 in
theorem v53 (W : Rec) (a : List Set4) (b : List Set4) (r : Bool) : xFn PP E W Γ53 (Tof PP) f_ends_along_api_Set_api_Set_ (in53 a b).env ((in53 a b).fst ++ ((in53 a b).args ++ (in53 a b).cap)) ((Γ53.sig f_ends_along_api_Set_api_Set_).res r) ((Γ53.sig f_ends_along_api_Set_api_Set_).out r) ((Γ53.sig f_ends_along_api_Set_api_Set_).new r) = V53 W a b r := by kernel_rfl

/- f_ends_common -/
def V54 (W : Rec) (a : Set4) (b : Set4) (r : Bool) : Prop :=
 appOk ((2 : Nat)) 1
 (∃ r0 : Set4,
 (Ctr E W (.fn f_byteset_Common [] []) [] [.ro 45 [Go.Proofs.YtcajalekkffcjaaDoor.Set4.mk a.a a.b a.c a.d, Go.Proofs.YtcajalekkffcjaaDoor.Set4.mk b.a b.b b.c b.d]] (.agg [.v (.int .u64 r0.a), .v (.int .u64 r0.b), .v (.int .u64 r0.c), .v (.int .u64 r0.d)]) [] []) ∧
 brP ((([.int .u64 r0.a, .int .u64 r0.b, .int .u64 r0.c, .int .u64 r0.d] : List Value) = [.int .u64 ((0 : Int)), .int .u64 ((0 : Int)), .int .u64 ((0 : Int)), .int .u64 ((0 : Int))]))
 (false = r)
 (true = r))
set_option maxRecDepth 100000 in
theorem v54 (W : Rec) (a : Set4) (b : Set4) (r : Bool) : xFn PP E W Γ54 (Tof PP) f_ends_common (in54 a b).env ((in54 a b).fst ++ ((in54 a b).args ++ (in54 a b).cap)) ((Γ54.sig f_ends_common).res r) ((Γ54.sig f_ends_common).out r) ((Γ54.sig f_ends_common).new r) = V54 W a b r := by kernel_rfl

/- f_waypostref23_common -/
def V55 (W : Rec) (a : List Set4) (b : List Set4) (r : Bool) : Prop :=
 ∃ I0 : Int → Prop,
 ∃ I1 : Int → Nat,
 (I0 (0 : Int)) ∧
 ∀ x2 : Int,
 I0 x2 →
 ∀ x3 : Int, x3 = ((a.length : Nat) : Int) → x3 ≤ 9223372036854775807 →
 brP (x2 < x3)
 (∀ x4 : Int, x4 = ((b.length : Nat) : Int) → x4 ≤ 9223372036854775807 →
 brP (x2 < x4)
 (((0 : Int) ≤ x2) ∧
 (x2 < (↑a.length : Int)) ∧
 ∀ r5 : Set4,
 a[x2.toNat]? = some r5 →
 ((0 : Int) ≤ x2) ∧
 (x2 < (↑b.length : Int)) ∧
 ∀ r6 : Set4,
 b[x2.toNat]? = some r6 →
 appOk ((2 : Nat)) 1
 (∃ r7 : Set4,
 (Ctr E W (.fn f_waypostref01_Common [] []) [] [.ro 45 [Go.Proofs.YtcajalekkffcjaaDoor.Set4.mk r5.a r5.b r5.c r5.d, Go.Proofs.YtcajalekkffcjaaDoor.Set4.mk r6.a r6.b r6.c r6.d]] (.agg [.v (.int .u64 r7.a), .v (.int .u64 r7.b), .v (.int .u64 r7.c), .v (.int .u64 r7.d)]) [] []) ∧
 brP ((([.int .u64 r7.a, .int .u64 r7.b, .int .u64 r7.c, .int .u64 r7.d] : List Value) = [.int .u64 ((0 : Int)), .int .u64 ((0 : Int)), .int .u64 ((0 : Int)), .int .u64 ((0 : Int))]))
 (false = r)
 (∀ x8 : Int, x8 = Go.IntKind.i64.wrap (x2 + (1 : Int)) →
 (I0 x8) ∧
 I1 x8 < I1 x2)))
 (true = r))
 (true = r)
set_option maxRecDepth 100000 in
theorem v55 (W : Rec) (a : List Set4) (b : List Set4) (r : Bool) : xFn PP E W Γ55 (Tof PP) f_waypostref23_common (in55 a b).env ((in55 a b).fst ++ ((in55 a b).args ++ (in55 a b).cap)) ((Γ55.sig f_waypostref23_common).res r) ((Γ55.sig f_waypostref23_common).out r) ((Γ55.sig f_waypostref23_common).new r) = V55 W a b r := by kernel_rfl

/- f_byteset_Common -/
def V78 (W : Rec) (a : List Set4) (r : Set4) : Prop :=
 ∃ r0 : Set4,
 (Ctr E W (.fn f_byteset_Not [] []) [] [.agg [.v (.int .u64 ((0 : Int))), .v (.int .u64 ((0 : Int))), .v (.int .u64 ((0 : Int))), .v (.int .u64 ((0 : Int)))]] (.agg [.v (.int .u64 r0.a), .v (.int .u64 r0.b), .v (.int .u64 r0.c), .v (.int .u64 r0.d)]) [] []) ∧
 ∀ x1 : Int, x1 = ((a.length : Nat) : Int) → x1 ≤ 9223372036854775807 →
 ∃ I2 : Int → Int → Int → Int → Int → Prop,
 ∃ I3 : Int → Int → Int → Int → Int → Nat,
 (I2 (0 : Int) r0.a r0.b r0.c r0.d) ∧
 ∀ x4 : Int,
 ∀ x5 : Int,
 ∀ x6 : Int,
 ∀ x7 : Int,
 ∀ x8 : Int,
 I2 x4 x5 x6 x7 x8 →
 brP (x4 < x1)
 (((0 : Int) ≤ x4) ∧
 (x4 < (↑a.length : Int)) ∧
 ∀ r9 : Set4,
 a[x4.toNat]? = some r9 →
 ∃ I10 : Int → Int → Int → Int → Int → Prop,
 ∃ I11 : Int → Int → Int → Int → Int → Nat,
 (I10 (0 : Int) x5 x6 x7 x8) ∧
 ∀ x12 : Int,
 ∀ x13 : Int,
 ∀ x14 : Int,
 ∀ x15 : Int,
 ∀ x16 : Int,
 I10 x12 x13 x14 x15 x16 →
 brP (x12 < (4 : Int))
 (((0 : Int) ≤ x12) ∧
 (x12 < (↑(4 : Nat) : Int)) ∧
 ∀ x17 : Int, x17 = [x13, x14, x15, x16].getD x12.toNat (0 : Int) →
 ((0 : Int) ≤ x12) ∧
 (x12 < (↑(4 : Nat) : Int)) ∧
 ∀ x18 : Int, x18 = [r9.a, r9.b, r9.c, r9.d].getD x12.toNat (0 : Int) →
 ∀ x19 : Int, x19 = Go.Ev.bAnd Go.IntKind.u64 x17 x18 →
 ((0 : Int) ≤ x12) ∧
 (x12 < (↑(4 : Nat) : Int)) ∧
 ∀ x20 : Int, x20 = Go.Ev.pickI x12 (0 : Nat) x19 x13 →
 ∀ x21 : Int, x21 = Go.Ev.pickI x12 ((0 : Nat) + (1 : Nat)) x19 x14 →
 ∀ x22 : Int, x22 = Go.Ev.pickI x12 ((0 : Nat) + (1 : Nat) + (1 : Nat)) x19 x15 →
 ∀ x23 : Int, x23 = Go.Ev.pickI x12 ((0 : Nat) + (1 : Nat) + (1 : Nat) + (1 : Nat)) x19 x16 →
 ∀ x24 : Int, x24 = Go.IntKind.i64.wrap (x12 + (1 : Int)) →
 (I10 x24 x20 x21 x22 x23) ∧
 I11 x24 x20 x21 x22 x23 < I11 x12 x13 x14 x15 x16)
 (∀ x25 : Int, x25 = Go.IntKind.i64.wrap (x4 + (1 : Int)) →
 (I2 x25 x13 x14 x15 x16) ∧
 I3 x25 x13 x14 x15 x16 < I3 x4 x5 x6 x7 x8))
 ((x5 = r.a) ∧
 (x6 = r.b) ∧
 (x7 = r.c) ∧
 x8 = r.d)
set_option maxRecDepth 100000 in
theorem v78 (W : Rec) (a : List Set4) (r : Set4) : xFn PP E W Γ78 (Tof PP) f_byteset_Common (in78 a).env ((in78 a).fst ++ ((in78 a).args ++ (in78 a).cap)) ((Γ78.sig f_byteset_Common).res r) ((Γ78.sig f_byteset_Common).out r) ((Γ78.sig f_byteset_Common).new r) = V78 W a r := by kernel_rfl

/- f_waypostref01_Common -/
def V79 (W : Rec) (a : List Set4) (r : Set4) : Prop :=
 ∃ r0 : Set4,
 (Ctr E W (.fn f_waypostref01_Not [] []) [] [.agg [.v (.int .u64 ((0 : Int))), .v (.int .u64 ((0 : Int))), .v (.int .u64 ((0 : Int))), .v (.int .u64 ((0 : Int)))]] (.agg [.v (.int .u64 r0.a), .v (.int .u64 r0.b), .v (.int .u64 r0.c), .v (.int .u64 r0.d)]) [] []) ∧
 ∃ I1 : Int → Int → Int → Int → Int → Prop,
 ∃ I2 : Int → Int → Int → Int → Int → Nat,
 (I1 (0 : Int) r0.a r0.b r0.c r0.d) ∧
 ∀ x3 : Int,
 ∀ x4 : Int,
 ∀ x5 : Int,
 ∀ x6 : Int,
 ∀ x7 : Int,
 I1 x3 x4 x5 x6 x7 →
 ∀ x8 : Int, x8 = ((a.length : Nat) : Int) → x8 ≤ 9223372036854775807 →
 brP (x3 < x8)
 (∃ I9 : Int → Int → Int → Int → Int → Prop,
 ∃ I10 : Int → Int → Int → Int → Int → Nat,
 (I9 (0 : Int) x4 x5 x6 x7) ∧
 ∀ x11 : Int,
 ∀ x12 : Int,
 ∀ x13 : Int,
 ∀ x14 : Int,
 ∀ x15 : Int,
 I9 x11 x12 x13 x14 x15 →
 brP (x11 < (4 : Int))
 (((0 : Int) ≤ x11) ∧
 (x11 < (↑(4 : Nat) : Int)) ∧
 ∀ x16 : Int, x16 = [x12, x13, x14, x15].getD x11.toNat (0 : Int) →
 ((0 : Int) ≤ x3) ∧
 (x3 < (↑a.length : Int)) ∧
 ∀ r17 : Set4,
 a[x3.toNat]? = some r17 →
 ((0 : Int) ≤ x11) ∧
 (x11 < (↑(4 : Nat) : Int)) ∧
 (x11 = (↑(0 : Nat) : Int) →
 ∀ x18 : Int, x18 = Go.Ev.bAnd Go.IntKind.u64 x16 r17.a →
 ((0 : Int) ≤ x11) ∧
 (x11 < (↑(4 : Nat) : Int)) ∧
 ∀ x19 : Int, x19 = Go.Ev.pickI x11 (0 : Nat) x18 x12 →
 ∀ x20 : Int, x20 = Go.Ev.pickI x11 ((0 : Nat) + (1 : Nat)) x18 x13 →
 ∀ x21 : Int, x21 = Go.Ev.pickI x11 ((0 : Nat) + (1 : Nat) + (1 : Nat)) x18 x14 →
 ∀ x22 : Int, x22 = Go.Ev.pickI x11 ((0 : Nat) + (1 : Nat) + (1 : Nat) + (1 : Nat)) x18 x15 →
 ∀ x23 : Int, x23 = Go.IntKind.i64.wrap (x11 + (1 : Int)) →
 (I9 x23 x19 x20 x21 x22) ∧
 I10 x23 x19 x20 x21 x22 < I10 x11 x12 x13 x14 x15) ∧
 (x11 = (↑((0 : Nat) + (1 : Nat)) : Int) →
 ∀ x24 : Int, x24 = Go.Ev.bAnd Go.IntKind.u64 x16 r17.b →
 ((0 : Int) ≤ x11) ∧
 (x11 < (↑(4 : Nat) : Int)) ∧
 ∀ x25 : Int, x25 = Go.Ev.pickI x11 (0 : Nat) x24 x12 →
 ∀ x26 : Int, x26 = Go.Ev.pickI x11 ((0 : Nat) + (1 : Nat)) x24 x13 →
 ∀ x27 : Int, x27 = Go.Ev.pickI x11 ((0 : Nat) + (1 : Nat) + (1 : Nat)) x24 x14 →
 ∀ x28 : Int, x28 = Go.Ev.pickI x11 ((0 : Nat) + (1 : Nat) + (1 : Nat) + (1 : Nat)) x24 x15 →
 ∀ x29 : Int, x29 = Go.IntKind.i64.wrap (x11 + (1 : Int)) →
 (I9 x29 x25 x26 x27 x28) ∧
 I10 x29 x25 x26 x27 x28 < I10 x11 x12 x13 x14 x15) ∧
 (x11 = (↑((0 : Nat) + (1 : Nat) + (1 : Nat)) : Int) →
 ∀ x30 : Int, x30 = Go.Ev.bAnd Go.IntKind.u64 x16 r17.c →
 ((0 : Int) ≤ x11) ∧
 (x11 < (↑(4 : Nat) : Int)) ∧
 ∀ x31 : Int, x31 = Go.Ev.pickI x11 (0 : Nat) x30 x12 →
 ∀ x32 : Int, x32 = Go.Ev.pickI x11 ((0 : Nat) + (1 : Nat)) x30 x13 →
 ∀ x33 : Int, x33 = Go.Ev.pickI x11 ((0 : Nat) + (1 : Nat) + (1 : Nat)) x30 x14 →
 ∀ x34 : Int, x34 = Go.Ev.pickI x11 ((0 : Nat) + (1 : Nat) + (1 : Nat) + (1 : Nat)) x30 x15 →
 ∀ x35 : Int, x35 = Go.IntKind.i64.wrap (x11 + (1 : Int)) →
 (I9 x35 x31 x32 x33 x34) ∧
 I10 x35 x31 x32 x33 x34 < I10 x11 x12 x13 x14 x15) ∧
 (x11 = (↑((0 : Nat) + (1 : Nat) + (1 : Nat) + (1 : Nat)) : Int) →
 ∀ x36 : Int, x36 = Go.Ev.bAnd Go.IntKind.u64 x16 r17.d →
 ((0 : Int) ≤ x11) ∧
 (x11 < (↑(4 : Nat) : Int)) ∧
 ∀ x37 : Int, x37 = Go.Ev.pickI x11 (0 : Nat) x36 x12 →
 ∀ x38 : Int, x38 = Go.Ev.pickI x11 ((0 : Nat) + (1 : Nat)) x36 x13 →
 ∀ x39 : Int, x39 = Go.Ev.pickI x11 ((0 : Nat) + (1 : Nat) + (1 : Nat)) x36 x14 →
 ∀ x40 : Int, x40 = Go.Ev.pickI x11 ((0 : Nat) + (1 : Nat) + (1 : Nat) + (1 : Nat)) x36 x15 →
 ∀ x41 : Int, x41 = Go.IntKind.i64.wrap (x11 + (1 : Int)) →
 (I9 x41 x37 x38 x39 x40) ∧
 I10 x41 x37 x38 x39 x40 < I10 x11 x12 x13 x14 x15) ∧
 True)
 (∀ x42 : Int, x42 = Go.IntKind.i64.wrap (x3 + (1 : Int)) →
 (I1 x42 x12 x13 x14 x15) ∧
 I2 x42 x12 x13 x14 x15 < I2 x3 x4 x5 x6 x7))
 ((x4 = r.a) ∧
 (x5 = r.b) ∧
 (x6 = r.c) ∧
 x7 = r.d)
set_option maxRecDepth 100000 in
theorem v79 (W : Rec) (a : List Set4) (r : Set4) : xFn PP E W Γ79 (Tof PP) f_waypostref01_Common (in79 a).env ((in79 a).fst ++ ((in79 a).args ++ (in79 a).cap)) ((Γ79.sig f_waypostref01_Common).res r) ((Γ79.sig f_waypostref01_Common).out r) ((Γ79.sig f_waypostref01_Common).new r) = V79 W a r := by kernel_rfl

/- f_byteset_Not -/
def V101 (_W : Rec) (a : Set4) (r : Set4) : Prop :=
 ∃ I0 : Int → Int → Int → Int → Int → Prop,
 ∃ I1 : Int → Int → Int → Int → Int → Nat,
 (I0 (0 : Int) a.a a.b a.c a.d) ∧
 ∀ x2 : Int,
 ∀ x3 : Int,
 ∀ x4 : Int,
 ∀ x5 : Int,
 ∀ x6 : Int,
 I0 x2 x3 x4 x5 x6 →
 brP (x2 < (4 : Int))
 (((0 : Int) ≤ x2) ∧
 (x2 < (↑(4 : Nat) : Int)) ∧
 ∀ x7 : Int, x7 = [x3, x4, x5, x6].getD x2.toNat (0 : Int) →
 ∀ x8 : Int, x8 = Go.Ev.bXor Go.IntKind.u64 (if Go.IntKind.u64.signed = true then (-1 : Int) else Go.IntKind.u64.max) x7 →
 ((0 : Int) ≤ x2) ∧
 (x2 < (↑(4 : Nat) : Int)) ∧
 ∀ x9 : Int, x9 = Go.Ev.pickI x2 (0 : Nat) x8 x3 →
 ∀ x10 : Int, x10 = Go.Ev.pickI x2 ((0 : Nat) + (1 : Nat)) x8 x4 →
 ∀ x11 : Int, x11 = Go.Ev.pickI x2 ((0 : Nat) + (1 : Nat) + (1 : Nat)) x8 x5 →
 ∀ x12 : Int, x12 = Go.Ev.pickI x2 ((0 : Nat) + (1 : Nat) + (1 : Nat) + (1 : Nat)) x8 x6 →
 ∀ x13 : Int, x13 = Go.IntKind.i64.wrap (x2 + (1 : Int)) →
 (I0 x13 x9 x10 x11 x12) ∧
 I1 x13 x9 x10 x11 x12 < I1 x2 x3 x4 x5 x6)
 ((x3 = r.a) ∧
 (x4 = r.b) ∧
 (x5 = r.c) ∧
 x6 = r.d)
set_option maxRecDepth 100000 in
theorem v101 (W : Rec) (a : Set4) (r : Set4) : xFn PP E W Γ101 (Tof PP) f_byteset_Not (in101 a).env ((in101 a).fst ++ ((in101 a).args ++ (in101 a).cap)) ((Γ101.sig f_byteset_Not).res r) ((Γ101.sig f_byteset_Not).out r) ((Γ101.sig f_byteset_Not).new r) = V101 W a r := by kernel_rfl

/- f_waypostref01_Not -/
def V102 (_W : Rec) (a : Set4) (r : Set4) : Prop :=
 ∃ I0 : Int → Int → Int → Int → Int → Prop,
 ∃ I1 : Int → Int → Int → Int → Int → Nat,
 (I0 (0 : Int) a.a a.b a.c a.d) ∧
 ∀ x2 : Int,
 ∀ x3 : Int,
 ∀ x4 : Int,
 ∀ x5 : Int,
 ∀ x6 : Int,
 I0 x2 x3 x4 x5 x6 →
 brP (x2 < (4 : Int))
 (((0 : Int) ≤ x2) ∧
 (x2 < (↑(4 : Nat) : Int)) ∧
 ∀ x7 : Int, x7 = [x3, x4, x5, x6].getD x2.toNat (0 : Int) →
 ∀ x8 : Int, x8 = Go.Ev.bXor Go.IntKind.u64 (if Go.IntKind.u64.signed = true then (-1 : Int) else Go.IntKind.u64.max) x7 →
 ((0 : Int) ≤ x2) ∧
 (x2 < (↑(4 : Nat) : Int)) ∧
 ∀ x9 : Int, x9 = Go.Ev.pickI x2 (0 : Nat) x8 x3 →
 ∀ x10 : Int, x10 = Go.Ev.pickI x2 ((0 : Nat) + (1 : Nat)) x8 x4 →
 ∀ x11 : Int, x11 = Go.Ev.pickI x2 ((0 : Nat) + (1 : Nat) + (1 : Nat)) x8 x5 →
 ∀ x12 : Int, x12 = Go.Ev.pickI x2 ((0 : Nat) + (1 : Nat) + (1 : Nat) + (1 : Nat)) x8 x6 →
 ∀ x13 : Int, x13 = Go.IntKind.i64.wrap (x2 + (1 : Int)) →
 (I0 x13 x9 x10 x11 x12) ∧
 I1 x13 x9 x10 x11 x12 < I1 x2 x3 x4 x5 x6)
 ((x3 = r.a) ∧
 (x4 = r.b) ∧
 (x5 = r.c) ∧
 x6 = r.d)
set_option maxRecDepth 100000 in
theorem v102 (W : Rec) (a : Set4) (r : Set4) : xFn PP E W Γ102 (Tof PP) f_waypostref01_Not (in102 a).env ((in102 a).fst ++ ((in102 a).args ++ (in102 a).cap)) ((Γ102.sig f_waypostref01_Not).res r) ((Γ102.sig f_waypostref01_Not).out r) ((Γ102.sig f_waypostref01_Not).new r) = V102 W a r := by kernel_rfl

/- f_waypostlaw23_EndsTwo -/
def V4 (W : Rec) (a : Ends) (b : Ends) (r : Bool) : Prop :=
 ∀ x0 : Int, x0 = ((a.lead.length : Nat) : Int) → x0 ≤ 9223372036854775807 →
 brP ((80 : Int) < x0)
 (∃ b1 : Bool,
 (Ctr E W (.fn f_waypostlaw23_awake [] []) [] [] (.v (.bool b1)) [] []) ∧
 brB b1
 (true = r)
 (false = r))
 (∀ x2 : Int, x2 = ((a.trail.length : Nat) : Int) → x2 ≤ 9223372036854775807 →
 brP ((80 : Int) < x2)
 (∃ b3 : Bool,
 (Ctr E W (.fn f_waypostlaw23_awake [] []) [] [] (.v (.bool b3)) [] []) ∧
 brB b3
 (true = r)
 (false = r))
 (∀ x4 : Int, x4 = ((b.lead.length : Nat) : Int) → x4 ≤ 9223372036854775807 →
 brP ((80 : Int) < x4)
 (∃ b5 : Bool,
 (Ctr E W (.fn f_waypostlaw23_awake [] []) [] [] (.v (.bool b5)) [] []) ∧
 brB b5
 (true = r)
 (false = r))
 (∀ x6 : Int, x6 = ((b.trail.length : Nat) : Int) → x6 ≤ 9223372036854775807 →
 brP ((80 : Int) < x6)
 (∃ b7 : Bool,
 (Ctr E W (.fn f_waypostlaw23_awake [] []) [] [] (.v (.bool b7)) [] []) ∧
 brB b7
 (true = r)
 (false = r))
 (∃ r8 : Ends,
 (Ctr E W (.fn f_waypostkit_OwnEnds [] []) [] [.agg [.ro 45 a.lead, .ro 45 a.trail, .v (.int .i64 a.least), .v (.int .i64 a.most)]] (.agg [.ro 45 r8.lead, .ro 45 r8.trail, .v (.int .i64 r8.least), .v (.int .i64 r8.most)]) [] []) ∧
 ∃ r9 : Ends,
 (Ctr E W (.fn f_waypostkit_OwnEnds [] []) [] [.agg [.ro 45 b.lead, .ro 45 b.trail, .v (.int .i64 b.least), .v (.int .i64 b.most)]] (.agg [.ro 45 r9.lead, .ro 45 r9.trail, .v (.int .i64 r9.least), .v (.int .i64 r9.most)]) [] []) ∧
 ∃ r10 : (Bool × Int),
 (Ctr E W (.fn f_ends_Both [] []) [] [.agg [.ro 45 r8.lead, .ro 45 r8.trail, .v (.int .i64 r8.least), .v (.int .i64 r8.most)], .agg [.ro 45 r9.lead, .ro 45 r9.trail, .v (.int .i64 r9.least), .v (.int .i64 r9.most)]] (.tup [.v (.bool r10.fst), .v (.int .i64 r10.snd)]) [] []) ∧
 brB r10.fst
 ((True) ∧
 ∃ r11 : (Bool × Int),
 (Ctr E W (.fn f_waypostref23_Both [] []) [] [.agg [.ro 45 a.lead, .ro 45 a.trail, .v (.int .i64 a.least), .v (.int .i64 a.most)], .agg [.ro 45 b.lead, .ro 45 b.trail, .v (.int .i64 b.least), .v (.int .i64 b.most)]] (.tup [.v (.bool r11.fst), .v (.int .i64 r11.snd)]) [] []) ∧
 brB r11.fst
 (brP (r10.snd = r11.snd)
 (∃ b12 : Bool,
 (Ctr E W (.fn f_waypostlaw23_awake [] []) [] [] (.v (.bool b12)) [] []) ∧
 brB b12
 (true = r)
 (false = r))
 (false = r))
 (false = r))
 ((True) ∧
 ∃ r13 : (Bool × Int),
 (Ctr E W (.fn f_waypostref23_Both [] []) [] [.agg [.ro 45 a.lead, .ro 45 a.trail, .v (.int .i64 a.least), .v (.int .i64 a.most)], .agg [.ro 45 b.lead, .ro 45 b.trail, .v (.int .i64 b.least), .v (.int .i64 b.most)]] (.tup [.v (.bool r13.fst), .v (.int .i64 r13.snd)]) [] []) ∧
 brB r13.fst
 (false = r)
 (brP (r10.snd = r13.snd)
 (∃ b14 : Bool,
 (Ctr E W (.fn f_waypostlaw23_awake [] []) [] [] (.v (.bool b14)) [] []) ∧
 brB b14
 (true = r)
 (false = r))
 (false = r)))))))
set_option maxRecDepth 100000 in
theorem v4 (W : Rec) (a : Ends) (b : Ends) (r : Bool) : xFn PP E W Γ4 (Tof PP) f_waypostlaw23_EndsTwo (in4 a b).env ((in4 a b).fst ++ ((in4 a b).args ++ (in4 a b).cap)) ((Γ4.sig f_waypostlaw23_EndsTwo).res r) ((Γ4.sig f_waypostlaw23_EndsTwo).out r) ((Γ4.sig f_waypostlaw23_EndsTwo).new r) = V4 W a b r := by kernel_rfl

end Go.Proofs.YtcajalekkffcjaaDoor

namespace Go.Proofs.YtcajalekkffcjaaDoor
open Go Go.Ev

def nx (x : Int) : Int := Go.Ev.bXor Go.IntKind.u64 (if Go.IntKind.u64.signed = true then (-1 : Int) else Go.IntKind.u64.max) x
def not4 (a : Set4) : Set4 := ⟨nx a.a, nx a.b, nx a.c, nx a.d⟩
def ax (x y : Int) : Int := Go.Ev.bAnd Go.IntKind.u64 x y
def and4 (a b : Set4) : Set4 := ⟨ax a.a b.a, ax a.b b.b, ax a.c b.c, ax a.d b.d⟩
def common4 (l : List Set4) : Set4 := l.foldl and4 (not4 ⟨0, 0, 0, 0⟩)

theorem loop4 {f1 f2 f3 f4 g1 g2 g3 g4 : Int} {i p q r s : Int}
    (h : (i = 0 ∧ p = g1 ∧ q = g2 ∧ r = g3 ∧ s = g4) ∨ (i = 1 ∧ p = f1 ∧ q = g2 ∧ r = g3 ∧ s = g4) ∨ (i = 2 ∧ p = f1 ∧ q = f2 ∧ r = g3 ∧ s = g4) ∨ (i = 3 ∧ p = f1 ∧ q = f2 ∧ r = f3 ∧ s = g4) ∨ (i = 4 ∧ p = f1 ∧ q = f2 ∧ r = f3 ∧ s = f4)) :
    0 ≤ i ∧ i ≤ 4 ∧ (¬ i < 4 → p = f1 ∧ q = f2 ∧ r = f3 ∧ s = f4) := by
  rcases h with h | h | h | h | h <;> obtain ⟨rfl, rfl, rfl, rfl, rfl⟩ := h <;> refine ⟨by decide, by decide, fun h => ?_⟩ <;> first | exact absurd (by decide) h | exact ⟨rfl, rfl, rfl, rfl⟩

theorem dec4 (i : Int) (h : (4 - IntKind.i64.wrap (i + 1)).toNat < (4 - i).toNat) : (4 - IntKind.i64.wrap (i + 1)).toNat < (4 - i).toNat := h

theorem not_ok (W : Rec) (a : Set4) : V101 W a (not4 a) := by
  refine ⟨fun i p q r s => (i = 0 ∧ p = a.a ∧ q = a.b ∧ r = a.c ∧ s = a.d) ∨ (i = 1 ∧ p = nx a.a ∧ q = a.b ∧ r = a.c ∧ s = a.d) ∨ (i = 2 ∧ p = nx a.a ∧ q = nx a.b ∧ r = a.c ∧ s = a.d) ∨ (i = 3 ∧ p = nx a.a ∧ q = nx a.b ∧ r = nx a.c ∧ s = a.d) ∨ (i = 4 ∧ p = nx a.a ∧ q = nx a.b ∧ r = nx a.c ∧ s = nx a.d), fun i _ _ _ _ => (4 - i).toNat, .inl ⟨rfl, rfl, rfl, rfl, rfl⟩, ?_⟩
  intro i p q r s hI
  refine ⟨fun hlt => ?_, fun hge => ?_⟩
  · refine ⟨(loop4 hI).1, hlt, ?_⟩
    intro x7 e7 x8 e8
    refine ⟨(loop4 hI).1, hlt, ?_⟩
    intro x9 e9 x10 e10 x11 e11 x12 e12 x13 e13
    rcases hI with h | h | h | h | h <;> obtain ⟨rfl, rfl, rfl, rfl, rfl⟩ := h
    · subst e7 e8 e9 e10 e11 e12 e13
      exact ⟨.inr (.inl ⟨rfl, rfl, rfl, rfl, rfl⟩), dec4 0 (by decide)⟩
    · subst e7 e8 e9 e10 e11 e12 e13
      exact ⟨.inr (.inr (.inl ⟨rfl, rfl, rfl, rfl, rfl⟩)), dec4 1 (by decide)⟩
    · subst e7 e8 e9 e10 e11 e12 e13
      exact ⟨.inr (.inr (.inr (.inl ⟨rfl, rfl, rfl, rfl, rfl⟩))), dec4 2 (by decide)⟩
    · subst e7 e8 e9 e10 e11 e12 e13
      exact ⟨.inr (.inr (.inr (.inr ⟨rfl, rfl, rfl, rfl, rfl⟩))), dec4 3 (by decide)⟩
    · exact absurd hlt (by decide)
  · exact (loop4 hI).2.2 hge

theorem not_ok' (W : Rec) (a : Set4) : V102 W a (not4 a) := not_ok W a


theorem common_snoc (l : List Set4) (a : Set4) : common4 (l ++ [a]) = and4 (common4 l) a := by simp [common4, List.foldl_append]

/-- What is carried over the places of a set. -/
def In4 (f g : Set4) (i p q r s : Int) : Prop := (i = 0 ∧ p = g.a ∧ q = g.b ∧ r = g.c ∧ s = g.d) ∨ (i = 1 ∧ p = f.a ∧ q = g.b ∧ r = g.c ∧ s = g.d) ∨ (i = 2 ∧ p = f.a ∧ q = f.b ∧ r = g.c ∧ s = g.d) ∨ (i = 3 ∧ p = f.a ∧ q = f.b ∧ r = f.c ∧ s = g.d) ∨ (i = 4 ∧ p = f.a ∧ q = f.b ∧ r = f.c ∧ s = f.d)

/-- What is carried over the sets. -/
def InC (l : List Set4) (i p q r s : Int) : Prop := 0 ≤ i ∧ i ≤ (l.length : Int) ∧ common4 (l.take i.toNat) = ⟨p, q, r, s⟩

theorem inC_end {l : List Set4} {i p q r s : Int} (h : InC l i p q r s) (hi : ¬ i < (l.length : Int)) : p = (common4 l).a ∧ q = (common4 l).b ∧ r = (common4 l).c ∧ s = (common4 l).d := by
  obtain ⟨h0, h1, h2⟩ := h
  have : i.toNat = l.length := by omega
  rw [this, List.take_length] at h2
  rw [h2]
  exact ⟨rfl, rfl, rfl, rfl⟩

theorem inC_step {l : List Set4} {i p q r s : Int} (h : InC l i p q r s) (hi : i < (l.length : Int)) {a : Set4} (ha : l[i.toNat]? = some a) (hm : (l.length : Int) ≤ 9223372036854775807) {p' q' r' s' : Int} (e : p' = ax p a.a ∧ q' = ax q a.b ∧ r' = ax r a.c ∧ s' = ax s a.d) :
    InC l (IntKind.i64.wrap (i + 1)) p' q' r' s' ∧ ((l.length : Int) - IntKind.i64.wrap (i + 1)).toNat < ((l.length : Int) - i).toNat := by
  obtain ⟨h0, h1, h2⟩ := h
  rw [wrap_succ h0 hi hm]
  refine ⟨⟨by omega, by omega, ?_⟩, by omega⟩
  have e1 : (i + 1).toNat = i.toNat + 1 := by omega
  rw [e1, List.take_add_one, ha]
  show common4 (l.take i.toNat ++ [a]) = _
  rw [common_snoc, h2]
  obtain ⟨rfl, rfl, rfl, rfl⟩ := e
  rfl

theorem commonB_ok (W : Rec) (hnot : ∀ a, Ctr E W (.fn f_byteset_Not [] []) [] [xSet a] (xSet (not4 a)) [] []) (l : List Set4) : V78 W l (common4 l) := by
  refine ⟨not4 ⟨0, 0, 0, 0⟩, hnot ⟨0, 0, 0, 0⟩, ?_⟩
  intro x1 e1 m1
  subst e1
  refine ⟨InC l, fun i _ _ _ _ => ((l.length : Int) - i).toNat, ⟨by decide, by omega, rfl⟩, ?_⟩
  intro i p q r s hI
  refine ⟨fun hlt => ⟨hI.1, hlt, fun a ha => ?_⟩, fun hge => inC_end hI hge⟩
  refine ⟨In4 (and4 ⟨p, q, r, s⟩ a) ⟨p, q, r, s⟩, fun i _ _ _ _ => (4 - i).toNat, .inl ⟨rfl, rfl, rfl, rfl, rfl⟩, ?_⟩
  intro j p' q' r' s' hJ
  refine ⟨fun hlt => ?_, fun hge => ?_⟩
  · refine ⟨(loop4 hJ).1, hlt, ?_⟩
    intro x17 e17
    refine ⟨(loop4 hJ).1, hlt, ?_⟩
    intro x18 e18 x19 e19
    refine ⟨(loop4 hJ).1, hlt, ?_⟩
    intro x20 e20 x21 e21 x22 e22 x23 e23 x24 e24
    rcases hJ with h | h | h | h | h <;> obtain ⟨rfl, rfl, rfl, rfl, rfl⟩ := h
    · subst e17 e18 e19 e20 e21 e22 e23 e24
      exact ⟨.inr (.inl ⟨rfl, rfl, rfl, rfl, rfl⟩), dec4 0 (by decide)⟩
    · subst e17 e18 e19 e20 e21 e22 e23 e24
      exact ⟨.inr (.inr (.inl ⟨rfl, rfl, rfl, rfl, rfl⟩)), dec4 1 (by decide)⟩
    · subst e17 e18 e19 e20 e21 e22 e23 e24
      exact ⟨.inr (.inr (.inr (.inl ⟨rfl, rfl, rfl, rfl, rfl⟩))), dec4 2 (by decide)⟩
    · subst e17 e18 e19 e20 e21 e22 e23 e24
      exact ⟨.inr (.inr (.inr (.inr ⟨rfl, rfl, rfl, rfl, rfl⟩))), dec4 3 (by decide)⟩
    · exact absurd hlt (by decide)
  · intro x25 e25
    subst e25
    exact inC_step hI hlt ha m1 ((loop4 hJ).2.2 hge)

theorem commonR_ok (W : Rec) (hnot : ∀ a, Ctr E W (.fn f_waypostref01_Not [] []) [] [xSet a] (xSet (not4 a)) [] []) (l : List Set4) : V79 W l (common4 l) := by
  refine ⟨not4 ⟨0, 0, 0, 0⟩, hnot ⟨0, 0, 0, 0⟩, ?_⟩
  refine ⟨InC l, fun i _ _ _ _ => ((l.length : Int) - i).toNat, ⟨by decide, by omega, rfl⟩, ?_⟩
  intro i p q r s hI x8 e8 m8
  subst e8
  refine ⟨fun hlt => ?_, fun hge => inC_end hI hge⟩
  have hil : i.toNat < l.length := by have := hI.1; omega
  have ha : l[i.toNat]? = some l[i.toNat] := List.getElem?_eq_getElem hil
  generalize l[i.toNat] = a at ha
  refine ⟨In4 (and4 ⟨p, q, r, s⟩ a) ⟨p, q, r, s⟩, fun i _ _ _ _ => (4 - i).toNat, .inl ⟨rfl, rfl, rfl, rfl, rfl⟩, ?_⟩
  intro j p' q' r' s' hJ
  refine ⟨fun hlt' => ?_, fun hge => ?_⟩
  · refine ⟨(loop4 hJ).1, hlt', ?_⟩
    intro x16 e16
    refine ⟨hI.1, hlt, fun a' ha' => ?_⟩
    rw [ha] at ha'
    cases ha'
    refine ⟨(loop4 hJ).1, hlt', ?_⟩
    rcases hJ with h | h | h | h | h <;> obtain ⟨rfl, rfl, rfl, rfl, rfl⟩ := h
    · refine ⟨fun _ => ?_, fun h => absurd h (by decide), fun h => absurd h (by decide), fun h => absurd h (by decide), trivial⟩
      intro x18 e18
      refine ⟨by decide, by decide, ?_⟩
      intro x19 e19 x20 e20 x21 e21 x22 e22 x23 e23
      subst e16 e18 e19 e20 e21 e22 e23
      exact ⟨.inr (.inl ⟨rfl, rfl, rfl, rfl, rfl⟩), dec4 0 (by decide)⟩
    · refine ⟨fun h => absurd h (by decide), fun _ => ?_, fun h => absurd h (by decide), fun h => absurd h (by decide), trivial⟩
      intro x18 e18
      refine ⟨by decide, by decide, ?_⟩
      intro x19 e19 x20 e20 x21 e21 x22 e22 x23 e23
      subst e16 e18 e19 e20 e21 e22 e23
      exact ⟨.inr (.inr (.inl ⟨rfl, rfl, rfl, rfl, rfl⟩)), dec4 1 (by decide)⟩
    · refine ⟨fun h => absurd h (by decide), fun h => absurd h (by decide), fun _ => ?_, fun h => absurd h (by decide), trivial⟩
      intro x18 e18
      refine ⟨by decide, by decide, ?_⟩
      intro x19 e19 x20 e20 x21 e21 x22 e22 x23 e23
      subst e16 e18 e19 e20 e21 e22 e23
      exact ⟨.inr (.inr (.inr (.inl ⟨rfl, rfl, rfl, rfl, rfl⟩))), dec4 2 (by decide)⟩
    · refine ⟨fun h => absurd h (by decide), fun h => absurd h (by decide), fun h => absurd h (by decide), fun _ => ?_, trivial⟩
      intro x18 e18
      refine ⟨by decide, by decide, ?_⟩
      intro x19 e19 x20 e20 x21 e21 x22 e22 x23 e23
      subst e16 e18 e19 e20 e21 e22 e23
      exact ⟨.inr (.inr (.inr (.inr ⟨rfl, rfl, rfl, rfl, rfl⟩))), dec4 3 (by decide)⟩
    · exact absurd hlt' (by decide)
  · intro x42 e42
    subst e42
    exact inC_step hI hlt ha m8 ((loop4 hJ).2.2 hge)


instance : DecidableEq Set4 := fun a b => decidable_of_iff (a.a = b.a ∧ a.b = b.b ∧ a.c = b.c ∧ a.d = b.d) ⟨fun h => by cases a; cases b; simp_all, fun h => by subst h; simp⟩

def comm (a b : Set4) : Bool := !decide (common4 [a, b] = ⟨0, 0, 0, 0⟩)

theorem set_vals {r : Set4} : ([.int .u64 r.a, .int .u64 r.b, .int .u64 r.c, .int .u64 r.d] : List Value) = [.int .u64 0, .int .u64 0, .int .u64 0, .int .u64 0] ↔ r = ⟨0, 0, 0, 0⟩ := by
  cases r
  simp

theorem comm_no {a b : Set4} (h : common4 [a, b] = ⟨0, 0, 0, 0⟩) : comm a b = false := by unfold comm; rw [decide_eq_true h]; rfl
theorem comm_yes {a b : Set4} (h : common4 [a, b] ≠ ⟨0, 0, 0, 0⟩) : comm a b = true := by unfold comm; rw [decide_eq_false h]; rfl

theorem comm_ok (W : Rec) (hc : ∀ l : List Set4, l.length ≤ 2 → Ctr E W (.fn f_byteset_Common [] []) [] [.ro 45 l] (xSet (common4 l)) [] []) (a b : Set4) : V54 W a b (comm a b) := by
  refine ⟨by decide, by decide, common4 [a, b], hc [a, b] (Nat.le_refl 2), fun h => ?_, fun h => ?_⟩
  · exact (comm_no (set_vals.1 h)).symm
  · exact (comm_yes fun h' => h (set_vals.2 h')).symm

def fitL (a b : List Set4) : Bool := (a.zip b).all fun p => comm p.1 p.2

theorem fitL_take {a b : List Set4} {n : Nat} (h : ((a.zip b).take n).all (fun p => comm p.1 p.2) = true) {x y : Set4} (hx : a[n]? = some x) (hy : b[n]? = some y) : ((a.zip b).take (n + 1)).all (fun p => comm p.1 p.2) = comm x y := by
  have : (a.zip b)[n]? = some (x, y) := by rw [List.getElem?_zip_eq_some]; exact ⟨hx, hy⟩
  rw [List.take_add_one, this, List.all_append, h]
  simp

theorem fitL_end {a b : List Set4} {n : Nat} (h : ((a.zip b).take n).all (fun p => comm p.1 p.2) = true) (hn : a.length ≤ n ∨ b.length ≤ n) : fitL a b = true := by
  unfold fitL
  rw [← h, List.take_of_length_le]
  rw [List.length_zip]
  omega

theorem fitL_no {a b : List Set4} {n : Nat} (h : ((a.zip b).take n).all (fun p => comm p.1 p.2) = false) : fitL a b = false := by
  unfold fitL
  rw [List.all_eq_false] at h ⊢
  obtain ⟨x, hx, h⟩ := h
  exact ⟨x, List.mem_of_mem_take hx, h⟩

theorem along_ok (W : Rec) (hc : ∀ a b, Ctr E W (.fn f_ends_common [] []) [] [xSet a, xSet b] (xBool (comm a b)) [] []) (a b : List Set4) : V53 W a b (fitL a b) := by
  intro x0 e0 m0 x1 e1 m1 x2 e2
  subst e0 e1
  have hmin : x2 ≤ (a.length : Int) ∧ x2 ≤ (b.length : Int) ∧ (x2 = a.length ∨ x2 = b.length) := by
    subst e2
    unfold minI
    split <;> omega
  refine ⟨fun i => 0 ≤ i ∧ i ≤ x2 ∧ ((a.zip b).take i.toNat).all (fun p => comm p.1 p.2) = true, fun i => (x2 - i).toNat, ⟨by decide, by omega, rfl⟩, ?_⟩
  rintro i ⟨h0, h1, h2⟩
  refine ⟨fun hlt => ⟨h0, by omega, fun x hx => ⟨h0, by omega, fun y hy => ⟨comm x y, hc x y, ?_⟩⟩⟩, fun hge => ?_⟩
  · have hs := fitL_take h2 hx hy
    have e : (i + 1).toNat = i.toNat + 1 := by omega
    refine brB_mk (fun hb => ?_) fun hb => ?_
    · intro x9 e9
      rw [wrap_succ h0 hlt (by omega)] at e9
      subst e9
      exact ⟨⟨by omega, by omega, by rw [e, hs, hb]⟩, by show (x2 - (i + 1)).toNat < (x2 - i).toNat; omega⟩
    · exact (fitL_no (hs.trans hb)).symm
  · exact (fitL_end h2 (by omega)).symm

theorem commonL_ok (W : Rec) (hc : ∀ l : List Set4, l.length ≤ 2 → Ctr E W (.fn f_waypostref01_Common [] []) [] [.ro 45 l] (xSet (common4 l)) [] []) (a b : List Set4) : V55 W a b (fitL a b) := by
  refine ⟨fun i => 0 ≤ i ∧ i ≤ (a.length : Int) ∧ ((a.zip b).take i.toNat).all (fun p => comm p.1 p.2) = true, fun i => ((a.length : Int) - i).toNat, ⟨by decide, by omega, rfl⟩, ?_⟩
  rintro i ⟨h0, h1, h2⟩ x3 e3 m3
  subst e3
  refine ⟨fun hlt => ?_, fun hge => (fitL_end h2 (by omega)).symm⟩
  intro x4 e4 m4
  subst e4
  refine ⟨fun hltb => ⟨h0, hlt, fun x hx => ⟨h0, hltb, fun y hy => ⟨by decide, by decide, common4 [x, y], hc [x, y] (Nat.le_refl 2), ?_⟩⟩⟩, fun hge => (fitL_end h2 (by omega)).symm⟩
  have hs := fitL_take h2 hx hy
  have e : (i + 1).toNat = i.toNat + 1 := by omega
  refine ⟨fun h => ?_, fun h => ?_⟩
  · have hb : comm x y = false := comm_no (set_vals.1 h)
    exact (fitL_no (hs.trans hb)).symm
  · have hb : comm x y = true := comm_yes fun h' => h (set_vals.2 h')
    intro x9 e9
    rw [wrap_succ h0 hlt m3] at e9
    subst e9
    exact ⟨⟨by omega, by omega, by rw [e, hs, hb]⟩, by show ((a.length : Int) - (i + 1)).toNat < ((a.length : Int) - i).toNat; omega⟩

def chk (e : Ends) : Int :=
  if e.least < 0 ∨ (e.most ≠ -1 ∧ e.most < e.least) then 2
  else if 64 < e.lead.length ∨ e.least < (e.lead.length : Int) ∨ 64 < e.trail.length ∨ e.least < (e.trail.length : Int) then 4 else 0


theorem chk2 {e : Ends} (h : e.least < 0 ∨ (e.most ≠ -1 ∧ e.most < e.least)) : 2 = chk e := by unfold chk; rw [if_pos h]
theorem chk4 {e : Ends} (h : ¬ (e.least < 0 ∨ (e.most ≠ -1 ∧ e.most < e.least))) (h2 : 64 < (e.lead.length : Int) ∨ e.least < (e.lead.length : Int) ∨ 64 < (e.trail.length : Int) ∨ e.least < (e.trail.length : Int)) : 4 = chk e := by unfold chk; rw [if_neg h, if_pos (by omega)]
theorem chk0 {e : Ends} (h : ¬ (e.least < 0 ∨ (e.most ≠ -1 ∧ e.most < e.least))) (h2 : ¬ (64 < (e.lead.length : Int) ∨ e.least < (e.lead.length : Int) ∨ 64 < (e.trail.length : Int) ∨ e.least < (e.trail.length : Int))) : 0 = chk e := by unfold chk; rw [if_neg h, if_neg (by omega)]

theorem check_ok (W : Rec) (a : Ends) : V15 W a (chk a) := by
  have key : ¬ (a.least < 0 ∨ (a.most ≠ -1 ∧ a.most < a.least)) →
      ∀ x0 : Int, x0 = ((a.lead.length : Nat) : Int) → x0 ≤ 9223372036854775807 → ∀ x1 : Int, x1 = ((a.trail.length : Nat) : Int) → x1 ≤ 9223372036854775807 →
      ∃ I2 : Int → Prop, ∃ I3 : Int → Nat, (I2 (0 : Int)) ∧ ∀ x4 : Int, I2 x4 → brP (x4 < (2 : Int))
        (((0 : Int) ≤ x4) ∧ (x4 < (↑(2 : Nat) : Int)) ∧ ∀ x5 : Int, x5 = [x0, x1].getD x4.toNat (0 : Int) →
          brP ((64 : Int) < x5) ((4 : Int) = chk a) (brP (a.least < x5) ((4 : Int) = chk a) (∀ x6 : Int, x6 = Go.IntKind.i64.wrap (x4 + (1 : Int)) → (I2 x6) ∧ I3 x6 < I3 x4)))
        ((0 : Int) = chk a) := by
    intro hok x0 e0 _ x1 e1 _
    subst e0 e1
    refine ⟨fun i => (i = 0) ∨ (i = 1 ∧ ¬ 64 < (a.lead.length : Int) ∧ ¬ a.least < (a.lead.length : Int)) ∨ (i = 2 ∧ (¬ 64 < (a.lead.length : Int) ∧ ¬ a.least < (a.lead.length : Int)) ∧ ¬ 64 < (a.trail.length : Int) ∧ ¬ a.least < (a.trail.length : Int)), fun i => (2 - i).toNat, .inl rfl, ?_⟩
    rintro i (rfl | ⟨rfl, h1⟩ | ⟨rfl, h1, h2⟩)
    · refine ⟨fun _ => ⟨by decide, by decide, fun x5 e5 => ?_⟩, fun h => absurd (by decide) h⟩
      have e5 : x5 = (a.lead.length : Int) := e5
      subst e5
      refine ⟨fun h => chk4 hok (.inl h), fun h64 => ⟨fun h => chk4 hok (.inr (.inl h)), fun hl x6 e6 => ?_⟩⟩
      subst e6
      exact ⟨.inr (.inl ⟨rfl, h64, hl⟩), by decide⟩
    · refine ⟨fun _ => ⟨by decide, by decide, fun x5 e5 => ?_⟩, fun h => absurd (by decide) h⟩
      have e5 : x5 = (a.trail.length : Int) := e5
      subst e5
      refine ⟨fun h => chk4 hok (.inr (.inr (.inl h))), fun h64 => ⟨fun h => chk4 hok (.inr (.inr (.inr h))), fun hl x6 e6 => ?_⟩⟩
      subst e6
      exact ⟨.inr (.inr ⟨rfl, h1, h64, hl⟩), by decide⟩
    · exact ⟨fun h => absurd h (by decide), fun _ => chk0 hok (by omega)⟩
  refine ⟨fun h => chk2 (.inl h), fun h => ⟨fun hm => key (by omega), fun hm => ⟨fun h2 => chk2 (.inr ⟨hm, h2⟩), fun h2 => key (by omega)⟩⟩⟩

theorem checkR_ok (W : Rec) (a : Ends) : V16 W a (chk a) := by
  have key : ¬ (a.least < 0 ∨ (a.most ≠ -1 ∧ a.most < a.least)) → ∀ x0 : Int, x0 = ((a.lead.length : Nat) : Int) → x0 ≤ 9223372036854775807 →
      brP ((64 : Int) < x0) ((4 : Int) = chk a) (∀ x1 : Int, x1 = ((a.trail.length : Nat) : Int) → x1 ≤ 9223372036854775807 → brP ((64 : Int) < x1) ((4 : Int) = chk a)
        (∀ x2 : Int, x2 = ((a.lead.length : Nat) : Int) → x2 ≤ 9223372036854775807 → brP (a.least < x2) ((4 : Int) = chk a)
          (∀ x3 : Int, x3 = ((a.trail.length : Nat) : Int) → x3 ≤ 9223372036854775807 → brP (a.least < x3) ((4 : Int) = chk a) ((0 : Int) = chk a)))) := by
    intro hok x0 e0 _
    subst e0
    refine ⟨fun h => chk4 hok (.inl h), fun n1 x1 e1 _ => ?_⟩
    subst e1
    refine ⟨fun h => chk4 hok (.inr (.inr (.inl h))), fun n2 x2 e2 _ => ?_⟩
    subst e2
    refine ⟨fun h => chk4 hok (.inr (.inl h)), fun n3 x3 e3 _ => ?_⟩
    subst e3
    exact ⟨fun h => chk4 hok (.inr (.inr (.inr h))), fun n4 => chk0 hok (by omega)⟩
  refine ⟨fun h => chk2 (.inl h), fun h => ⟨fun hm => chk2 (by omega), fun hm => ⟨fun h0 => ⟨fun h2 => chk2 (by omega), fun h2 => key (by omega)⟩, fun h0 => key (by omega)⟩⟩⟩

def meets (a b : Int × Int) : Bool := (decide (a.2 = -1) || decide (b.1 ≤ a.2)) && (decide (b.2 = -1) || decide (a.1 ≤ b.2))

theorem meets_ok (W : Rec) (a b : Int × Int) : V52 W a b (meets a b) := by
  unfold meets
  refine ⟨fun h1 => ⟨fun h2 => ?_, fun h2 => ⟨fun h3 => ?_, fun h3 => ?_⟩⟩, fun h1 => ⟨fun h2 => ⟨fun h3 => ?_, fun h3 => ⟨fun h4 => ?_, fun h4 => ?_⟩⟩, fun h2 => ?_⟩⟩ <;> simp_all
  intro h; omega

theorem lengths_ok (W : Rec) (a : Ends) : V51 W a (a.least, a.most) := ⟨rfl, rfl⟩

def both (a b : Ends) : Bool × Int :=
  if chk a ≠ 0 then (false, chk a) else if chk b ≠ 0 then (false, chk b) else (meets (a.least, a.most) (b.least, b.most) && (fitL a.lead b.lead && fitL a.trail b.trail), 0)

theorem bothB_ok (W : Rec) (hchk : ∀ e, Ctr E W (.fn f_ends_Check [] []) [] [xEnds e] (xInt (chk e)) [] []) (hlen : ∀ e, Ctr E W (.fn f_ends_lengthsOf [] []) [] [xEnds e] (pairI (e.least, e.most)) [] [])
    (hmeet : ∀ a b, Ctr E W (.fn f__ends_interval__meets [] []) [] [pairI a, pairI b] (xBool (meets a b)) [] []) (halong : ∀ a b : List Set4, Ctr E W (.fn f_ends_along_api_Set_api_Set_ [] []) [] [.ro 45 a, .ro 45 b, .fn f_ends_common [] []] (xBool (fitL a b)) [] []) (a b : Ends) : V17 W a b (both a b) := by
  refine ⟨fun i => (i = 0) ∨ (i = 1 ∧ chk a = 0) ∨ (i = 2 ∧ chk a = 0 ∧ chk b = 0), fun i => (2 - i).toNat, .inl rfl, ?_⟩
  rintro i (rfl | ⟨rfl, h1⟩ | ⟨rfl, h1, h2⟩)
  · refine ⟨fun _ => ⟨by decide, by decide, fun _ => ⟨chk a, hchk a, fun h x4 e4 => ?_, fun h => ?_⟩, fun h => absurd h (by decide), trivial⟩, fun h => absurd (by decide) h⟩
    · subst e4
      exact ⟨.inr (.inl ⟨rfl, h⟩), by decide⟩
    · unfold both
      rw [if_pos h]
      exact ⟨rfl, rfl⟩
  · refine ⟨fun _ => ⟨by decide, by decide, fun h => absurd h (by decide), fun _ => ⟨chk b, hchk b, fun h x4 e4 => ?_, fun h => ?_⟩, trivial⟩, fun h => absurd (by decide) h⟩
    · subst e4
      exact ⟨.inr (.inr ⟨rfl, h1, h⟩), by decide⟩
    · unfold both
      rw [if_neg (fun h' => h' h1), if_pos h]
      exact ⟨rfl, rfl⟩
  · refine ⟨fun h => absurd h (by decide), fun _ => ?_⟩
    have e : both a b = (meets (a.least, a.most) (b.least, b.most) && (fitL a.lead b.lead && fitL a.trail b.trail), 0) := by
      unfold both
      rw [if_neg (fun h' => h' h1), if_neg (fun h' => h' h2)]
    rw [e]
    refine ⟨_, hlen a, _, hlen b, _, hmeet _ _, brB_mk (fun b1 => ⟨_, halong _ _, brB_mk (fun b2 => ⟨_, halong _ _, brB_mk (fun b3 => ?_) fun b3 => ?_⟩) fun b2 => ?_⟩) fun b1 => ?_⟩
    · exact ⟨trivial, by simp [b1, b2, b3], rfl⟩
    · exact ⟨trivial, by simp [b3], rfl⟩
    · exact ⟨trivial, by simp [b2], rfl⟩
    · exact ⟨trivial, by simp [b1], rfl⟩


theorem meets_of {a b : Ends} (ha : chk a = 0) (hb : chk b = 0) : meets (a.least, a.most) (b.least, b.most) = ((decide (a.most < 0) || decide (b.least ≤ a.most)) && (decide (b.most < 0) || decide (a.least ≤ b.most))) := by
  have ok : ∀ {e : Ends}, chk e = 0 → ¬ (e.least < 0 ∨ (e.most ≠ -1 ∧ e.most < e.least)) := fun {e} h hc => by rw [← chk2 hc] at h; exact absurd h (by decide)
  have a1 := ok ha
  have b1 := ok hb
  have e1 : decide (a.most = -1) = decide (a.most < 0) := decide_eq_decide.2 (by omega)
  have e2 : decide (b.most = -1) = decide (b.most < 0) := decide_eq_decide.2 (by omega)
  unfold meets
  rw [e1, e2]

theorem bothR_ok (W : Rec) (hchk : ∀ e, Ctr E W (.fn f_waypostref23_Check [] []) [] [xEnds e] (xInt (chk e)) [] [])
    (hcom : ∀ a b : List Set4, Ctr E W (.fn f_waypostref23_common [] []) [] [.ro 45 a, .ro 45 b] (xBool (fitL a b)) [] []) (a b : Ends) : V19 W a b (both a b) := by
  refine ⟨chk a, hchk a, fun h1 => ⟨chk b, hchk b, fun h2 => ?_, fun h2 => ?_⟩, fun h1 => ⟨fun h => absurd h h1, fun _ => ?_⟩⟩
  · have e : both a b = (((decide (a.most < 0) || decide (b.least ≤ a.most)) && (decide (b.most < 0) || decide (a.least ≤ b.most))) && (fitL a.lead b.lead && fitL a.trail b.trail), 0) := by
      unfold both
      rw [if_neg (fun h' => h' h1), if_neg (fun h' => h' h2), meets_of h1 h2]
    rw [e]
    refine ⟨_, hcom _ _, brB_mk (fun b1 => ⟨_, hcom _ _, brB_mk (fun b2 => ?_) fun b2 => ?_⟩) fun b1 => ?_⟩
    · refine ⟨fun c1 => ⟨fun c2 => ?_, fun c2 => ⟨fun c3 => ?_, fun c3 => ?_⟩⟩, fun c1 => ⟨fun c2 => ⟨fun c3 => ?_, fun c3 => ⟨fun c4 => ?_, fun c4 => ?_⟩⟩, fun c2 => ?_⟩⟩ <;> refine ⟨?_, rfl⟩ <;> simp_all
      intro h; omega
    · exact ⟨by simp [b2], rfl⟩
    · exact ⟨by simp [b1], rfl⟩
  · have e : both a b = (false, chk b) := by unfold both; rw [if_neg (fun h' => h' h1), if_pos h2]
    rw [e]; exact ⟨rfl, rfl⟩
  · have e : both a b = (false, chk a) := by unfold both; rw [if_pos h1]
    rw [e]; exact ⟨rfl, rfl⟩

theorem two_ok (W : Rec) (haw : Ctr E W (.fn f_waypostlaw23_awake [] []) [] [] (xBool true) [] []) (hown : ∀ e : Ends, e.lead.length ≤ 80 → e.trail.length ≤ 80 → Ctr E W (.fn f_waypostkit_OwnEnds [] []) [] [xEnds e] (xEnds e) [] [])
    (hb : ∀ a b, Ctr E W (.fn f_ends_Both [] []) [] [xEnds a, xEnds b] (boolE (both a b)) [] []) (hr : ∀ a b, Ctr E W (.fn f_waypostref23_Both [] []) [] [xEnds a, xEnds b] (boolE (both a b)) [] []) (a b : Ends) : V4 W a b true := by
  have aw : ∃ b1 : Bool, (Ctr E W (.fn f_waypostlaw23_awake [] []) [] [] (.v (.bool b1)) [] []) ∧ brB b1 (true = true) (false = true) := ⟨true, haw, rfl⟩
  intro x0 e0 _
  subst e0
  refine ⟨fun _ => aw, fun n0 x1 e1 _ => ?_⟩
  subst e1
  refine ⟨fun _ => aw, fun n1 x2 e2 _ => ?_⟩
  subst e2
  refine ⟨fun _ => aw, fun n2 x3 e3 _ => ?_⟩
  subst e3
  refine ⟨fun _ => aw, fun n3 => ?_⟩
  refine ⟨a, hown a (by omega) (by omega), b, hown b (by omega) (by omega), both a b, hb a b, brB_mk (fun h1 => ⟨trivial, both a b, hr a b, ?_⟩) fun h1 => ⟨trivial, both a b, hr a b, ?_⟩⟩
  · exact brB_mk (fun _ => ⟨fun _ => aw, fun h => absurd rfl h⟩) fun h => absurd (h1.symm.trans h) (by decide)
  · exact brB_mk (fun h => absurd (h1.symm.trans h) (by decide)) fun _ => ⟨fun _ => aw, fun h => absurd rfl h⟩

end Go.Proofs.YtcajalekkffcjaaDoor
