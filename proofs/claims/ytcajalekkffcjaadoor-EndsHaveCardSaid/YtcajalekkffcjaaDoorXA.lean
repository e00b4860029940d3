/- Symbolic values: what is to be shown of a function, operations. -/
import Derived.Test.YtcajalekkffcjaaDoorEvD
namespace Go.Ev
open Go
inductive X (T:TypeId->Type) where
 |v (w:Value)
 |op (w:Value)
 |ro (e:TypeId) (l:List (T e))
 |os (id cB:Nat)
 |ptr (id off:Nat)
 |arr (id base size len:Nat) (i:Int)
 |ea (e:TypeId) (r:T e) (off:Nat)
 |oa (id cB:Nat) (e:TypeId) (i:Int) (off:Nat)
 |gp (g off:Nat)
 |ga (g base size len:Nat) (i:Int)
 |agg (l:List (X T))
 |gD (l:List (X T))
 |fn (g:FuncId) (a b:List (X T))
 |o9 (t:TypeId) (x:X T)
 |mp (id:Nat)
 |ab (id:Option Nat) (e:TypeId) (r:T e)
 |bad
variable {T:TypeId->Type}
inductive Ov (T:TypeId->Type) where
 |fn (g:FuncId) (css:List (List (X T)))
 |ptr (cs:List (X T))
 |v (w:Value)
inductive OV (T:TypeId->Type) where
 |mk (id:Option Nat) (e:TypeId) (r:T e)
structure gR (T:TypeId->Type) where
 enc:(e:TypeId)->T e->List (X T)
 sz:TypeId->Nat
 dec:(e:TypeId)->List (X T)->Option (T e)
 dU:Nat->Option (List (X T))
 byte:(e:TypeId)->Option ((Int->T e) × (T e->Int))
 ab:(e:TypeId)->T e->Value->Option Nat->H->(Nat->Prop)->Prop
 fold:Ov T->Option (OV T)
def X.row:X T->Bool
 | .v w=>aS w
 | .ro _ _=>true
 | .op _=>true
 |_=>false
inductive Ob (T:TypeId->Type) where
 |box (cs:List (X T))
 |os (cB:Nat) (e:TypeId) (l:List (T e))
 |mp (es:List (Value × Value))
 |fz (cB:Nat) (e:TypeId) (l:List (T e))
 |fb (cs:List (X T))
def Ob.own:Ob T->Bool
 | .fz _ _ _=>false
 | .fb _=>false
 |_=>true
abbrev Env (T:TypeId->Type):=List (Nat × Nat × Ob T)
def cW:Env T->Nat->Option (Nat × Ob T)
 | [],_=>none
 |(t,x) :: r,d=>bif Nat.beq t d then some x else cW r d
def del:Env T->Nat->Env T
 | [],_=>[]
 |(t,x) :: r,d=>bif Nat.beq t d then del r d else (t,x) :: del r d
theorem lK:∀(l:Env T) (d:Nat),cW (del l d) d=none
 | [],_=>rfl
 |(t,x) :: r,d=>by
  simp only [del]
  cases hb:Nat.beq t d with
  |true=>exact lK r d
  |false=>simp only [cond_false,cW,hb];exact lK r d
theorem j0:∀(l:Env T) {d t:Nat},t≠d->cW (del l d) t=cW l t
 | [],_,_,_=>rfl
 |(s,x) :: r,d,t,hn=>by
  simp only [del,cW]
  cases hb:Nat.beq s d with
  |true=>
   have hs:Nat.beq s t=false:=by
    cases h2:Nat.beq s t with
    |false=>rfl
    |true=>exact absurd ((Nat.eq_of_beq_eq_true h2).symm.trans (Nat.eq_of_beq_eq_true hb)) hn
   simp only [cond_true,hs,cond_false]
   exact j0 r hn
  |false=>
   simp only [cond_false,cW]
   cases h2:Nat.beq s t with
   |true=>rfl
   |false=>simp only [cond_false];exact j0 r hn
theorem gx (t:Nat) (x:Nat × Ob T) (r:Env T) (d:Nat):cW ((t,x) :: r) d=if t=d then some x else cW r d:=by
 simp only [cW]
 cases h:Nat.beq t d with
 |true=>rw [if_pos (Nat.eq_of_beq_eq_true h)];rfl
 |false=>rw [if_neg (fun e=>by rw [e,Nat.beq_refl] at h;cases h)];rfl
structure EC (T:TypeId->Type) where
 env:Env T
 cnt:Nat
 k:Nat
 fin:Bool
def EC.get (e:EC T) (id:Nat):Option (Ob T):=(cW e.env id).map (·.2)
def EC.new (e:EC T) (o:Ob T):EC T:=⟨(e.cnt,e.cnt,o) :: e.env,e.cnt+1,e.k,e.fin⟩
def EC.put (e:EC T) (id:Nat) (o:Ob T):EC T:=⟨(id,e.cnt,o) :: del e.env id,e.cnt+1,e.k,e.fin⟩
def EC.del (e:EC T) (id:Nat):EC T:=⟨Ev.del e.env id,e.cnt,e.k,e.fin⟩
abbrev Loc:=Nat->Option (SV × Nat)
def Ef:Value->Bool
 | .func (.func _) _ _=>true
 | .func (.yield _) _ _=>true
 |_=>false
def J7 (h:H) (O:Nat->Prop) (h':H) (O':Nat->Prop):Prop:=h.next<=h'.next/\(∀c,c < h.next->¬O c->h'.get c=h.get c)/\∀c,c < h.next->O' c->O c
def FM:Value->Bool
 | .func _ _ _=>true
 | .pointer _=>true
 |_=>false
inductive D (E:gR T) (h:H) (O:Nat->Prop) (ρ:Loc):X T->Value->Prop where
 |v (w:Value):D E h O ρ (.v w) w
 |op (w:Value) (hw:Ef w=true):D E h O ρ (.op w) w
 |ro (e:TypeId) (l:List (T e)) (q:SV) (rows:List (List Value)) (hs:xJ h q (E.sz e) rows) (hl:rows.length=l.length) (hm:l.length<=maxLen) (hq:q=⟨none,0,0⟩\/∃b o,q.p=some ⟨b,o,none⟩)
   (ho:∀b o,q.p=some ⟨b,o,none⟩->rows≠[]->¬O b)
   (hr:∀(i:Nat) (a:T e) (r:List Value),l[i]?=some a->rows[i]?=some r->∀(j:Nat) (x:X T) (w:Value),(E.enc e a)[j]?=some x->r[j]?=some w->D E h O ρ x w):D E h O ρ (.ro e l) (.slice q.p q.n q.c)
 |os (id cB n:Nat) (q q0:SV) (hq:ρ id=some (q,n)) (hv:cB<=n) (hw:cB=n->q0=q):D E h O ρ (.os id cB) (.slice q0.p q0.n q0.c)
 |ptr (id off b:Nat) (q:SV) (hq:ρ id=some (q,0)) (hb:q.p=some ⟨b,0,none⟩):D E h O ρ (.ptr id off) (.pointer (some ⟨b,off,none⟩))
 |arr (id base size len b:Nat) (i:Int) (q:SV) (hq:ρ id=some (q,0)) (hb:q.p=some ⟨b,0,none⟩) (h0:0<=i) (h1:i < (len:Int)):D E h O ρ (.arr id base size len i) (.pointer (some ⟨b,base+i.toNat * size,none⟩))
 |ea (e:TypeId) (r:T e) (off b o:Nat) (cs:List Value) (hlay:Ls h b cs) (hlen:o+E.sz e<=cs.length) (ho:¬O b)
   (hr:∀(j:Nat) (x:X T) (w:Value),(E.enc e r)[j]?=some x->cs[o+j]?=some w->D E h O ρ x w):D E h O ρ (.ea e r off) (.pointer (some ⟨b,o+off,none⟩))
 |oa (id cB n:Nat) (e:TypeId) (i:Int) (off:Nat) (q:SV) (b o:Nat) (hq:ρ id=some (q,n)) (hv:cB<=n) (hw:cB=n->i.toNat < q.n/\q.p=some ⟨b,0,none⟩/\o=i.toNat * E.sz e+off):D E h O ρ (.oa id cB e i off) (.pointer (some ⟨b,o,none⟩))
 |gp (g off:Nat):D E h O ρ (.gp g off) (.pointer (some ⟨g,off,none⟩))
 |ga (g base size len:Nat) (i:Int) (h0:0<=i) (h1:i < (len:Int)):D E h O ρ (.ga g base size len i) (.pointer (some ⟨g,base+i.toNat * size,none⟩))
 |agg (l:List (X T)) (vs:List Value) (hl:l.length=vs.length) (hd:∀(j:Nat) (x:X T) (w:Value),l[j]?=some x->vs[j]?=some w->D E h O ρ x w):D E h O ρ (.agg l) (.agg ⟨vs⟩)
 |gD (l:List (X T)) (vs:List Value) (hl:l.length=vs.length) (hd:∀(j:Nat) (x:X T) (w:Value),l[j]?=some x->vs[j]?=some w->D E h O ρ x w):D E h O ρ (.gD l) (.tuple ⟨vs⟩)
 |fn (g:FuncId) (a b:List (X T)) (va vb:List Value) (ha:a.length=va.length) (hb:b.length=vb.length)
   (hda:∀(j:Nat) (x:X T) (w:Value),a[j]?=some x->va[j]?=some w->D E h O ρ x w) (hdb:∀(j:Nat) (x:X T) (w:Value),b[j]?=some x->vb[j]?=some w->D E h O ρ x w):D E h O ρ (.fn g a b) (.func (.func g) ⟨va⟩ ⟨vb⟩)
 |o9 (t:TypeId) (x:X T) (w:Value) (hd:D E h O ρ x w):D E h O ρ (.o9 t x) (.iface t w)
 |mp (id b:Nat) (q:SV) (hq:ρ id=some (q,0)) (hb:q.p=some ⟨b,0,none⟩):D E h O ρ (.mp id) (.map (some b))
 |ab (id:Option Nat) (e:TypeId) (r:T e) (w:Value) (b:Option Nat) (hw:FM w=true) (hb:match id,b with |none,none=>True |some i,some c=>∃q,ρ i=some (q,0)/\q.p=some ⟨c,0,none⟩ |_,_=>False)
   (hr:∀h' O',J7 h O h' O'->E.ab e r w b h' O'):D E h O ρ (.ab id e r) w
 |bad (w:Value):D E h O ρ .bad w
def DL (E:gR T) (h:H) (O:Nat->Prop) (ρ:Loc) (l:List (X T)) (vs:List Value):Prop:=l.length=vs.length/\∀(j:Nat) (x:X T) (w:Value),l[j]?=some x->vs[j]?=some w->D E h O ρ x w
def AM (E:gR T) (h:H) (O:Nat->Prop) (ρ:Loc) (cs:List (X T)) (b:Nat):Prop:=b < h.next/\¬O b/\∃t vs e r,h.get b=some (.cells t vs e r)/\DL E h O ρ cs vs
def NW (E:gR T) (h:H) (O:Nat->Prop) (ρ:Loc):Ov T->Value->Prop
 | .fn g css,w=>∃bs:List Nat,w= .func (.func g) #[] ⟨bs.map fun b=>.pointer (some ⟨b,0,none⟩)⟩/\css.length=bs.length/\∀(j:Nat) (cs:List (X T)) (b:Nat),css[j]?=some cs->bs[j]?=some b->AM E h O ρ cs b
 | .ptr cs,w=>∃b,w= .pointer (some ⟨b,0,none⟩)/\AM E h O ρ cs b
 | .v u,w=>w=u
structure bM (E:gR T):Prop where
 len:∀e r,(E.enc e r).length=E.sz e
 dec:∀e xs r,E.dec e xs=some r->E.enc e r=xs
 row:∀e r,∀x∈E.enc e r,x.row=true
 byte:∀e f g,E.byte e=some (f,g)->(∀n,E.enc e (f n)=[.v (.int .u8 n)])/\∀r,E.enc e r=[.v (.int .u8 (g r))]
 dU:∀g cs,E.dU g=some cs->∀x∈cs,x.row=true
 fold:∀f id e r,E.fold f=some ⟨id,e,r⟩->∀h O ρ w,NW E h O ρ f w->D E h O ρ (.ab id e r) w
structure Mv (h h':H) (O O':Nat->Prop) (ρ ρ':Loc):Prop where
 next:h.next<=h'.next
 get:∀b,b < h.next->¬O b->h'.get b=h.get b
 own:∀b,b < h.next->O' b->O b
 loc:∀id q n,ρ id=some (q,n)->∃q' n',ρ' id=some (q',n')/\n<=n'/\(n=n'->q'=q)/\(n=0->n'=0)
theorem Mv.H9 {h h':H} {O O':Nat->Prop} {ρ ρ':Loc} (m:Mv h h' O O' ρ ρ'):J7 h O h' O':=⟨m.next,m.get,m.own⟩
theorem J7.trans {h h1 h2:H} {O O1 O2:Nat->Prop} (a:J7 h O h1 O1) (b:J7 h1 O1 h2 O2):J7 h O h2 O2:=
 ⟨Nat.le_trans a.1 b.1,fun c hc ho=>(b.2.1 c (Nat.lt_of_lt_of_le hc a.1) fun h3=>ho (a.2.2 c hc h3)).trans (a.2.1 c hc ho),fun c hc ho=>a.2.2 c hc (b.2.2 c (Nat.lt_of_lt_of_le hc a.1) ho)⟩
theorem Mv.refl (h:H) (O:Nat->Prop) (ρ:Loc):Mv h h O O ρ ρ:=⟨Nat.le_refl _,fun _ _ _=>rfl,fun _ _ x=>x,fun _ q n x=>⟨q,n,x,Nat.le_refl _,fun _=>rfl,fun e=>e⟩⟩
theorem Mv.fix {h h':H} {O O':Nat->Prop} {ρ ρ':Loc} (m:Mv h h' O O' ρ ρ') {id:Nat} {q:SV} (hq:ρ id=some (q,0)):ρ' id=some (q,0):=by
 obtain ⟨q',n',h1,h2,h3,h4⟩:=m.loc id q 0 hq
 have:=h4 rfl
 subst this
 rw [h1,h3 rfl]
theorem Mv.trans {h h1 h2:H} {O O1 O2:Nat->Prop} {ρ ρ1 ρ2:Loc} (m:Mv h h1 O O1 ρ ρ1) (k:Mv h1 h2 O1 O2 ρ1 ρ2):Mv h h2 O O2 ρ ρ2:=
 ⟨Nat.le_trans m.next k.next,fun b hb ho=>(k.get b (Nat.lt_of_lt_of_le hb m.next) fun h3=>ho (m.own b hb h3)).trans (m.get b hb ho),fun b hb ho=>m.own b hb (k.own b (Nat.lt_of_lt_of_le hb m.next) ho),fun id q n hq=>by
  obtain ⟨q1,n1,e1,l1,s1,z1⟩:=m.loc id q n hq
  obtain ⟨q2,n2,e2,l2,s2,z2⟩:=k.loc id q1 n1 e1
  exact ⟨q2,n2,e2,Nat.le_trans l1 l2,fun e=>by
   have a:n=n1:=by omega
   have b:n1=n2:=by omega
   rw [s2 b,s1 a],fun e=>z2 (z1 e)⟩⟩
theorem Mv.lay {h h':H} {O O':Nat->Prop} {ρ ρ':Loc} (m:Mv h h' O O' ρ ρ') {b:Nat} {cs:List Value} (l:Ls h b cs) (ho:¬O b):Ls h' b cs/\¬O' b:=by
 obtain ⟨k,h1,h2⟩:=l.at'
 exact ⟨⟨Nat.lt_of_lt_of_le l.lt m.next,k,by rw [m.get b l.lt ho];exact h1,h2⟩,fun h3=>ho (m.own b l.lt h3)⟩
theorem D.mv {E:gR T} {h h':H} {O O':Nat->Prop} {ρ ρ':Loc} (m:Mv h h' O O' ρ ρ') {x:X T} {w:Value} (d:D E h O ρ x w):D E h' O' ρ' x w:=by
 induction d with
 |v w=>exact .v w
 |op w hw=>exact .op w hw
 |ro e l q rows hs hl hm hq0 ho hr ih=>
  refine .ro e l q rows ⟨hs.len,hs.all,fun hp=>?_⟩ hl hm hq0 (fun b o hq hne hO'=>?_) ih
  ·obtain ⟨b,o,cs,h1,h2,h3,h4⟩:=hs.lay hp
   exact ⟨b,o,cs,h1,(m.lay h2 (ho b o h1 (fun e=>by rw [e] at hp;exact absurd hp (by simp)))).1,h3,h4⟩
  ·obtain ⟨b',o',cs,h1,h2,_⟩:=hs.lay (List.length_pos_iff.2 hne)
   rw [hq] at h1
   simp only [Option.some.injEq,Addr.mk.injEq] at h1
   obtain ⟨rfl,rfl,_⟩:=h1
   exact (m.lay h2 (ho b o hq hne)).2 hO'
 |os id cB n q q0 hq hv hw=>
  obtain ⟨q',n',e1,e2,e3,_⟩:=m.loc _ _ _ hq
  exact .os id cB n' q' q0 e1 (Nat.le_trans hv e2) fun e=>by rw [e3 (by omega)];exact hw (by omega)
 |ptr id off b q hq hb=>exact .ptr id off b q (m.fix hq) hb
 |arr id base size len b i q hq hb h0 h1=>exact .arr id base size len b i q (m.fix hq) hb h0 h1
 |ea e r off b o cs hlay hlen ho hr ih=>exact .ea e r off b o cs (m.lay hlay ho).1 hlen (m.lay hlay ho).2 ih
 |oa id cB n e i off q b o hq hv hw=>
  obtain ⟨q',n',e1,e2,e3,_⟩:=m.loc _ _ _ hq
  exact .oa id cB n' e i off q' b o e1 (Nat.le_trans hv e2) fun e=>by rw [e3 (by omega)];exact hw (by omega)
 |gp g off=>exact .gp g off
 |ga g base size len i h0 h1=>exact .ga g base size len i h0 h1
 |agg l vs hl hd ih=>exact .agg l vs hl ih
 |gD l vs hl hd ih=>exact .gD l vs hl ih
 |fn g a b va vb ha hb hda hdb iha ihb=>exact .fn g a b va vb ha hb iha ihb
 |o9 t x w hd ih=>exact .o9 t x w ih
 |mp id b q hq hb=>exact .mp id b q (m.fix hq) hb
 |ab id e r w b hw hb hr=>
  refine .ab id e r w b hw ?_ fun h2 O2 hf=>hr h2 O2 (m.H9.trans hf)
  cases id<;>cases b<;>first |exact hb |skip
  obtain ⟨q,h1,h2⟩:=hb
  exact ⟨q,m.fix h1,h2⟩
 |bad w=>exact .bad w
theorem DL.mv {E:gR T} {h h':H} {O O':Nat->Prop} {ρ ρ':Loc} (m:Mv h h' O O' ρ ρ') {l:List (X T)} {vs:List Value} (d:DL E h O ρ l vs):DL E h' O' ρ' l vs:=
 ⟨d.1,fun j x w h1 h2=>(d.2 j x w h1 h2).mv m⟩
theorem DL.nil {E:gR T} {h:H} {O:Nat->Prop} {ρ:Loc}:DL E h O ρ [] []:=⟨rfl,fun j x w h=>by simp at h⟩
theorem DL.cons {E:gR T} {h:H} {O:Nat->Prop} {ρ:Loc} {x:X T} {w:Value} {l:List (X T)} {vs:List Value} (d:D E h O ρ x w) (k:DL E h O ρ l vs):DL E h O ρ (x :: l) (w :: vs):=
 ⟨by simp [k.1],fun j y u h1 h2=>by
  cases j with
  |zero=>simp at h1 h2;rw [← h1,← h2];exact d
  |succ j=>simp at h1 h2;exact k.2 j y u h1 h2⟩
theorem DL.cM {E:gR T} {h:H} {O:Nat->Prop} {ρ:Loc} {x:X T} {l:List (X T)} {vs:List Value} (d:DL E h O ρ (x :: l) vs):∃w us,vs=w :: us/\D E h O ρ x w/\DL E h O ρ l us:=by
 cases vs with
 |nil=>exact absurd d.1 (by simp)
 |cons w us=>exact ⟨w,us,rfl,d.2 0 x w rfl rfl,by have:=d.1;simpa using this,fun j y u h1 h2=>d.2 (j+1) y u (by simpa using h1) (by simpa using h2)⟩
theorem DL.drop {E:gR T} {h:H} {O:Nat->Prop} {ρ:Loc} {l:List (X T)} {vs:List Value} (d:DL E h O ρ l vs) (n:Nat):DL E h O ρ (l.drop n) (vs.drop n):=
 ⟨by simp [d.1],fun j x w h1 h2=>d.2 (n+j) x w (by simpa using h1) (by simpa using h2)⟩
theorem DL.take {E:gR T} {h:H} {O:Nat->Prop} {ρ:Loc} {l:List (X T)} {vs:List Value} (d:DL E h O ρ l vs) (n:Nat):DL E h O ρ (l.take n) (vs.take n):=
 ⟨by simp [d.1],fun j x w h1 h2=>by
  have hj:j < n:=by
   rcases Nat.lt_or_ge j n with h3 |h3
   ·exact h3
   ·rw [List.getElem?_take_eq_none h3] at h1;cases h1
  rw [List.getElem?_take_of_lt hj] at h1 h2
  exact d.2 j x w h1 h2⟩
theorem DL.append {E:gR T} {h:H} {O:Nat->Prop} {ρ:Loc} {l m:List (X T)} {vs us:List Value} (d:DL E h O ρ l vs) (k:DL E h O ρ m us):DL E h O ρ (l++m) (vs++us):=
 ⟨by simp [d.1,k.1],fun j x w h1 h2=>by
  rcases Nat.lt_or_ge j l.length with h3 |h3
  ·rw [List.getElem?_append_left h3] at h1
   rw [List.getElem?_append_left (by rw [← d.1];exact h3)] at h2
   exact d.2 j x w h1 h2
  ·rw [List.getElem?_append_right h3] at h1
   rw [List.getElem?_append_right (by rw [← d.1];exact h3),← d.1] at h2
   exact k.2 _ x w h1 h2⟩
theorem DL.set {E:gR T} {h:H} {O:Nat->Prop} {ρ:Loc} {l:List (X T)} {vs:List Value} (d:DL E h O ρ l vs) (n:Nat) {x:X T} {w:Value} (k:D E h O ρ x w):DL E h O ρ (l.set n x) (vs.set n w):=
 ⟨by simp [d.1],fun j y u h1 h2=>by
  by_cases e:n=j
  ·subst e
   rw [List.getElem?_set] at h1 h2
   simp only [if_true] at h1 h2
   split at h1
   ·rename_i hl
    rw [if_pos (by rw [← d.1];exact hl)] at h2
    simp only [Option.some.injEq] at h1 h2
    rw [← h1,← h2];exact k
   ·cases h1
  ·rw [List.getElem?_set_ne e] at h1 h2
   exact d.2 j y u h1 h2⟩
theorem DL.getD {E:gR T} {h:H} {O:Nat->Prop} {ρ:Loc} {l:List (X T)} {vs:List Value} (d:DL E h O ρ l vs) (n:Nat) (u:Value):D E h O ρ (l.getD n .bad) (vs.getD n u):=by
 rw [List.getD_eq_getElem?_getD,List.getD_eq_getElem?_getD]
 rcases Nat.lt_or_ge n l.length with h1 |h1
 ·rw [List.getElem?_eq_getElem h1,List.getElem?_eq_getElem (show n < vs.length by rw [← d.1];exact h1)]
  exact d.2 n _ _ (List.getElem?_eq_getElem h1) (List.getElem?_eq_getElem _)
 ·rw [List.getElem?_eq_none h1];exact .bad _
theorem AM.mv {E:gR T} {h h':H} {O O':Nat->Prop} {ρ ρ':Loc} {cs:List (X T)} {b:Nat} (d:AM E h O ρ cs b) (m:Mv h h' O O' ρ ρ'):AM E h' O' ρ' cs b:=by
 obtain ⟨k1,k2,t,vs,e,r,k3,k4⟩:=d
 exact ⟨Nat.lt_of_lt_of_le k1 m.next,fun hb=>k2 (m.own b k1 hb),t,vs,e,r,by rw [m.get b k1 k2];exact k3,k4.mv m⟩
def eZ (ρ:Loc) (env:Env T) (b:Nat):Prop:=∃id s o q n off,cW env id=some (s,o)/\o.own=true/\ρ id=some (q,n)/\q.p=some ⟨b,off,none⟩
def ak (B:Nat->Prop) (ρ:Loc) (env:Env T):Nat->Prop:=fun b=>B b\/eZ ρ env b
def lU (E:gR T) (h:H) (O:Nat->Prop) (ρ:Loc) (id:Nat):Ob T->Prop
 | .box cs=>∃q b vs t e r,ρ id=some (q,0)/\q.p=some ⟨b,0,none⟩/\b < h.next/\h.get b=some (.cells t vs e r)/\DL E h O ρ cs vs
 | .os cB e l=>∃q rows,ρ id=some (q,cB)/\0 < cB/\Gr h q e (E.sz e) rows/\rows.length=l.length/\l.length<=maxLen/\∀(i:Nat) (a:T e) (r:List Value),l[i]?=some a->rows[i]?=some r->DL E h O ρ (E.enc e a) r
 | .mp es=>∃q b,ρ id=some (q,0)/\q.p=some ⟨b,0,none⟩/\b < h.next/\h.get b=some (.map es)
 | .fz cB e l=>∃q,ρ id=some (q,cB)/\0 < cB/\D E h O ρ (.ro e l) (.slice q.p q.n q.c)
 | .fb cs=>∃q b,ρ id=some (q,0)/\q.p=some ⟨b,0,none⟩/\AM E h O ρ cs b
structure Km (h:H) (b:Nat) (cs:List Value):Prop where
 lt:b < h.next
 ro:h.get b=some (.ro cs)
theorem Km.at' {h:H} {b:Nat} {cs:List Value} (l:Km h b cs):∃k,h.get b=some k/\k.read=some cs:=⟨_,l.ro,rfl⟩
theorem Mv.AW {h h':H} {O O':Nat->Prop} {ρ ρ':Loc} (m:Mv h h' O O' ρ ρ') {b:Nat} {cs:List Value} (l:Km h b cs) (ho:¬O b):Km h' b cs/\¬O' b:=
 ⟨⟨Nat.lt_of_lt_of_le l.lt m.next,by rw [m.get b l.lt ho];exact l.ro⟩,fun h3=>ho (m.own b l.lt h3)⟩
structure aE (E:gR T) (B:Nat->Prop) (ρ:Loc) (e:EC T) (h:H):Prop where
 top:nB h
 dom:∀id,e.cnt<=id->ρ id=none
 pos:0 < e.cnt
 lG:∀id q n,ρ id=some (q,n)->n < e.cnt
 base:∀b,B b->b < h.next
 jA:∀b,eZ ρ e.env b->¬B b
 AR:∀i j s s' o o' q q' n n' b f f',cW e.env i=some (s,o)->cW e.env j=some (s',o')->o.own=true->o'.own=true->ρ i=some (q,n)->ρ j=some (q',n')->q.p=some ⟨b,f,none⟩->q'.p=some ⟨b,f',none⟩->i=j
 obj:∀id s o,cW e.env id=some (s,o)->s < e.cnt/\lU E h (ak B ρ e.env) ρ id o
 dU:∀g cs,E.dU g=some cs->¬ak B ρ e.env g/\∃vs,Km h g vs/\DL E h (ak B ρ e.env) ρ cs vs
end Go.Ev
namespace Go.Ev
open Go
variable {T:TypeId->Type}
def xc:Value->X T
 | .agg cs=>.agg (cs.toList.map .v)
 | .func (.func g) a b=>.fn g (a.toList.map .v) (b.toList.map .v)
 | .iface t (.agg cs)=>.o9 t (.agg (cs.toList.map .v))
 | .iface t w=>.o9 t (.v w)
 | .tuple (.mk [])=>.v undef
 | .tuple cs=>.gD (cs.toList.map .v)
 |w=>.v w
mutual
def X.cv:X T->Option Value
 | .v w=>some w
 | .agg l=>(X.Nv l).map fun us=>.agg ⟨us⟩
 | .gD l=>(X.Nv l).map fun us=>.tuple ⟨us⟩
 | .o9 t x=>(X.cv x).map fun u=>.iface t u
 |_=>none
def X.Nv:List (X T)->Option (List Value)
 | []=>some []
 |x :: r=>match X.cv x,X.Nv r with
  |some u,some us=>some (u :: us)
  |_,_=>none
end
def bV (ts:List (X T)):Operand->X T
 | .tmp t=>ts.getD t .bad
 | .const v=>xc v
 | .global g=>.gp g 0
 | .func f=>.fn f [] []
def iQ:X T->List (X T)
 | .agg l=>l
 |x=>[x]
def X.one:X T->Bool
 | .agg _ | .gD _ | .bad=>false
 | .v w=>w.oneCell'
 |_=>true
def F1 (agg:Bool) (n o:Nat) (cs:List (X T)) (K:X T->Prop):Prop:=
 need (Nat.ble (o+n) cs.length) (match agg with
  |true=>K (.agg ((cs.drop o).take n))
  |false=>(match (cs.drop o).take n with | [x]=>K x |_=>False))
def xp (k:IntKind):List (X T)->Option (List Int)
 | []=>some []
 | .v (.int k' n) :: r=>(match decide (k'=k),xp k r with |true,some l=>some (n :: l) |_,_=>none)
 |_=>none
def rj:List (X T)->Option (List Bool)
 | []=>some []
 | .v (.bool b) :: r=>(match rj r with |some l=>some (b :: l) |_=>none)
 |_=>none
def z9:List (X T)->Option (List ByteArray)
 | []=>some []
 | .v (.string b) :: r=>(match z9 r with |some l=>some (b :: l) |_=>none)
 |_=>none
def KF (l:List (X T)) (i:Int) (K:X T->Prop):Prop:=match l with
 | .v (.int k _) :: _=>(match xp k l with |some ns=>ny (ns.getD i.toNat 0) fun z=>K (.v (.int k z)) |none=>False)
 | .v (.bool _) :: _=>(match rj l with |some bs=>K (.v (.bool (bs.getD i.toNat false))) |none=>False)
 | .v (.string _) :: _=>(match z9 l with |some ss=>K (.v (.string (ss.getD i.toNat ⟨#[]⟩))) |none=>False)
 |_=>False
def GQ:Nat->Nat->Int->(Nat->Prop)->Prop
 |_,0,_,_=>True
 |j,m+1,k,K=>(k=(j:Int)->K j)/\GQ (j+1) m k K
def BI (i:Int) (j:Nat) (x w:Int):Int:=if i=(j:Int) then x else w
def BJ (i:Int) (j:Nat) (x w:Bool):Bool:=if i=(j:Int) then x else w
def LR (k:IntKind) (i x:Int):Nat->List Int->(List (X T)->Prop)->Prop
 |_,[],K=>K []
 |j,w :: r,K=>ny (BI i j x w) fun z=>LR k i x (j+1) r fun l=>K (.v (.int k z) :: l)
def LU (i:Int) (x:Bool):Nat->List Bool->List (X T)
 |_,[]=>[]
 |j,w :: r=>.v (.bool (BJ i j x w)) :: LU i x (j+1) r
def LV (l:List (X T)) (i:Int) (x:X T) (K:List (X T)->Prop):Prop:=match x with
 | .v (.int k n)=>(match xp k l with |some ns=>LR k i n 0 ns K |none=>False)
 | .v (.bool b)=>(match rj l with |some bs=>K (LU i b 0 bs) |none=>False)
 |_=>False
def Nf (o:Nat) (xs cs:List (X T)):List (X T):=cs.take o++xs++cs.drop (o+xs.length)
def xo:List (X T)->List (Nat × List (X T))->List (X T)
 |cs,[]=>cs
 |cs,(off,xs) :: r=>xo (cs.take off++xs++cs.drop (off+xs.length)) r
def tT (ts:List (X T)) (len:Nat):List (Nat × Nat × Operand)->Option (List (Nat × List (X T)))
 | []=>some []
 |(off,size,x) :: r=>match Nat.beq (iQ (bV ts x)).length size && Nat.ble (off+size) len && (iQ (bV ts x)).all (·.one) with
  |true=>(match tT ts len r with |some l=>some ((off,iQ (bV ts x)) :: l) |none=>none)
  |false=>none
def ou (e e':TypeId) (l:List (T e)):Option (List (T e')):=if h:e=e' then some (h▸l) else none
def D7 (e e':TypeId) (r:T e):Option (T e'):=if h:e=e' then some (h▸r) else none
variable (P:Program) (E:gR T)
def rowsOf {e:TypeId} (s:ByteArray) (f:Int->T e):List (T e):=s.data.toList.map fun b=>f b.toNat
def strOf (l:List Int):ByteArray:=⟨(l.map fun n=>UInt8.ofNat n.toNat).toArray⟩
def Aa (ec:EC T) (e:TypeId):X T->Option (List (T e))
 | .ro e' l=>ou e' e l
 | .os id cB=>(match ec.get id with
   |some (.os v e' l)=>(match Nat.beq v cB with |true=>ou e' e l |false=>none)
   |some (.fz v e' l)=>(match Nat.beq v cB with |true=>ou e' e l |false=>none)
   |_=>none)
 | .v (.slice none 0 _)=>some []
 | .v (.string s)=>(match E.byte e with |some (f,_)=>some (rowsOf s f) |none=>none)
 |_=>none
def fe (ec:EC T):X T->X T × EC T
 | .os id cB=>(match ec.get id with
   |some (.os v e l)=>(match Nat.beq v cB with |true=>(.ro e l,ec.put id (.fz v e l)) |false=>(.bad,ec))
   |some (.fz v e l)=>(match Nat.beq v cB with |true=>(.ro e l,ec) |false=>(.bad,ec))
   |_=>(.bad,ec))
 |x=>(x,ec)
def AX (ec:EC T):List (X T)->List (X T) × EC T
 | []=>([],ec)
 |x :: r=>match fe ec x with
  |(y,ec1)=>(match AX ec1 r with |(l,ec2)=>(y :: l,ec2))
def Iv (e:TypeId) (sz:Nat):Nat->List (X T)->Option (List (T e))
 | 0,_=>some []
 |n+1,cs=>match E.dec e (cs.take sz),Iv e sz n (cs.drop sz) with
  |some r,some l=>some (r :: l)
  |_,_=>none
def Od (n:Nat) (K:Int->Prop):Prop:=∀z:Int,z=(n:Int)->z<=9223372036854775807->K z
def LG (n:Nat) (K:X T->Prop):Prop:=Od n fun z=>K (.v (.int .i64 z))
def pe (ts:List (X T)) (d:Int):Option Operand->(Int->Prop)->Prop
 |none,K=>K d
 |some x,K=>match bV ts x with
  | .v (.int _ n)=>K n
  |_=>False
def xe (n bytes:Nat) (K:Prop):Prop:=n * bytes<=cF/\n<=maxLen/\K
def Ox:Value->(Value->Prop)->Prop
 | .int k _,K=>∃z:Int,K (.int k z)
 | .bool _,K=>∃b:Bool,K (.bool b)
 | .string _,K=>∃s:ByteArray,K (.string s)
 |_,_=>False
def M6:List Value->(List Value->Prop)->Prop
 | [],K=>K []
 |w :: r,K=>Ox w fun v=>M6 r fun l=>K (v :: l)
def OY:Value->(Value->Prop)->Prop
 | .agg cs,K=>M6 cs.toList fun l=>K (.agg ⟨l⟩)
 |w,K=>Ox w K
def Oe (e:TypeId) (l:List (T e)) (lo hi:Int) (K:X T->Prop):Prop:=0<=lo/\lo<=hi/\hi<=(l.length:Int)/\K (.ro e ((l.take hi.toNat).drop lo.toNat))
def dr (op:j8) (ts:List (X T)) (ec:EC T) (K:X T->EC T->Prop):Prop:=
 match op with
 | .move x=>K (bV ts x) ec
 | .pick c a b=>(match bV ts c with | .v (.bool t)=>nv t (K (bV ts a) ec) (K (bV ts b) ec) |_=>False)
 | .alloc _ zero=>K (.ptr ec.cnt 0) (ec.new (.box (zero.map .v)))
 | .box _ size x=>need (Nat.beq (iQ (bV ts x)).length size && (iQ (bV ts x)).all (·.one)) (K (.ptr ec.cnt 0) (ec.new (.box (iQ (bV ts x)))))
 | .build zero ps=>(match tT ts zero.length ps with |some l=>K (.agg (xo (zero.map .v) l)) ec |none=>False)
 | .buildSlice e n size zero ps=>(match tT ts (n * size) ps,Nat.beq size (E.sz e) && Nat.beq zero.length size with
   |some l,true=>(match AX ec (xo ((cE zero n).map .v) l) with
    |(cs,ec1)=>(match Iv E e size n cs with
     |some rows=>xe n 1 (K (.os ec1.cnt 1) (ec1.new (.os 1 e rows)))
     |none=>False))
   |_,_=>False)
 | .load agg n a=>(match bV ts a with
   | .ptr id off=>(match ec.get id with |some (.box cs)=>F1 agg n off cs fun x=>K x ec |some (.fb cs)=>F1 agg n off cs fun x=>K x ec |_=>False)
   | .arr id base size len i=>(match ec.get id,agg,n,size with |some (.box cs),false,1,1=>need (Nat.ble (base+len) cs.length) (KF ((cs.drop base).take len) i fun x=>K x ec) |_,_,_,_=>False)
   | .ea e r off=>F1 agg n off (E.enc e r) fun x=>K x ec
   | .oa id cB e i off=>(match ec.get id with
     |some (.os v e' l)=>need (Nat.beq v cB && Nat.beq e e') (∀r,l[i.toNat]?=some r->F1 agg n off (E.enc e' r) fun x=>K x ec)
     |_=>False)
   | .gp g off=>(match E.dU g with |some cs=>F1 agg n off cs fun x=>K x ec |none=>False)
   | .ga g base size len i=>(match E.dU g,agg,n,size with |some cs,false,1,1=>need (Nat.ble (base+len) cs.length) (KF ((cs.drop base).take len) i fun x=>K x ec) |_,_,_,_=>False)
   |_=>False)
 | .store n a x=>need (Nat.beq (iQ (bV ts x)).length n && (iQ (bV ts x)).all (·.one)) (match bV ts a with
   | .ptr id off=>(match ec.get id with |some (.box cs)=>need (Nat.ble (off+n) cs.length) (K (.v undef) (ec.put id (.box (Nf off (iQ (bV ts x)) cs)))) |_=>False)
   | .arr id base size len i=>(match ec.get id,n,size with
     |some (.box cs),1,1=>need (Nat.ble (base+len) cs.length) (LV ((cs.drop base).take len) i (bV ts x) fun l=>K (.v undef) (ec.put id (.box (Nf base l cs))))
     |_,_,_=>False)
   | .oa id cB e i off=>(match AX ec (iQ (bV ts x)) with
     |(xs,ec1)=>(match ec1.get id with
      |some (.os v e' l)=>need (Nat.beq v cB && Nat.beq e e' && Nat.ble (off+n) (E.sz e')) (∀r,l[i.toNat]?=some r->(match E.dec e' (Nf off xs (E.enc e' r)) with
       |some r'=>K (.v undef) (ec1.put id (.os v e' (l.set i.toNat r')))
       |none=>False))
      |_=>False))
   |_=>False)
 | .nilCheck x=>(match bV ts x with
   | .ptr a b=>K (.ptr a b) ec
   | .arr a b c d i=>K (.arr a b c d i) ec
   | .ea e r o=>K (.ea e r o) ec
   | .gp g o=>K (.gp g o) ec
   | .ga a b c d i=>K (.ga a b c d i) ec
   | .fn g a b=>K (.fn g a b) ec
   | .op w=>K (.op w) ec
   |_=>False)
 | .lp op x y=>(match bV ts x,bV ts y with | .v (.int k a),.v (.int k' b)=>GD op k k' a b fun w=>K (.v w) ec |_,_=>False)
 | .gen o=>need (o.op.operands.toList.all fun x=>(bV ts x).cv.isSome) (match lD P o,o.op with
   | .gF len size,.index _ x i=>(match bV ts x,bV ts i,size with
     | .agg cs,.v (.int _ n),1=>need (Nat.beq cs.length len) (0<=n/\n < (len:Int)/\KF cs n fun x=>K x ec)
     |_,_,_=>False)
   |gk,_=>gQ o.op gk (.one (.at .val)) (ts.map fun x=>x.cv.getD undef) fun w=>K (xc w) ec)
 | .qq n len x i=>(match bV ts x,bV ts i with
   | .agg cs,.v (.int _ k)=>need (Nat.beq cs.length (len * n)) (0<=k/\k < (len:Int)/\GQ 0 len k fun j=>K (.agg ((cs.drop (j * n)).take n)) ec)
   |_,_=>False)
 | .fieldAddr off x=>(match bV ts x with
   | .ptr id o=>K (.ptr id (o+off)) ec
   | .ea e r o=>K (.ea e r (o+off)) ec
   | .oa id cB e i o=>K (.oa id cB e i (o+off)) ec
   | .gp g o=>K (.gp g (o+off)) ec
   |_=>False)
 | .field agg n off x=>(match bV ts x with
   | .agg cs=>F1 agg n off cs fun x=>K x ec
   |_=>False)
 | .qo size x i=>(match bV ts x,bV ts i with
   | .ro e l,.v (.int _ n)=>need (Nat.beq size (E.sz e)) (0<=n/\n < (l.length:Int)/\∀r,l[n.toNat]?=some r->K (.ea e r 0) ec)
   | .os id cB,.v (.int _ n)=>(match ec.get id with
     |some (.os v e l)=>need (Nat.beq v cB && Nat.beq size (E.sz e)) (0<=n/\n < (l.length:Int)/\K (.oa id cB e n 0) ec)
     |some (.fz v e l)=>need (Nat.beq v cB && Nat.beq size (E.sz e)) (0<=n/\n < (l.length:Int)/\∀r,l[n.toNat]?=some r->K (.ea e r 0) ec)
     |_=>False)
   |_,_=>False)
 | .gF len size x i=>(match bV ts x,i,bV ts i with
   | .ptr id o,.const _,.v (.int _ n)=>need (decide (0<=n) && decide (n < (len:Int))) (K (.ptr id (o+n.toNat * size)) ec)
   | .ptr id o,_,.v (.int _ n)=>0<=n/\n < (len:Int)/\K (.arr id o size len n) ec
   | .gp g o,_,.v (.int _ n)=>0<=n/\n < (len:Int)/\K (.ga g o size len n) ec
   | .ea e r o,.const _,.v (.int _ n)=>need (decide (0<=n) && decide (n < (len:Int))) (K (.ea e r (o+n.toNat * size)) ec)
   | .ea e r o,_,.v (.int _ n)=>0<=n/\n < (len:Int)/\GQ 0 len n fun j=>K (.ea e r (o+j * size)) ec
   |_,_,_=>False)
 | .gI size x lo hi=>(match bV ts x with
   | .v (.slice none 0 0)=>pe ts 0 lo fun l=>pe ts 0 hi fun u=>l=0/\u=0/\K (.v (.slice none 0 0)) ec
   |x=>(match fe ec x with
    |(.ro e l,ec1)=>need (Nat.beq size (E.sz e)) (pe ts 0 lo fun a=>pe ts l.length hi fun b=>Oe e l a b fun x=>K x ec1)
    |_=>False))
 | .slice3 size x lo hi mx=>(match fe ec (bV ts x) with
   |(.ro e l,ec1)=>need (Nat.beq size (E.sz e)) (pe ts 0 lo fun a=>pe ts l.length hi fun b=>pe ts l.length (some mx) fun m=>b<=m/\m<=(l.length:Int)/\0 < l.length/\Oe e l a b fun x=>K x ec1)
   |_=>False)
 | .oC f first captured=>K (.fn f (first.map (bV ts)) (captured.map (bV ts))) ec
 | .mR t x=>K (.o9 t (bV ts x)) ec
 | .extract x i=>(match bV ts x with | .gD l=>(match l[i]? with |some y=>K y ec |none=>False) |_=>False)
 | .qp x=>(match bV ts x with
   | .ro _ l=>LG l.length fun x=>K x ec
   | .os id cB=>(match ec.get id with
     |some (.os v _ l)=>need (Nat.beq v cB) (LG l.length fun x=>K x ec)
     |some (.fz v _ l)=>need (Nat.beq v cB) (LG l.length fun x=>K x ec)
     |_=>False)
   | .v (.slice _ n _)=>K (.v (.int .i64 (n:Int))) ec
   |_=>False)
 | .nK kind neg x y=>(match kind,bV ts x,bV ts y with
   | 0,.v (.pointer none),.v (.pointer none)=>K (.v (.bool (neg != true))) ec
   | 0,.v (.pointer none),.ptr _ _=>K (.v (.bool (neg != false))) ec
   | 0,.ptr _ _,.v (.pointer none)=>K (.v (.bool (neg != false))) ec
   | 0,.ea _ _ _,.v (.pointer none)=>K (.v (.bool (neg != false))) ec
   | 1,.v (.slice none _ _),.v (.slice none _ _)=>K (.v (.bool (neg != true))) ec
   | 2,.v .nilFunc,.v .nilFunc=>K (.v (.bool (neg != true))) ec
   | 2,.fn _ _ _,.v .nilFunc=>K (.v (.bool (neg != false))) ec
   | 2,.op _,.v .nilFunc=>K (.v (.bool (neg != false))) ec
   |_,_,_=>False)
 | .append e size bytes s x=>need (Nat.beq size (E.sz e)) (match bV ts s with
   | .v (.slice none 0 0)=>(match Aa E ec e (bV ts x) with
     |some l=>xe l.length bytes (K (.os ec.cnt 1) (ec.new (.os 1 e l)))
     |none=>False)
   | .os id cB=>(match ec.get id,Aa E ec e (bV ts x) with
     |some (.os v e' l),some l2=>need (Nat.beq v cB) (match ou e' e l with
      |some l1=>xe (l1.length+l2.length) bytes (K (.os id ec.cnt) (ec.put id (.os ec.cnt e (l1++l2))))
      |none=>False)
     |_,_=>False)
   |_=>False)
 | .makeSlice e bytes zero l c=>(match bV ts l,bV ts c,E.dec e (zero.map .v) with
   | .v (.int _ l),.v (.int _ c),some z=>need (Nat.beq zero.length (E.sz e)) (0<=l/\l=c/\xe l.toNat bytes (K (.os ec.cnt 1) (ec.new (.os 1 e (List.replicate l.toNat z)))))
   |_,_,_=>False)
 | .gm e x=>(match bV ts x,E.byte e with
   | .v (.string s),some (f,_)=>need (Nat.beq (E.sz e) 1) (xe s.size 1 (K (.os ec.cnt 1) (ec.new (.os 1 e (rowsOf s f)))))
   |_,_=>False)
 | .fK x=>(match fe ec (bV ts x) with
   |(.ro e l,_)=>(match E.byte e with |some (_,g)=>K (.v (.string (strOf (l.map g)))) ec |none=>False)
   |(.v (.slice none 0 _),_)=>K (.v (.string ⟨#[]⟩)) ec
   |_=>False)
 | .makeMap=>K (.mp ec.cnt) (ec.new (.mp []))
 | .lookup kt zero ok m k=>(match bV ts m,(bV ts k).cv with
   | .mp id,some key=>(match ec.get id with
     |some (.mp es)=>OY zero fun w=>∃b:Bool,yw P kt zero key es=some (w,b)/\(match ok with |true=>K (.gD [xc w,.v (.bool b)]) ec |false=>K (xc w) ec)
     |_=>False)
   |_,_=>False)
 | .mapUpdate kt m k v=>(match bV ts m,(bV ts k).cv,(bV ts v).cv with
   | .mp id,some key,some val=>(match ec.get id with
     |some (.mp es)=>∃es',IT P kt key val es=some es'/\K (.v undef) (ec.put id (.mp es'))
     |_=>False)
   |_,_,_=>False)
 | .assert ty ok zero x=>(match bV ts x with
   | .o9 t y=>(match Nat.beq t ty,ok with
     |true,true=>K (.gD [y,.v (.bool true)]) ec
     |true,false=>K y ec
     |false,true=>K (.gD [xc zero,.v (.bool false)]) ec
     |false,false=>False)
   |_=>False)
 | .kB [x]=>K (bV ts x) ec
 | .indexByte s c=>(match bV ts s,bV ts c with
   | .v (.string s),.v (.int .u8 c)=>ny (C3 s.data.toList c.toNat.toUInt8 0) fun z=>K (.v (.int .i64 z)) ec
   |_,_=>False)
 |_=>False
mutual
def X.ids:X T->List Nat
 | .os id _=>[id]
 | .ptr id _=>[id]
 | .arr id _ _ _ _=>[id]
 | .oa id _ _ _ _=>[id]
 | .mp id=>[id]
 | .ab id _ _=>id.toList
 | .agg l=>X.mQ l
 | .gD l=>X.mQ l
 | .fn _ a b=>X.mQ a++X.mQ b
 | .o9 _ x=>X.ids x
 |_=>[]
def X.mQ:List (X T)->List Nat
 | []=>[]
 |x :: r=>X.ids x++X.mQ r
end
mutual
def X.kN (mi:Nat->Option Nat) (mo:Nat->Nat->X T):X T->X T
 | .os id cB=>mo id cB
 | .ptr id off=>(match mi id with |some k=>.ptr k off |none=>.bad)
 | .arr id a b c i=>(match mi id with |some k=>.arr k a b c i |none=>.bad)
 | .oa _ _ _ _ _=>.bad
 | .mp id=>(match mi id with |some k=>.mp k |none=>.bad)
 | .ab id e r=>(match id with
   |none=>.ab none e r
   |some i=>(match mi i with |some k=>.ab (some k) e r |none=>.bad))
 | .agg l=>.agg (X.tN mi mo l)
 | .gD l=>.gD (X.tN mi mo l)
 | .fn g a b=>.fn g (X.tN mi mo a) (X.tN mi mo b)
 | .o9 t x=>.o9 t (X.kN mi mo x)
 |x=>x
def X.tN (mi:Nat->Option Nat) (mo:Nat->Nat->X T):List (X T)->List (X T)
 | []=>[]
 |x :: r=>X.kN mi mo x :: X.tN mi mo r
end
mutual
def X.jJ:X T->Bool
 | .ro _ _=>true
 | .ea _ _ _=>true
 | .op _=>true
 | .ab _ _ _=>true
 | .agg l=>X.pg l
 | .gD l=>X.pg l
 | .fn _ a b=>X.pg a || X.pg b
 | .o9 _ x=>X.jJ x
 |_=>false
def X.pg:List (X T)->Bool
 | []=>false
 |x :: r=>X.jJ x || X.pg r
end
def Ob.ids:Ob T->List Nat
 | .box cs=>X.mQ cs
 | .fb cs=>X.mQ cs
 |_=>[]
def Ob.kN (mi:Nat->Option Nat) (mo:Nat->Nat->X T):Ob T->Ob T
 | .box cs=>.box (X.tN mi mo cs)
 | .fb cs=>.fb (X.tN mi mo cs)
 |o=>o
def Ob.cB (n:Nat):Ob T->Ob T
 | .os _ e l=>.os n e l
 | .fz _ e l=>.fz n e l
 |o=>o
def tO:List Nat->List Nat->List Nat
 |acc,[]=>acc
 |acc,x :: r=>bif kI acc x then tO acc r else tO (acc++[x]) r
def nD (env:Env T):Nat->List Nat->Nat->List Nat
 | 0,acc,_=>acc
 |f+1,acc,i=>match acc[i]? with
  |none=>acc
  |some id=>(match cW env id with
   |some (_,o)=>nD env f (tO acc o.ids) (i+1)
   |none=>nD env f acc (i+1))
def dL:List Nat->Nat->Nat->Option Nat
 | [],_,_=>none
 |x :: r,d,k=>bif Nat.beq x d then some k else dL r d (k+1)
inductive Ch (T:TypeId->Type) where
 |same
 |gP (o:Ob T)
 |gone
def bU (l:List (Ch T)) (k:Nat):Ch T:=l.getD k .same
def xj:Nat->List (Ob T)->Env T
 |_,[]=>[]
 |k,o :: r=>(k,0,o) :: xj (k+1) r
def cO (l:List (Ob T)):EC T:=⟨xj 0 l,l.length+2,0,false⟩
def pq:Nat->List (Ob T)->List (Ch T)->Env T
 |_,[],_=>[]
 |k,o :: r,out=>(match bU out k with
  | .same=>[(k,0,o)]
  | .gP o'=>[(k,0,o')]
  | .gone=>[])++pq (k+1) r out
def fQ (l:List (Ob T)) (out:List (Ch T)) (new:List (Ob T)):EC T:=⟨pq 0 l out++xj l.length new,l.length+new.length+3,0,false⟩
def mP:Ob T->Option Nat
 | .os v _ _=>some v
 | .fz v _ _=>some v
 |_=>none
def zW (ρ:Loc) (Ein:List (Ob T)) (out:List (Ch T)) (b:Nat):Prop:=∃k s o q n off,(match bU out k with | .same=>False |_=>True)/\cW (cO Ein).env k=some (s,o)/\o.own=true/\ρ k=some (q,n)/\q.p=some ⟨b,off,none⟩
def Post (E:gR T) (B:Nat->Prop) (ρ:Loc) (h:H) (Ein:List (Ob T)) (out:List (Ch T)) (new:List (Ob T)) (ρ':Loc) (h':H):Prop:=
 aE E B ρ' (fQ Ein out new) h'/\h.next<=h'.next/\
   (∀b,b < h.next->¬zW ρ Ein out b->h'.get b=h.get b)/\
   (∀b,b < h.next->eZ ρ' (fQ Ein out new).env b->eZ ρ (cO Ein).env b)/\
   (∀k q m,k < Ein.length->ρ k=some (q,m)->match bU out k with
    | .same=>ρ' k=some (q,m)
    | .gP o=>(m=0->ρ' k=some (q,0))/\(m≠0->∃q' m',ρ' k=some (q',m')/\m'≠0)/\(mP o=some 1->ρ' k=some (q,m))
    | .gone=>True)
def cC (W:Rec) (f:X T) (Ein:List (Ob T)) (args:List (X T)) (res:X T) (out:List (Ch T)) (new:List (Ob T)):Prop:=
 ∀(h:H) (B:Nat->Prop) (ρ:Loc) (vf:Value) (vs:List Value),aE E B ρ (cO Ein) h->(∀k,Ein.length<=k->ρ k=none)->D E h (ak B ρ (cO Ein).env) ρ f vf->DL E h (ak B ρ (cO Ein).env) ρ args vs->
  ∃v rc h' ρ',W.call vf vs .dF h=some (.ret v,rc,h')/\D E h' (ak B ρ' (fQ Ein out new).env) ρ' res v/\Post E B ρ h Ein out new ρ' h'
def Oa (W:Rec) (f:X T) (Ein:List (Ob T)) (args:List (X T)) (pv:Value) (out:List (Ch T)) (new:List (Ob T)):Prop:=
 ∀(h:H) (B:Nat->Prop) (ρ:Loc) (vf:Value) (vs:List Value),aE E B ρ (cO Ein) h->(∀k,Ein.length<=k->ρ k=none)->D E h (ak B ρ (cO Ein).env) ρ f vf->DL E h (ak B ρ (cO Ein).env) ρ args vs->
  ∃rc h' ρ',W.call vf vs .dF h=some (.panic pv,rc,h')/\Post E B ρ h Ein out new ρ' h'
structure IK (T:TypeId->Type) where
 R:Type
 res:R->X T
 out:R->List (Ch T)
 new:R->List (Ob T)
 keep:Bool
 fe:Bool
 conv:List Nat:=[]
 eY:Option (Value × (R->Bool)):=none
structure Ow (T:TypeId->Type) where
 R:Type
 enc:R->List (X T)
structure Yl (T:TypeId->Type) where
 R:Type
 enc:R->List (X T)
 xs:List R
inductive F2 where
 |at (a:At)
 |agg (l:List At)
 |os (e:TypeId)
 |ro (e:TypeId)
 |same
 |any
inductive An where
 |slot (t:Tmp) (s:F2)
 |box (t:Tmp) (l:List F2)
 |cont (t:Tmp) (e:TypeId)
 |Et (t:Tmp) (off:Nat) (e:TypeId)
 |k
structure Hi (T:TypeId->Type) where
 sig:FuncId->IK T
 N6:TypeId->Option (IK T):=fun _=>none
 N7:FuncId->Bool:=fun _=>false
 Kk:List (Tmp × List An):=[]
 it:FuncId->Ow T
 loops:List (Tmp × List An)
 y:Option (Yl T)
 yv:Value
mutual
def X.view (ec:EC T):X T->X T
 | .os id cB=>(match ec.get id with
   |some (.os u e l)=>(match Nat.beq u cB with |true=>.ro e l |false=>.bad)
   |some (.fz u e l)=>(match Nat.beq u cB with |true=>.ro e l |false=>.bad)
   |_=>.bad)
 | .agg l=>.agg (X.xl ec l)
 | .gD l=>.gD (X.xl ec l)
 | .o9 t x=>.o9 t (X.view ec x)
 |x=>x
def X.xl (ec:EC T):List (X T)->List (X T)
 | []=>[]
 |x :: r=>X.view ec x :: X.xl ec r
end
mutual
def X.seen (ec:EC T):X T->List Nat
 | .os id _=>(match ec.get id with
   |some (.os _ _ _)=>[id]
   |_=>[])
 | .agg l=>X.ot ec l
 | .gD l=>X.ot ec l
 | .o9 _ x=>X.seen ec x
 |_=>[]
def X.ot (ec:EC T):List (X T)->List Nat
 | []=>[]
 |x :: r=>X.seen ec x++X.ot ec r
end
def Mw (ec:EC T):List Nat->EC T
 | []=>ec
 |id :: r=>(match ec.get id with
  |some (.os v e l)=>Mw (ec.put id (.fz v e l)) r
  |_=>Mw ec r)
def BG (ec:EC T) (L:List Nat) (id cB:Nat):X T:=match dL L id 0,ec.get id with
 |some k,some (.os v _ _)=>(match Nat.beq v cB with |true=>.os k 1 |false=>.bad)
 |some k,some (.fz v _ _)=>(match Nat.beq v cB with |true=>.os k 1 |false=>.bad)
 |_,_=>.bad
def Ks (ec:EC T) (L:List Nat):List Nat->Option (List (Ob T))
 | []=>some []
 |id :: r=>match ec.get id,Ks ec L r with
  |some o,some l=>some ((o.kN (fun i=>dL L i 0) (BG ec L)).cB 1 :: l)
  |_,_=>none
def tP (L:List Nat) (out:List (Ch T)) (new:List (Ob T)) (cnt:Nat) (k:Nat):Option Nat:=bif Nat.blt k L.length then (match bU out k with | .gone=>none |_=>L[k]?) else bif Nat.blt k (L.length+new.length) then some (cnt+(k - L.length)) else none
def oq (ec:EC T) (o:Ob T) (id:Nat):Nat:=match mP o with
 |some u=>bif Nat.beq u 1 then (match ec.get id with |some x=>(match mP x with |some v=>v |none=>ec.cnt) |none=>ec.cnt) else ec.cnt
 |none=>ec.cnt
def FW (ec:EC T) (L:List Nat) (out:List (Ch T)) (k:Nat):Nat:=match bU out k,L[k]? with
 | .same,some id=>(match ec.get id with |some (.os v _ _)=>v |some (.fz v _ _)=>v |_=>0)
 | .gP o,some id=>oq ec o id
 | .gone,some _=>ec.cnt
 |_,none=>1
def Mu (L:List Nat) (out:List (Ch T)) (new:List (Ob T)) (k cB:Nat):Bool:=match bU out k,Nat.blt k L.length with
 | .same,true=>Nat.beq cB 1
 | .gP o,true=>(match mP o with |some u=>Nat.beq cB u |none=>false)
 | .gone,true=>false
 |_,false=>(match new[k - L.length]? with |some o=>(match mP o with |some u=>Nat.beq cB u |none=>false) |none=>false)
def xU (ec:EC T) (L:List Nat) (out:List (Ch T)) (new:List (Ob T)) (k cB:Nat):X T:=match tP L out new ec.cnt k,Mu L out new k cB with
 |some id,true=>.os id (FW ec L out k)
 |_,_=>.bad
def Ip (ec:EC T) (L:List Nat) (out:List (Ch T)) (new:List (Ob T)):Nat->List (Ob T)->Env T->Env T
 |_,[],env=>env
 |k,o :: r,env=>Ip ec L out new (k+1) r ((ec.cnt+k,ec.cnt,(o.kN (tP L out new ec.cnt) (xU ec L out new)).cB 1) :: env)
def Kv (ec:EC T) (L:List Nat) (out:List (Ch T)) (new:List (Ob T)):Nat->List Nat->Env T->Env T
 |_,[],env=>env
 |k,id :: r,env=>Kv ec L out new (k+1) r (match bU out k with
  | .same=>env
  | .gP o=>(id,ec.cnt,(o.kN (tP L out new ec.cnt) (xU ec L out new)).cB (oq ec o id)) :: del env id
  | .gone=>del env id)
def q7 (ec:EC T) (L:List Nat) (out:List (Ch T)) (new:List (Ob T)):EC T:=
 ⟨Ip ec L out new 0 new (Kv ec L out new 0 L ec.env),ec.cnt+new.length+1,ec.k,ec.fin⟩
def we {α:Type}:List α->Bool
 | []=>true
 |_=>false
variable (W:Rec) (Γ:Hi T)
def z6 (ec:EC T):List (X T)->Option (List (List (X T)) × List Nat)
 | []=>some ([],[])
 | .ptr id 0 :: r=>(match ec.get id,z6 ec r with
   |some (.box cs),some (l,m)=>some (cs :: l,id :: m)
   |some (.fb cs),some (l,m)=>some (cs :: l,id :: m)
   |_,_=>none)
 |_=>none
def Kz (ec:EC T):List Nat->EC T
 | []=>ec
 |id :: r=>(match ec.get id with
  |some (.box cs)=>Kz (ec.put id (.fb cs)) r
  |_=>Kz ec r)
def Nb (ec:EC T) (x:X T):Option (X T × EC T):=match x with
 | .fn g [] caps=>(match z6 ec caps with
   |some (css,ids)=>(match E.fold (.fn g css) with |some (.mk id e r)=>some (.ab id e r,Kz ec ids) |none=>none)
   |none=>none)
 | .ptr i 0=>(match z6 ec [.ptr i 0] with
   |some ([cs],ids)=>(match E.fold (.ptr cs) with |some (.mk id e r)=>some (.ab id e r,Kz ec ids) |none=>none)
   |_=>none)
 | .v w=>(match E.fold (.v w) with |some (.mk id e r)=>some (.ab id e r,ec) |none=>none)
 | .ab id e r=>some (.ab id e r,ec)
 |_=>none
def Is (ps:List Nat):Nat->List (X T)->EC T->Option (List (X T) × EC T)
 |_,[],ec=>some ([],ec)
 |k,x :: r,ec=>(match kI ps k with
  |true=>(match Nb E ec x with
   |some (y,ec1)=>(match Is ps (k+1) r ec1 with |some (l,ec2)=>some (y :: l,ec2) |none=>none)
   |none=>none)
  |false=>(match Is ps (k+1) r ec with |some (l,ec2)=>some (x :: l,ec2) |none=>none))
def KC (sg:IK T) (args:List (X T)) (ec:EC T):(List (X T) × EC T) × List Nat:=
 (bif sg.keep then (args,ec) else bif sg.fe then (X.xl ec args,Mw ec (X.ot ec args)) else (X.xl ec args,ec),bif sg.keep || sg.fe then [] else X.ot ec args)
def CC (sg:IK T) (f:X T) (args0:List (X T)) (ec0:EC T) (K:X T->EC T->Prop) (KP:Value->EC T->Prop):Prop:=
 match (match sg.conv with | []=>some (args0,ec0) |ps=>Is E ps 0 args0 ec0) with
 |none=>False
 |some (args,ec)=>(match KC sg args ec with
  |((args1,ec1),V)=>(match tO [] (X.ids f++X.mQ args1) with
   |L0=>(match nD ec1.env (ec1.env.length+L0.length+1) L0 0 with
    |L=>(match Ks ec1 L L with
     |some Ein=>∃r:sg.R,
       let f':=X.kN (fun i=>dL L i 0) (BG ec1 L) f
       let args':=X.tN (fun i=>dL L i 0) (BG ec1 L) args1
       let ok:=we V || ((V.all fun i=>!(kI L i)) && !(X.jJ (sg.res r)) && we (sg.out r) && we (sg.new r))
       let go:=cC E W f' Ein args' (sg.res r) (sg.out r) (sg.new r)/\need ok (K (X.kN (tP L (sg.out r) (sg.new r) ec1.cnt) (xU ec1 L (sg.out r) (sg.new r)) (sg.res r)) (q7 ec1 L (sg.out r) (sg.new r)))
       match sg.eY with
       |none=>go
       |some (v,p)=>nv (p r) (Oa E W f' Ein args' v (sg.out r) (sg.new r)/\need ok (KP v (q7 ec1 L (sg.out r) (sg.new r)))) go
     |none=>False))))
def Of {α:Type} (l:List α) (k:Nat) (r:α):Prop:=l[k]?=some r
def Nd (v w:Value) (K:Prop):Prop:=match v,w with
 | .func (.yield l) ⟨[]⟩ ⟨[]⟩,.func (.yield l') ⟨[]⟩ ⟨[]⟩=>l=l'/\K
 |_,_=>False
def Nc:X T->X T->Prop
 | .v (.int k a),.v (.int k' b)=>need (decide (k=k')) (a=b)
 | .v (.bool a),.v (.bool b)=>a=b
 | .v (.string a),.v (.string b)=>a=b
 | .ro e l,.ro e' l'=>(match ou e e' l with |some x=>x=l' |none=>False)
 |_,_=>False
def vg:List (X T)->List (X T)->Prop
 | [],[]=>True
 | [a],[b]=>Nc a b
 |a :: r,b :: s=>Nc a b/\vg r s
 |_,_=>False
def GY (f:X T) (args:List (X T)) (ec:EC T) (K:X T->EC T->Prop) (KP:Value->EC T->Prop):Prop:=
 match f with
 | .fn g a b=>CC E W (Γ.sig g) (.fn g a b) args ec K KP
 | .ab id e r=>(match Γ.N6 e with
   |some sg=>CC E W sg (.ab id e r) args ec K KP
   |none=>False)
 | .op w=>(match Γ.y,ec.fin with
   |some s,false=>Nd w Γ.yv (∃r:s.R,Of s.xs ec.k r/\vg args (s.enc r)/\K (.v (.bool true)) ⟨ec.env,ec.cnt,ec.k+1,false⟩/\K (.v (.bool false)) ⟨ec.env,ec.cnt,ec.k,true⟩)
   |_,_=>False)
 |_=>False
def It (dst:Option Tmp) (x:X T) (ts:List (X T)) (K:List (X T)->Prop):Prop:=
 match dst with
 |none=>K ts
 |some d=>K (ts.set d x)
def xW (t:Tmp) (b:Bool) (ts:List (X T)):List (X T):=ts.set t (.v (.bool b))
def Iu (c:Operand) (b:Bool) (ts:List (X T)):List (X T):=match c with
 | .tmp t=>xW t b ts
 |_=>ts
def z7 (g:Option (Tmp × Bool)) (ts:List (X T)) (A B:List (X T)->Prop):Prop:=
 match g with
 |none=>A ts
 |some (t,b)=>match ts.getD t .bad with
  | .v (.bool c)=>(match b with |true=>nv c (A (xW t true ts)) (B (xW t false ts)) |false=>nv c (B (xW t true ts)) (A (xW t false ts)))
  | .v _=>B ts
  |_=>False
def CE (g:Option (Tmp × Bool)) (ts:List (X T)) (A B:Prop):Prop:=
 match g with
 |none=>A
 |some (t,b)=>match ts.getD t .bad with
  | .v (.bool c)=>(match b with |true=>nv c A B |false=>nv c B A)
  | .v _=>B
  |_=>False
def Ep (dst:Option Tmp) (x:X T) (ts:List (X T)):List (X T):=match dst with
 |some d=>ts.set d x
 |none=>ts
def Oc (o:AO) (ts:List (X T)) (ec:EC T) (K:List (X T)->EC T->Prop) (KP:Value->EC T->Prop):Prop:=
 match o.op with
 | .call f args | .dA f args=>GY E W Γ (bV ts f) (args.map (bV ts)) ec (fun x ec'=>It o.dst x ts fun ts'=>K ts' ec') KP
 | .panic x=>(match (bV ts x).cv with
   |some (.iface t w)=>KP (.iface t w) ec
   |_=>False)
 | .defer _ _ | .recover=>False
 |op=>dr P E op ts ec fun x ec'=>It o.dst x ts fun ts'=>K ts' ec'
def FZ (o o2:AO):Option ((TypeId × Nat × Nat) × List Value × List (Nat × Nat × Operand) × Tmp × Tmp):=match o.op,o2.op with
 | .buildSlice e n size zero ps,.Au (.tmp t')=>(match o.dst,o.guard,o2.dst,o2.guard with
   |some t,none,some t2,none=>bif Nat.beq t t' then some ((e,n,size),zero,ps,t,t2) else none
   |_,_,_,_=>none)
 |_,_=>none
def O4 (e n size:Nat) (zero:List Value) (ps:List (Nat × Nat × Operand)) (t t2:Tmp) (ts:List (X T)) (ec:EC T) (K:List (X T)->EC T->Prop):Prop:=
 match tT ts (n * size) ps,Nat.beq size (E.sz e) && Nat.beq zero.length size && Nat.blt t ts.length with
 |some l,true=>(match AX ec (xo ((cE zero n).map .v) l) with
  |(cs,ec1)=>(match Iv E e size n cs with
   |some rows=>xe n 1 (K ((ts.set t .bad).set t2 (.ro e rows)) ec1)
   |none=>False))
 |_,_=>False
def F0:List AO->List (X T)->EC T->(List (X T)->EC T->Prop)->(Value->List (X T)->EC T->Prop)->Prop
 | [],ts,ec,K,_=>K ts ec
 | [o],ts,ec,K,KP=>z7 o.guard ts (fun ts=>Oc P E W Γ o ts ec (fun ts' ec'=>K ts' ec') fun v ec'=>KP v ts ec') fun ts=>K (Ep o.dst (.v undef) ts) ec
 |o :: o2 :: r,ts,ec,K,KP=>(match FZ o o2 with
  |some ((e,n,size),zero,ps,t,t2)=>O4 E e n size zero ps t t2 ts ec fun ts' ec'=>F0 r ts' ec' K KP
  |none=>z7 o.guard ts (fun ts=>Oc P E W Γ o ts ec (fun ts' ec'=>F0 (o2 :: r) ts' ec' K KP) fun v ec'=>KP v ts ec') fun ts=>F0 (o2 :: r) (Ep o.dst (.v undef) ts) ec K KP)
def Nu:List AO->List (List (X T) × EC T)->List (X T)->EC T->(List (List (X T) × EC T)->List (X T)->EC T->Prop)->(Value->List (List (X T) × EC T)->List (X T)->EC T->Prop)->Prop
 | [],G,ts,ec,K,_=>K ((ts,ec) :: G) ts ec
 |o :: r,G,ts,ec,K,KP=>z7 o.guard ts (fun ts=>Oc P E W Γ o ts ec (fun ts' ec'=>Nu r ((ts,ec) :: G) ts' ec' K KP) fun v ec'=>KP v ((ts,ec) :: G) ts ec') fun ts=>Nu r ((ts,ec) :: G) (Ep o.dst (.v undef) ts) ec K KP
def yg:oD->Nat->Option (List (Nat × Nat) × List Tmp)
 | [],_=>none
 |c :: r,i=>bif Nat.beq c.1 i then some c.2 else yg r i
def Eu:List Tmp->List (X T)->List (X T)
 | [],ts=>ts
 |t :: r,ts=>Eu r (ts.set t .bad)
def X.good:X T->Bool
 | .v w=>qQ w
 | .ro _ _=>true
 | .os _ _=>true
 | .ptr _ _=>true
 | .mp _=>true
 | .fn _ a b=>we a && we b
 |_=>false
def vi (a b:Option (Nat × Ob T)):Bool:=match a,b with
 |some (s,_),some (s',_)=>Nat.beq s s'
 |_,_=>false
def tS (o:AO):Bool:=match o.op with
 | .store ..=>true
 | .call .. | .dA ..=>false
 |op=>!(ew op)
def lg (ec:EC T) (id cB:Nat):Bool:=match ec.get id with
 |some (.os v _ _)=>Nat.beq v cB
 |some (.fz v _ _)=>Nat.beq v cB
 |_=>false
def BK (ec ec':EC T):List (X T)->List (X T)->Bool
 | [],[]=>true
 | .os a u :: r,.os b v :: s=>Nat.beq a b && Nat.beq u v && lg ec a u && lg ec' a u && BK ec ec' r s
 |_,_=>false
def LW (ops:List AO) (G:List (List (X T) × EC T)):List (Nat × Nat)->Prop->Prop
 | [],K=>K
 |c :: r,K=>(match ops[c.1]?,G[c.1]?,G[c.2]? with
  |some o,some (ts,ec),some (_,ec')=>CE o.guard ts (match o.op with
   | .load _ n x=>(match bV ts x with
     | .ptr id o=>(match ec.get id with
       |some (.box cs)=>need (Nat.ble (o+n) cs.length && ((cs.drop o).take n).all (·.good) && (vi (cW ec.env id) (cW ec'.env id) || (match ec'.get id with |some (.box cs')=>Nat.ble (o+n) cs'.length && BK ec ec' ((cs.drop o).take n) ((cs'.drop o).take n) |_=>false))) True
       |some (.fb cs)=>need (vi (cW ec.env id) (cW ec'.env id) && Nat.ble (o+n) cs.length && ((cs.drop o).take n).all (·.good)) True
       |_=>False)
     | .arr id base size len _=>(match ec.get id with
       |some (.box cs)=>need (vi (cW ec.env id) (cW ec'.env id) && Nat.beq n 1 && Nat.beq size 1 && Nat.ble (base+len) cs.length && ((cs.drop base).take len).all (·.good)) True
       |_=>False)
     | .ea e r o=>need (Nat.ble (o+n) (E.enc e r).length && (E.enc e r).all (·.good) && Nat.ble c.1 c.2) True
     | .gp g o=>(match E.dU g with |some cs=>need (Nat.ble (o+n) cs.length && cs.all (·.good)) True |none=>False)
     | .ga g base size len _=>(match E.dU g with |some cs=>need (Nat.beq n 1 && Nat.beq size 1 && Nat.ble (base+len) cs.length && cs.all (·.good)) True |none=>False)
     | .oa id cB e i o=>(match ec.get id with
       |some (.os v e' l)=>need (vi (cW ec.env id) (cW ec'.env id) && Nat.beq v cB && Nat.beq e e' && Nat.ble (o+n) (E.sz e')) (∀r,l[i.toNat]?=some r->need ((E.enc e' r).all (·.good)) True)
       |_=>False)
     |_=>False)
   |_=>False) True
  |_,_,_=>False)/\LW ops G r K
inductive Iw where
 |at (a:At)
 |l (e:TypeId)
 |n
def Iw.Ty (T:TypeId->Type):Iw->Type
 | .at a=>a.T
 | .l e=>List (T e)
 | .n=>Nat
def rm (T:TypeId->Type):List Iw->Type->Type
 | [],R=>R
 |a :: r,R=>a.Ty T->rm T r R
inductive CX (T:TypeId->Type) where
 |x (w:Value)
 |l (e:TypeId) (l:List (T e))
 |n (n:Nat)
def F2.tys:F2->List Iw
 | .at a=>[.at a]
 | .agg l=>l.map .at
 | .os e=>[.l e]
 | .ro e=>[.l e]
 | .same=>[]
 | .any=>[]
def GZ:List F2->List Iw
 | []=>[]
 |s :: r=>s.tys++GZ r
def An.tys:An->List Iw
 | .slot _ s=>s.tys
 | .box _ l=>GZ l
 | .cont _ e=>[.l e]
 | .Et _ _ e=>[.l e]
 | .k=>[.n]
def ov:List An->List Iw
 | []=>[]
 |i :: r=>i.tys++ov r
def Ab:(l:List Iw)->rm T l Prop->rm T l Nat->(List (CX T)->Prop->Nat->Prop)->Prop
 | [],I,M,K=>K [] I M
 | .at a :: r,I,M,K=>∀x:a.T,Ab r (I x) (M x) fun vs i m=>K (.x (a.enc x) :: vs) i m
 | .l e :: r,I,M,K=>∀x:List (T e),Ab r (I x) (M x) fun vs i m=>K (.l e x :: vs) i m
 | .n :: r,I,M,K=>∀x:Nat,Ab r (I x) (M x) fun vs i m=>K (.n x :: vs) i m
def IM:(l:List Iw)->List (CX T)->rm T l Prop->rm T l Nat->(Prop->Nat->Prop)->Prop
 | [],[],I,M,K=>K I M
 | .at a :: r,.x w :: vs,I,M,K=>a.look w fun x=>IM r vs (I x) (M x) K
 | .l e :: r,.l e' l :: vs,I,M,K=>(match ou e' e l with |some x=>IM r vs (I x) (M x) K |none=>False)
 | .n :: r,.n x :: vs,I,M,K=>IM r vs (I x) (M x) K
 |_,_,_,_,_=>False
def wm (s:F2) (x:X T) (ec:EC T):X T × EC T:=match s,x with
 | .os e,.v (.slice none 0 0)=>(.os ec.cnt 1,ec.new (.os 1 e []))
 |_,x=>(x,ec)
def nj:List F2->List (X T)->EC T->List (X T) × EC T
 |s :: r,x :: xs,ec=>(match wm s x ec with
  |(y,ec1)=>(match nj r xs ec1 with |(ys,ec2)=>(y :: ys,ec2)))
 |_,xs,ec=>(xs,ec)
def G1:List An->List (X T)->EC T->List (X T) × EC T
 | [],ts,ec=>(ts,ec)
 | .slot t s :: r,ts,ec=>(match wm s (ts.getD t .bad) ec with |(x,ec1)=>G1 r (ts.set t x) ec1)
 | .box t ss :: r,ts,ec=>(match ts.getD t .bad with
   | .ptr id 0=>(match ec.get id with
     |some (.box cs)=>(match nj ss cs ec with |(cs',ec1)=>G1 r ts (ec1.put id (.box cs')))
     |_=>G1 r ts ec)
   |_=>G1 r ts ec)
 |_ :: r,ts,ec=>G1 r ts ec
def pT (s:F2) (n:Nat) (x:X T) (cx:List (CX T)) (ec:EC T):Option (X T × List (CX T) × EC T):=
 match s,cx with
 | .at _,.x w :: r=>some (.v w,r,ec)
 | .agg l,r=>(match Nat.ble l.length r.length with
   |true=>some (.agg ((r.take l.length).map fun c=>match c with | .x w=>.v w |_=>.bad),r.drop l.length,ec)
   |false=>none)
 | .os _,.l e l :: r=>(match x with
   | .os id _=>some (.os id n,r,ec.put id (.os n e l))
   |_=>none)
 | .ro _,.l e l :: r=>some (.ro e l,r,ec)
 | .same,r=>some (x,r,ec)
 | .any,r=>some (.bad,r,ec)
 |_,_=>none
def Ac:List F2->Nat->List (X T)->List (CX T)->EC T->Option (List (X T) × List (CX T) × EC T)
 | [],_,[],cx,ec=>some ([],cx,ec)
 |s :: r,n,x :: xs,cx,ec=>(match pT s n x cx ec with
  |some (y,cx1,ec1)=>(match Ac r n xs cx1 ec1 with |some (ys,cx2,ec2)=>some (y :: ys,cx2,ec2) |none=>none)
  |none=>none)
 |_,_,_,_,_=>none
def hd (tE:List (X T)) (eE:EC T) (n:Nat):List An->List (X T)->List (CX T)->EC T->Option (List (X T) × EC T)
 | [],ts,[],ec=>some (ts,ec)
 | .slot t s :: r,ts,cx,ec=>(match pT s n (tE.getD t .bad) cx ec with |some (x,cx1,ec1)=>hd tE eE n r (ts.set t x) cx1 ec1 |none=>none)
 | .box t ss :: r,ts,cx,ec=>(match tE.getD t .bad with
   | .ptr id 0=>(match eE.get id with
     |some (.box cs)=>(match Ac ss n cs cx ec with |some (cs',cx1,ec1)=>hd tE eE n r ts cx1 (ec1.put id (.box cs')) |none=>none)
     |_=>none)
   |_=>none)
 | .cont t _ :: r,ts,.l e l :: cx,ec=>(match tE.getD t .bad with
   | .os id v=>hd tE eE n r ts cx (ec.put id (.os v e l))
   |_=>none)
 | .Et t off _ :: r,ts,.l e l :: cx,ec=>(match tE.getD t .bad with
   | .ptr ib 0=>(match eE.get ib with
     |some (.box cs)=>(match cs.getD off .bad with
      | .os id v=>hd tE eE n r ts cx (ec.put id (.os v e l))
      |_=>none)
     |_=>none)
   |_=>none)
 | .k :: r,ts,.n m :: cx,ec=>hd tE eE n r ts cx ⟨ec.env,ec.cnt,m,ec.fin⟩
 |_,_,_,_=>none
mutual
def X.cR (n:Nat):X T->X T->Bool
 | .ptr a b,.ptr c d=>Nat.beq a c && Nat.beq b d && Nat.blt a n
 | .mp a,.mp b=>Nat.beq a b && Nat.blt a n
 | .fn g a b,.fn g' a' b'=>Nat.beq g g' && X.mJ n a a' && X.mJ n b b'
 | .agg a,.agg b=>X.mJ n a b
 | .bad,.bad=>true
 |_,_=>false
def X.mJ (n:Nat):List (X T)->List (X T)->Bool
 | [],[]=>true
 |x :: r,y :: s=>X.cR n x y && X.mJ n r s
 |_,_=>false
end
def BM:List (X T)->Option (List (CX T))
 | []=>some []
 | .v w :: r=>(match BM r with |some l=>some (.x w :: l) |none=>none)
 |_=>none
def KG (eE ec:EC T):X T->X T->Bool
 | .os a u,.os b v=>Nat.beq a b && Nat.beq u v && Nat.blt a eE.cnt && lg eE a u && lg ec a u
 |_,_=>false
def vj (s:F2) (eE:EC T) (xE x:X T) (ec:EC T):Option (List (CX T)):=
 match s with
 | .at _=>(match x with | .v w=>some [.x w] |_=>none)
 | .agg l=>(match x with | .agg xs=>(match Nat.beq xs.length l.length with |true=>BM xs |false=>none) |_=>none)
 | .os _=>(match xE,x with
   | .os id _,.os id' v=>(match Nat.beq id id',ec.get id' with
     |true,some (.os v' e l)=>(match Nat.beq v v' with |true=>some [.l e l] |false=>none)
     |_,_=>none)
   |_,_=>none)
 | .ro e=>(match x with
   | .ro e' l=>some [.l e' l]
   | .os id v=>(match Nat.ble eE.cnt id,ec.get id with
     |true,some (.os v' e l)=>(match Nat.beq v v' with |true=>some [.l e l] |false=>none)
     |true,some (.fz v' e l)=>(match Nat.beq v v' with |true=>some [.l e l] |false=>none)
     |_,_=>none)
   | .v (.slice none 0 0)=>some [.l e []]
   |_=>none)
 | .same=>(match X.cR eE.cnt xE x || KG eE ec xE x with |true=>some [] |false=>none)
 | .any=>some []
def pE:List F2->EC T->List (X T)->List (X T)->EC T->Option (List (CX T))
 | [],_,[],[],_=>some []
 |s :: r,c,xE :: xsE,x :: xs,ec=>(match vj s c xE x ec,pE r c xsE xs ec with |some a,some b=>some (a++b) |_,_=>none)
 |_,_,_,_,_=>none
def Nw (tE:List (X T)) (eE:EC T) (ts:List (X T)) (ec:EC T):An->Option (List (CX T))
 | .slot t s=>vj s eE (tE.getD t .bad) (ts.getD t .bad) ec
 | .box t ss=>(match tE.getD t .bad with
   | .ptr id 0=>(match eE.get id,ec.get id with
     |some (.box csE),some (.box cs)=>pE ss eE csE cs ec
     |_,_=>none)
   |_=>none)
 | .cont t _=>(match tE.getD t .bad with
   | .os id v=>(match ec.get id with
     |some (.os v' e l)=>(match Nat.beq v v' with |true=>some [.l e l] |false=>none)
     |_=>none)
   |_=>none)
 | .Et t off _=>(match tE.getD t .bad with
   | .ptr ib 0=>(match eE.get ib with
     |some (.box cs)=>(match cs.getD off .bad with
      | .os id v=>(match ec.get id with
        |some (.os v' e l)=>(match Nat.beq v v' with |true=>some [.l e l] |false=>none)
        |_=>none)
      |_=>none)
     |_=>none)
   |_=>none)
 | .k=>some [.n ec.k]
def rd (tE:List (X T)) (eE:EC T) (ts:List (X T)) (ec:EC T):List An->Option (List (CX T))
 | []=>some []
 |i :: r=>(match Nw tE eE ts ec i,rd tE eE ts ec r with |some a,some b=>some (a++b) |_,_=>none)
def CF (ds:List Tmp):Nat->List (X T)->List (X T)
 |_,[]=>[]
 |i,x :: r=>(bif kI ds i then .bad else x) :: CF ds (i+1) r
def Ng (n:Nat) (ech ec:EC T):Bool:=ech.env.all fun (id,s,_)=>Nat.ble n s || vi (cW ech.env id) (cW ec.env id)
def X.LX (n:Nat) (ec:EC T):X T->Bool
 | .os id cB=>!(Nat.beq cB n) || (match ec.get id with |some (.os u _ _)=>Nat.beq u n |_=>false)
 |_=>true
def Nh (n:Nat) (th:List (X T)) (eh:EC T):Bool:=th.all (X.LX n eh) && eh.env.all fun (_,s,o)=>Nat.ble s n || (match o with | .box cs=>cs.all (X.LX n eh) |_=>true)
def LY:List An->Bool
 | []=>false
 | .k :: _=>true
 |_ :: r=>LY r
def iB:List (Tmp × List An)->Tmp->List An
 | [],_=>[]
 |(t,s) :: r,d=>bif Nat.beq t d then s else iB r d
def xq:List (X T)->List Tmp->List (X T)->List (X T)
 |ts,p :: ps,x :: xs=>xq (ts.set p x) ps xs
 |ts,_,_=>ts
def Ni (D:List Tmp) (its:List An) (tE:List (X T)) (eE:EC T) (cx:List (CX T)):Option (List (X T) × EC T):=hd tE eE eE.cnt its (CF D 0 tE) cx ⟨eE.env,eE.cnt+1,eE.k,eE.fin⟩
def mK (D:List Tmp) (its:List An) (tE:List (X T)) (eE:EC T) (ts:List (X T)) (ec:EC T):Option (List (CX T)):=
 match rd tE eE ts ec its with
 |some cx=>(match Ni D its tE eE cx with
  |some (th,eh)=>(match Ng eE.cnt eh ec && Nh eE.cnt th eh && (LY its || Nat.beq eE.k ec.k) && (eE.fin == ec.fin) with |true=>some cx |false=>none)
  |none=>none)
 |none=>none
def Og (W:Rec) (f:X T) (Ein:List (Ob T)) (xs:List (List (X T))):Prop:=
 ∀(h:H) (B:Nat->Prop) (ρ:Loc) (vf:Value) (l:Nat) (Y:Nat->Bool->(Nat->Prop)->(Nat->Prop)->H->Prop),
  aE E B ρ (cO Ein) h->D E h (ak B ρ (cO Ein).env) ρ f vf->
  (∀k fin B1 C1 C2 h1 h2,Y k fin B1 C1 h1->nB h2->h1.next<=h2.next->(∀b,b < h1.next->¬C1 b->h2.get b=h1.get b)->(∀b,C2 b->b < h2.next/\(b < h1.next->C1 b))->Y k fin B1 C2 h2)->
  (∀k x vs B1 C h1,xs[k]?=some x->Y k false B1 C h1->nB h1->(∀b,B1 b\/C b->b < h1.next)->(∀b,C b->¬B1 b)->DL E h1 (fun b=>B1 b\/C b) (fun _=>none) x vs->
   ∃b rc h2 B2,W.call (.func (.yield l) #[] #[]) vs .dF h1=some (.ret (.bool b),rc,h2)/\Y (bif b then k+1 else k) (!b) B2 C h2/\nB h2/\h1.next<=h2.next/\(∀i,i < h1.next->¬B1 i->h2.get i=h1.get i)/\
    (∀i,B2 i->i < h2.next/\(i < h1.next->B1 i)))->
  Y 0 false B (eZ ρ (cO Ein).env) h->
  ∃v rc h' B' C' k fin,W.call vf [.func (.yield l) #[] #[]] .dF h=some (.ret v,rc,h')/\Y k fin B' C' h'/\(fin=false->k=xs.length)/\nB h'
def tU (ec:EC T):List Nat->EC T
 | []=>ec
 |id :: r=>tU (ec.del id) r
def Nj:(l:List Iw)->rm T l Nat
 | []=>(0:Nat)
 |_ :: r=>fun _=>Nj r
def XS:AC->Bool->List (X T)->EC T->(aM->List (X T)->EC T->Prop)->Prop
 | .skip,_,ts,ec,Q=>Q .normal ts ec
 | .IJ ops,_,ts,ec,Q=>F0 P E W Γ ops ts ec (fun ts ec=>match G1 (iB Γ.Kk (c6 (fE ops))) ts ec with |(ts',ec')=>Q .normal ts' ec') fun v=>Q (.panic v)
 | .yq ops aC cuts,_,ts,ec,Q=>Nu P E W Γ ops [] ts ec (fun G ts' ec'=>LW E ops G.reverse aC (Q .normal ts' ec')) fun v G ts' ec'=>(match G with
   |_ :: G0=>(match yg cuts G0.length with
    |some (cks,bads)=>need (bads.all fun t=>kI (fE ops) t) (LW E (ops.take G0.length) G.reverse cks (Q (.panic v) (Eu bads ts') ec'))
    |none=>False)
   | []=>False)
 | .yu _ _ _,_,_,_,_=>False
 | .seq a b,r,ts,ec,Q=>XS a r ts ec fun x ts' ec'=>match x with
   | .normal=>XS b r ts' ec' Q
   | .exit id=>Q (.exit id) ts' ec'
   | .ret=>Q .ret ts' ec'
   | .panic v=>Q (.panic v) ts' ec'
 | .cond c a b,r,ts,ec,Q=>(match bV ts c with | .v (.bool t)=>nv t (XS a r (Iu c true ts) ec Q) (XS b r (Iu c false ts) ec Q) |_=>False)
 | .block id c,r,ts,ec,Q=>XS c r ts ec fun x ts' ec'=>match x with
   | .exit id'=>(match Nat.beq id' id with |true=>Q .normal ts' ec' |false=>Q (.exit id') ts' ec')
   | .normal=>Q .normal ts' ec'
   | .ret=>Q .ret ts' ec'
   | .panic v=>Q (.panic v) ts' ec'
 | .loop c,r,ts,ec,Q=>(match G1 (iB Γ.loops (c6 (aZ c))) ts ec with
   |(tE,eE)=>∃(I:rm T (ov (iB Γ.loops (c6 (aZ c)))) Prop) (M:rm T (ov (iB Γ.loops (c6 (aZ c)))) Nat),
    (match mK (aZ c) (iB Γ.loops (c6 (aZ c))) tE eE tE eE with |some cx=>IM _ cx I M fun i _=>i |none=>False)/\
    Ab _ I M fun cx i m=>i->(match Ni (aZ c) (iB Γ.loops (c6 (aZ c))) tE eE cx with
     |some (th,eh)=>XS c r th eh fun x ts' ec'=>match x with
      | .normal=>(match mK (aZ c) (iB Γ.loops (c6 (aZ c))) tE eE ts' ec' with
        |some cx'=>IM _ cx' I M fun i' m'=>i'/\m' < m
        |none=>False)
      | .exit id=>Q (.exit id) ts' ec'
      | .ret=>Q .ret ts' ec'
      | .panic v=>Q (.panic v) ts' ec'
     |none=>False))
 | .rangeFunc f ps as bd,r,ts,ec,Q=>(match r,bV ts f,Γ.y with
   |false,.fn g a b,none=>(match tO [] (X.mQ a++X.mQ b) with
    |L0=>(match nD ec.env (ec.env.length+L0.length+1) L0 0 with
     |L=>(match Ks ec L L with
      |some Ein=>∃xs:List (Γ.it g).R,Og E W (.fn g (X.tN (fun i=>dL L i 0) (BG ec L) a) (X.tN (fun i=>dL L i 0) (BG ec L) b)) Ein (xs.map (Γ.it g).enc)/\
        (match G1 (iB Γ.loops (c6 ps)) ts (tU ec L) with
        |(tE,eE)=>∃I:Nat->rm T (ov (iB Γ.loops (c6 ps))) Prop,
         (match mK (aZ as++aZ bd) (iB Γ.loops (c6 ps)) tE eE tE eE with |some cx=>IM _ cx (I 0) (Nj _) fun i _=>i |none=>False)/\
         (∀k x,xs[k]?=some x->Ab _ (I k) (Nj _) fun cx i _=>i->(match Ni (aZ as++aZ bd) (iB Γ.loops (c6 ps)) tE eE cx with
          |some (th,eh)=>need (Nat.beq ps.length ((Γ.it g).enc x).length && ((Γ.it g).enc x).all (·.row)) (XS as true (xq th ps ((Γ.it g).enc x)) eh fun y t1 e1=>match y with
           | .normal=>XS bd true t1 e1 fun z _ e2=>match z with
             | .normal=>(match mK (aZ as++aZ bd) (iB Γ.loops (c6 ps)) tE eE tE e2 with
               |some cx'=>IM _ cx' (I (k+1)) (Nj _) fun i' _=>i'
               |none=>False)
             | .exit id=>Q (.exit id) tE e2
             | .ret=>Q .ret tE e2
             | .panic _=>False
           |_=>False)
          |none=>False))/\
         (Ab _ (I xs.length) (Nj _) fun cx i _=>i->(match Ni (aZ as++aZ bd) (iB Γ.loops (c6 ps)) tE eE cx with
          |some (_,eh)=>Q .normal tE eh
          |none=>False)))
      |none=>False)))
   |_,_,_=>False)
 | .exit id,_,ts,ec,Q=>Q (.exit id) ts ec
 | .ret,_,ts,ec,Q=>Q .ret ts ec
 | .stuck,_,_,_,_=>False
def Ew (ts:List (X T)) (ec:EC T):List Db->Option (List (X T))
 | []=>some []
 | .tmp t :: r=>(match ts.getD t .bad,Ew ts ec r with
   | .bad,_=>none
   | .gD _,_=>none
   | .v w,some l=>(match nO w with |true=>none |false=>some (.v w :: l))
   |x,some l=>some (x :: l)
   |_,none=>none)
 | .cell t agg n :: r=>(match ts.getD t .bad,Ew ts ec r with
   | .ptr id o,some l=>(match ec.get id with
     |some (.box cs)=>(match Nat.ble (o+n) cs.length,agg,(cs.drop o).take n with
      |true,true,xs=>some (.agg xs :: l)
      |true,false,[x]=>some (x :: l)
      |_,_,_=>none)
     |_=>none)
   |_,_=>none)
def LZ:List (X T)->X T
 | [x]=>x
 |l=>.gD l
mutual
def X.Oy:X T->X T->List (Nat × Nat)
 | .os id _,.os k _=>[(id,k)]
 | .ptr id _,.ptr k _=>[(id,k)]
 | .mp id,.mp k=>[(id,k)]
 | .agg a,.agg b=>X.Ix a b
 | .gD a,.gD b=>X.Ix a b
 | .fn _ a b,.fn _ a' b'=>X.Ix a a'++X.Ix b b'
 | .o9 _ a,.o9 _ b=>X.Oy a b
 |_,_=>[]
def X.Ix:List (X T)->List (X T)->List (Nat × Nat)
 |a :: r,b :: s=>X.Oy a b++X.Ix r s
 |_,_=>[]
end
def O5:Ob T->Ob T->List (Nat × Nat)
 | .box a,.box b=>X.Ix a b
 |_,_=>[]
def xu:List (Nat × Nat)->Nat->Option Nat
 | [],_=>none
 |(a,b) :: r,d=>bif Nat.beq a d then some b else xu r d
def Ny (a b:Option Nat):Bool:=match a,b with
 |some x,some y=>Nat.beq x y
 |_,_=>false
mutual
def X.pF (f:Nat->Option Nat) (w:Nat->Nat) (ec:EC T):X T->X T->Prop
 |_,.bad=>True
 | .v (.int k a),.v (.int k' b)=>need (decide (k=k')) (a=b)
 | .v (.bool a),.v (.bool b)=>a=b
 | .v (.string a),.v (.string b)=>a=b
 | .v (.slice none 0 0),.ro _ l=>l=[]
 | .v a,.v b=>a=b
 | .op a,.op b=>a=b
 | .ro e l,.ro e' l'=>(match ou e e' l with |some x=>x=l' |none=>False)
 | .os id u,.ro e' l'=>need (match f id with |none=>true |some _=>false) (match ec.get id with
   |some (.os u' e l)=>need (Nat.beq u u') (match ou e e' l with |some x=>x=l' |none=>False)
   |some (.fz u' e l)=>need (Nat.beq u u') (match ou e e' l with |some x=>x=l' |none=>False)
   |_=>False)
 | .os id u,.os k u'=>need (Ny (f id) (some k) && lg ec id u && Nat.beq u' (w k)) True
 | .ptr id o,.ptr k o'=>need (Ny (f id) (some k) && Nat.beq o o') True
 | .mp id,.mp k=>need (Ny (f id) (some k)) True
 | .agg a,.agg b=>X.vk f w ec a b
 | .gD a,.gD b=>X.vk f w ec a b
 | .fn g a b,.fn g' a' b'=>need (Nat.beq g g') (X.vk f w ec a a'/\X.vk f w ec b b')
 | .o9 t a,.o9 t' b=>need (Nat.beq t t') (X.pF f w ec a b)
 |_,_=>False
def X.vk (f:Nat->Option Nat) (w:Nat->Nat) (ec:EC T):List (X T)->List (X T)->Prop
 | [],[]=>True
 | [a],[b]=>X.pF f w ec a b
 |a :: r,b :: s=>X.pF f w ec a b/\X.vk f w ec r s
 |_,_=>False
end
def KH (f:Nat->Option Nat) (w:Nat->Nat) (ec:EC T):Ob T->Ob T->Prop
 | .box a,.box b=>X.vk f w ec a b
 | .os _ e l,.os _ e' l'=>(match ou e e' l with |some x=>x=l' |none=>False)
 | .mp a,.mp b=>a=b
 |_,_=>False
def L3 (n:Nat) (ec:EC T):Nat->List (Ch T)->List (Nat × Nat)
 |_,[]=>[]
 |k,.gP o :: r=>(match ec.get k with |some o'=>(O5 o' o).filter fun p=>Nat.ble n p.2 |none=>[])++L3 n ec (k+1) r
 |k,_ :: r=>L3 n ec (k+1) r
def pG (n:Nat) (out:List (Ch T)) (b:List (Nat × Nat)) (id:Nat):Option Nat:=
 match Nat.blt id n,bU out id with
 |true,.gone=>xu b id
 |true,_=>some id
 |false,_=>xu b id
def wo (n:Nat) (out:List (Ch T)) (ec:EC T) (k:Nat):Nat:=match Nat.blt k n,bU out k with
 |true,.gP o=>(match mP o with |some u=>u |none=>2)
 |true,_=>(match ec.get k with |some o=>(match mP o with |some v=>v |none=>0) |none=>0)
 |false,_=>1
def CG (o o':Ob T):Bool:=match mP o with
 |some u=>(Nat.beq u 1 && (match mP o' with |some v=>Nat.beq v 1 |none=>false)) || Nat.beq u 2
 |none=>true
def CH (n:Nat) (out:List (Ch T)) (b:List (Nat × Nat)) (ec:EC T):Nat->Prop->Prop
 | 0,K=>K
 |k+1,K=>CH n out b ec k (match bU out k with
  | .same=>need (match cW ec.env k with |some (0,_)=>true |_=>false) K
  | .gP o=>(match ec.get k with |some o'=>need (CG o o') (KH (pG n out b) (wo n out ec) ec o' o/\K) |none=>False)
  | .gone=>K)
def nq:List (Nat × Nat)->Nat->Option Nat
 | [],_=>none
 |(a,b) :: r,d=>bif Nat.beq b d then some a else nq r d
def CI (n:Nat) (out:List (Ch T)) (b:List (Nat × Nat)) (ec:EC T):Nat->List (Ob T)->Prop->Prop
 |_,[],K=>K
 |j,o :: r,K=>(match nq b (n+j) with
  |some id=>(match ec.get id with |some o'=>KH (pG n out b) (wo n out ec) ec o' o/\CI n out b ec (j+1) r K |none=>False)
  |none=>False)
def okB (n m:Nat):List (Nat × Nat)->Bool
 | []=>true
 |(a,b) :: r=>Nat.ble n b && Nat.blt b m && (r.all fun p=>(Nat.beq p.1 a && Nat.beq p.2 b) || (!(Nat.beq p.1 a) && !(Nat.beq p.2 b))) && okB n m r
def BN (w:Nat) (l:List (Ob T)):Bool:=l.all fun o=>match mP o with |some v=>Nat.beq v w |none=>true
def Iy (n:Nat) (res:X T) (out:List (Ch T)) (new:List (Ob T)) (x:X T) (ec:EC T):Prop:=
 match ((X.Oy x res).filter fun p=>Nat.ble n p.2)++L3 n ec 0 out with
 |b=>need (BN 1 new && okB n (n+new.length) b && b.all (fun p=>Nat.ble n p.1 || (match bU out p.1 with | .gone=>true |_=>false)) && Nat.ble out.length n)
   (CH n out b ec n (CI n out b ec 0 new (X.pF (pG n out b) (wo n out ec) ec x res)))
def KI (n:Nat) (res:X T) (out:List (Ch T)) (new:List (Ob T)) (pn:Option (Value × Bool)) (rs:List Db) (m:Option Value) (ts:List (X T)) (ec:EC T):Prop:=
 match m with
 |none=>(match Ew ts ec rs with
  |some l=>(match pn with |none=>Iy n res out new (LZ l) ec |some (_,b)=>b=false/\Iy n res out new (LZ l) ec)
  |none=>False)
 |some v=>(match pn with
  |some (w,b)=>v=w/\b=true/\Iy n .bad out new .bad ec
  |none=>False)
def sC (Tf:Nat->Option kM) (g:Nat) (Ein:List (Ob T)) (ins:List (X T)) (res:X T) (out:List (Ch T)) (new:List (Ob T)) (pn:Option (Value × Bool)):Prop:=
 match Tf g with
 |some fn=>need (BN 1 Ein && Γ.y.isNone) (XS P E W Γ fn.body false (ins++List.replicate (fn.ntmps - ins.length) (.v undef)) (cO Ein) fun x ts ec=>
  match x with
  | .normal | .ret=>KI Ein.length res out new pn fn.results none ts ec
  | .panic v=>KI Ein.length res out new pn fn.results (some v) ts ec
  | .exit _=>False)
 |none=>False
def eX (sg:IK T) (r:sg.R):Option (Value × Bool):=match sg.eY with
 |none=>none
 |some (v,p)=>some (v,p r)
end Go.Ev
namespace Go.Ev
open Go
variable {T:TypeId->Type} {E:gR T} {B B' B'':Nat->Prop} {ρ ρ' ρ'':Loc} {ec ec' ec'':EC T} {h h' h'':H}
structure Ext (B:Nat->Prop) (ρ:Loc) (ec:EC T) (h:H) (B':Nat->Prop) (ρ':Loc) (ec':EC T) (h':H):Prop where
 mv:Mv h h' (ak B ρ ec.env) (ak B' ρ' ec'.env) ρ ρ'
 cnt:ec.cnt<=ec'.cnt
 xV:∀id s o,cW ec'.env id=some (s,o)->s < ec.cnt->cW ec.env id=some (s,o)/\∀q n b off,ρ id=some (q,n)->q.p=some ⟨b,off,none⟩->o.own=true->h'.get b=h.get b
theorem Ext.refl:Ext B ρ ec h B ρ ec h:=⟨Mv.refl _ _ _,Nat.le_refl _,fun _ _ _ hf _=>⟨hf,fun _ _ _ _ _ _ _=>rfl⟩⟩
def Ob.vn:Ob T->Nat
 | .os v _ _=>v
 | .fz v _ _=>v
 |_=>0
theorem lU.loc {O:Nat->Prop} {id:Nat} {o:Ob T} (ho:lU E h O ρ id o):∃q,ρ id=some (q,o.vn):=by
 cases o with
 |box cs=>obtain ⟨q,b,vs,t,e,r,h1,_⟩:=ho;exact ⟨q,h1⟩
 |os v e l=>obtain ⟨q,rows,h1,_⟩:=ho;exact ⟨q,h1⟩
 |mp es=>obtain ⟨q,b,h1,_⟩:=ho;exact ⟨q,h1⟩
 |fz v e l=>obtain ⟨q,h1,_⟩:=ho;exact ⟨q,h1⟩
 |fb cs=>obtain ⟨q,b,h1,_⟩:=ho;exact ⟨q,h1⟩
theorem aE.rf (I:aE E B ρ ec h) {id s b off n:Nat} {o:Ob T} {q:SV} (hf:cW ec.env id=some (s,o)) (ho:o.own=true) (hq:ρ id=some (q,n)) (hb:q.p=some ⟨b,off,none⟩):b < h.next:=by
 obtain ⟨_,hk⟩:=I.obj id s o hf
 cases o with
 |box cs=>
  obtain ⟨q',b',vs,t,e,r,h1,h2,h3,_⟩:=hk
  rw [hq] at h1;cases h1;rw [hb] at h2;cases h2;exact h3
 |os v e l=>
  obtain ⟨q',rows,h1,_,hg,_⟩:=hk
  rw [hq] at h1;cases h1
  rcases hg.2 with ⟨e1,_⟩ |⟨b',t,e1,hlt,_⟩
  ·rw [e1] at hb;cases hb
  ·rw [e1] at hb;cases hb;exact hlt
 |mp es=>
  obtain ⟨q',b',h1,h2,h3,_⟩:=hk
  rw [hq] at h1;cases h1;rw [hb] at h2;cases h2;exact h3
 |fz v e l=>cases ho
 |fb cs=>cases ho
theorem aE.jX (I:aE E B ρ ec h) {b:Nat} (hb:ak B ρ ec.env b):b < h.next:=by
 rcases hb with h1 |⟨id,s,o,q,n,off,h1,h2,h3,h4⟩
 ·exact I.base b h1
 ·exact I.rf h1 h2 h3 h4
theorem Mv.same {O O':Nat->Prop} (m:Mv h h' O O' ρ ρ') {id n:Nat} {q q':SV} (h1:ρ id=some (q,n)) (h2:ρ' id=some (q',n)):q'=q:=by
 obtain ⟨q1,n1,e1,_,e3,_⟩:=m.loc id q n h1
 rw [h2] at e1;cases e1
 exact e3 rfl
theorem Ext.trans (I0:aE E B ρ ec h) (I1:aE E B' ρ' ec' h') (a:Ext B ρ ec h B' ρ' ec' h') (b:Ext B' ρ' ec' h' B'' ρ'' ec'' h''):Ext B ρ ec h B'' ρ'' ec'' h'':=by
 refine ⟨a.mv.trans b.mv,Nat.le_trans a.cnt b.cnt,fun id s o hf hs=>?_⟩
 obtain ⟨h1,h2⟩:=b.xV id s o hf (Nat.lt_of_lt_of_le hs a.cnt)
 obtain ⟨h3,h4⟩:=a.xV id s o h1 hs
 refine ⟨h3,fun q n b' off hq hb ho=>?_⟩
 obtain ⟨q0,e0⟩:=lU.loc (I0.obj id s o h3).2
 obtain ⟨q1,e1⟩:=lU.loc (I1.obj id s o h1).2
 have hsame:=a.mv.same e0 e1
 rw [hq] at e0;cases e0
 subst hsame
 exact (h2 q1 _ b' off e1 hb ho).trans (h4 q1 _ b' off hq hb ho)
theorem aE.lN (I:aE E B ρ ec h) (i0 s0:Nat) (o0:Ob T)
  (henv:∀id,cW ec'.env id=if id=i0 then some (s0,o0) else cW ec.env id) (hs:ec.cnt<=s0) (hs':s0 < ec'.cnt) (hid:i0 < ec'.cnt)
  (hρ:∀id,id≠i0->ρ' id=ρ id) (hρ0:∀q n,ρ i0=some (q,n)->∃q' n',ρ' i0=some (q',n')/\n<=n'/\(n=n'->q'=q)/\(n=0->n'=0)) (hv:∀q n,ρ' i0=some (q,n)->n < ec'.cnt)
  (hT:nB h') (hn:h.next<=h'.next)
  (hget:∀b,b < h.next->(∀s o q n off,cW ec.env i0=some (s,o)->o.own=true->ρ i0=some (q,n)->q.p≠some ⟨b,off,none⟩)->h'.get b=h.get b)
  (hnew:∀q n b off,o0.own=true->ρ' i0=some (q,n)->q.p=some ⟨b,off,none⟩->h.next<=b/\b < h'.next\/∃s o q1 n1 off1,cW ec.env i0=some (s,o)/\o.own=true/\ρ i0=some (q1,n1)/\q1.p=some ⟨b,off1,none⟩)
  (hob:Mv h h' (ak B ρ ec.env) (ak B ρ' ec'.env) ρ ρ'->lU E h' (ak B ρ' ec'.env) ρ' i0 o0):
  aE E B ρ' ec' h'/\Ext B ρ ec h B ρ' ec' h'/\∀b,B b->h'.get b=h.get b:=by
 have hle:ec.cnt<=ec'.cnt:=by omega
 have hownB:∀b,b < h.next->eZ ρ' ec'.env b->eZ ρ ec.env b:=by
  rintro b hb ⟨id,s,o,q,n,off,h1,h2,h3,h4⟩
  rw [henv] at h1
  split at h1
  ·rename_i he;subst he
   cases h1
   rcases hnew q n b off h2 h3 h4 with h5 |⟨s,o,q1,n1,off1,g1,g2,g3,g4⟩
   ·omega
   ·exact ⟨_,s,o,q1,n1,off1,g1,g2,g3,g4⟩
  ·rename_i he
   rw [hρ id he] at h3
   exact ⟨id,s,o,q,n,off,h1,h2,h3,h4⟩
 have hmv:Mv h h' (ak B ρ ec.env) (ak B ρ' ec'.env) ρ ρ':=by
  refine ⟨hn,fun b hb ho=>hget b hb fun s o q n off g1 g2 g3 g4=>ho (.inr ⟨i0,s,o,q,n,off,g1,g2,g3,g4⟩),fun b hb ho=>?_,fun id q n hq=>?_⟩
  ·rcases ho with h1 |h1
   ·exact .inl h1
   ·exact .inr (hownB b hb h1)
  ·by_cases he:id=i0
   ·subst he;exact hρ0 q n hq
   ·exact ⟨q,n,by rw [hρ id he];exact hq,Nat.le_refl _,fun _=>rfl,fun e=>e⟩
 have hother:∀id s o q n b off,id≠i0->cW ec.env id=some (s,o)->o.own=true->ρ id=some (q,n)->q.p=some ⟨b,off,none⟩->h'.get b=h.get b:=by
  intro id s o q n b off he hf ho hq hb
  refine hget b (I.rf hf ho hq hb) fun s1 o1 q1 n1 off1 g1 g2 g3 g4=>?_
  exact he (I.AR id i0 s s1 o o1 q q1 n n1 b off off1 hf g1 ho g2 hq g3 hb g4)
 have hB:∀b,B b->h'.get b=h.get b:=fun b hb=>hget b (I.base b hb) fun s o q n off g1 g2 g3 g4=>I.jA b ⟨i0,s,o,q,n,off,g1,g2,g3,g4⟩ hb
 refine ⟨⟨hT,fun id hc=>?_,by omega,fun id q n hq=>?_,fun b hb=>Nat.lt_of_lt_of_le (I.base b hb) hn,?_,?_,?_,?_⟩,⟨hmv,hle,?_⟩,hB⟩
 ·rw [hρ id (by omega)];exact I.dom id (by omega)
 ·by_cases he:id=i0
  ·subst he;exact hv q n hq
  ·rw [hρ id he] at hq
   exact Nat.lt_of_lt_of_le (I.lG id q n hq) hle
 ·rintro b ⟨id,s,o,q,n,off,h1,h2,h3,h4⟩ hb
  rw [henv] at h1
  split at h1
  ·rename_i he;subst he
   cases h1
   rcases hnew q n b off h2 h3 h4 with h5 |⟨s,o,q1,n1,off1,g1,g2,g3,g4⟩
   ·have:=I.base b hb;omega
   ·exact I.jA b ⟨_,s,o,q1,n1,off1,g1,g2,g3,g4⟩ hb
  ·rename_i he
   rw [hρ id he] at h3
   exact I.jA b ⟨id,s,o,q,n,off,h1,h2,h3,h4⟩ hb
 ·intro i j s s' o o' q q' n n' b f f' h1 h2 h3 h4 h5 h6 h7 h8
  rw [henv] at h1 h2
  by_cases ei:i=i0<;>by_cases ej:j=i0
  ·rw [ei,ej]
  ·exfalso
   subst ei
   rw [if_pos rfl] at h1
   rw [if_neg ej] at h2
   cases h1
   rw [hρ j ej] at h6
   rcases hnew q n b f h3 h5 h7 with g |⟨s1,o1,q1,n1,off1,g1,g2,g3,g4⟩
   ·have:=I.rf h2 h4 h6 h8;omega
   ·exact ej (I.AR _ _ s' s1 o' o1 q' q1 n' n1 b f' off1 h2 g1 h4 g2 h6 g3 h8 g4)
  ·exfalso
   subst ej
   rw [if_pos rfl] at h2
   rw [if_neg ei] at h1
   cases h2
   rw [hρ i ei] at h5
   rcases hnew q' n' b f' h4 h6 h8 with g |⟨s1,o1,q1,n1,off1,g1,g2,g3,g4⟩
   ·have:=I.rf h1 h3 h5 h7;omega
   ·exact ei (I.AR _ _ s s1 o o1 q q1 n n1 b f off1 h1 g1 h3 g2 h5 g3 h7 g4)
  ·rw [if_neg ei] at h1
   rw [if_neg ej] at h2
   rw [hρ i ei] at h5
   rw [hρ j ej] at h6
   exact I.AR i j s s' o o' q q' n n' b f f' h1 h2 h3 h4 h5 h6 h7 h8
 ·intro id s o hf
  rw [henv] at hf
  split at hf
  ·rename_i he;subst he
   cases hf
   exact ⟨hs',hob hmv⟩
  ·rename_i he
   obtain ⟨g1,g2⟩:=I.obj id s o hf
   refine ⟨by omega,?_⟩
   cases o with
   |box cs=>
    obtain ⟨q,b,vs,t,e,r,k1,k2,k3,k4,k5⟩:=g2
    exact ⟨q,b,vs,t,e,r,by rw [hρ id he];exact k1,k2,by omega,by rw [hother id s _ q 0 b 0 he hf rfl k1 k2];exact k4,k5.mv hmv⟩
   |os v e l=>
    obtain ⟨q,rows,k1,k0,k2,k3,k4,k5⟩:=g2
    refine ⟨q,rows,by rw [hρ id he];exact k1,k0,⟨k2.1,?_⟩,k3,k4,fun i a r h1 h2=>(k5 i a r h1 h2).mv hmv⟩
    rcases k2.2 with h1 |⟨b,t,h1,h2,h3⟩
    ·exact .inl h1
    ·exact .inr ⟨b,t,h1,by omega,by rw [hother id s _ q v b 0 he hf rfl k1 (by rw [h1])];exact h3⟩
   |mp es=>
    obtain ⟨q,b,k1,k2,k3,k4⟩:=g2
    exact ⟨q,b,by rw [hρ id he];exact k1,k2,by omega,by rw [hother id s _ q 0 b 0 he hf rfl k1 k2];exact k4⟩
   |fz v e l=>
    obtain ⟨q,k1,k0,k2⟩:=g2
    exact ⟨q,by rw [hρ id he];exact k1,k0,k2.mv hmv⟩
   |fb cs=>
    obtain ⟨q,b,k1,k2,k3⟩:=g2
    exact ⟨q,b,by rw [hρ id he];exact k1,k2,k3.mv hmv⟩
 ·intro g cs hg
  obtain ⟨g1,vs,g2,g3⟩:=I.dU g cs hg
  exact ⟨(hmv.AW g2 g1).2,vs,(hmv.AW g2 g1).1,g3.mv hmv⟩
 ·intro id s o hf hlt
  rw [henv] at hf
  split at hf
  ·cases hf;omega
  ·rename_i he
   exact ⟨hf,fun q n b off hq hb ho=>hother id s o q n b off he hf ho hq hb⟩
end Go.Ev
namespace Go.Ev
open Go
variable {T:TypeId->Type} {P:Program} {E:gR T} {B:Nat->Prop} {ρ ρ' ρ'':Loc} {ec ec' ec'':EC T} {h h' h'':H} {O:Nat->Prop}
structure q9 (E:gR T) (B:Nat->Prop) (ρ:Loc) (ec:EC T) (h:H) (ρ':Loc) (ec':EC T) (h':H):Prop where
 inv:aE E B ρ' ec' h'
 ext:Ext B ρ ec h B ρ' ec' h'
 keep:∀b,B b->h'.get b=h.get b
 k:ec'.k=ec.k
 fin:ec'.fin=ec.fin
theorem q9.refl (I:aE E B ρ ec h):q9 E B ρ ec h ρ ec h:=⟨I,Ext.refl,fun _ _=>rfl,rfl,rfl⟩
theorem q9.trans (I:aE E B ρ ec h) (a:q9 E B ρ ec h ρ' ec' h') (b:q9 E B ρ' ec' h' ρ'' ec'' h''):q9 E B ρ ec h ρ'' ec'' h'':=
 ⟨b.inv,a.ext.trans I a.inv b.ext,fun c hc=>(b.keep c hc).trans (a.keep c hc),b.k.trans a.k,b.fin.trans a.fin⟩
theorem CJ (ec:EC T) (o:Ob T) (id:Nat):cW (ec.new o).env id=if id=ec.cnt then some (ec.cnt,o) else cW ec.env id:=by
 show cW ((ec.cnt,ec.cnt,o) :: ec.env) id=_
 rw [gx]
 by_cases e:id=ec.cnt
 ·rw [if_pos e,if_pos e.symm]
 ·rw [if_neg e,if_neg (Ne.symm e)]
theorem iy (ec:EC T) (i:Nat) (o:Ob T) (id:Nat):cW (ec.put i o).env id=if id=i then some (ec.cnt,o) else cW ec.env id:=by
 show cW ((i,ec.cnt,o) :: del ec.env i) id=_
 rw [gx]
 by_cases e:id=i
 ·rw [if_pos e,if_pos e.symm]
 ·rw [if_neg e,if_neg (Ne.symm e),j0 _ e]
theorem aE.jz (I:aE E B ρ ec h) {id s:Nat} {o:Ob T} (hf:cW ec.env id=some (s,o)):id < ec.cnt:=by
 obtain ⟨q,hq⟩:=lU.loc (I.obj id s o hf).2
 rcases Nat.lt_or_ge id ec.cnt with h1 |h1
 ·exact h1
 ·rw [I.dom id h1] at hq;cases hq
def pJ (ρ:Loc) (id:Nat) (x:SV × Nat):Loc:=fun i=>if i=id then some x else ρ i
theorem b9 (ρ:Loc) (id:Nat) (x:SV × Nat):pJ ρ id x id=some x:=by simp [pJ]
theorem CL (ρ:Loc) {id i:Nat} (x:SV × Nat) (hn:i≠id):pJ ρ id x i=ρ i:=by simp [pJ,hn]
theorem aE.alloc (I:aE E B ρ ec h) (o:Ob T) (q:SV) (n:Nat) (blk:eo) (hq:q.p=some ⟨h.next,0,none⟩) (hn1:n<=1)
  (hob:Mv h (h.alloc blk) (ak B ρ ec.env) (ak B (pJ ρ ec.cnt (q,n)) (ec.new o).env) ρ (pJ ρ ec.cnt (q,n))->lU E (h.alloc blk) (ak B (pJ ρ ec.cnt (q,n)) (ec.new o).env) (pJ ρ ec.cnt (q,n)) ec.cnt o):
  q9 E B ρ ec h (pJ ρ ec.cnt (q,n)) (ec.new o) (h.alloc blk):=by
 have hnone:cW ec.env ec.cnt=none:=by
  cases hf:cW ec.env ec.cnt with
  |none=>rfl
  |some x=>have:=I.jz (o:=x.2) (s:=x.1) hf;omega
 obtain ⟨a,b,c⟩:=I.lN (ec':=ec.new o) (ρ':=pJ ρ ec.cnt (q,n)) (h':=h.alloc blk) ec.cnt ec.cnt o (CJ ec o) (Nat.le_refl _) (Nat.lt_succ_self _) (Nat.lt_succ_self _)
  (fun id hn=>CL _ _ hn) (fun q' n' hq'=>by rw [I.dom _ (Nat.le_refl _)] at hq';cases hq') (fun q' n' hq'=>by rw [b9] at hq';cases hq';have:=I.pos;show n < ec.cnt+1;omega) (I.top.alloc blk) (by rw [H.bx];omega)
  (fun b hb _=>H.aI h blk (by omega)) (fun q' n' b off _ hq' hb=>by
   rw [b9] at hq';cases hq'
   rw [hq] at hb;cases hb
   exact .inl ⟨Nat.le_refl _,by rw [H.bx];omega⟩) hob
 exact ⟨a,b,c,rfl,rfl⟩
theorem aE.KJ (I:aE E B ρ ec h) (e:TypeId):q9 E B ρ ec h (pJ ρ ec.cnt (⟨none,0,0⟩,1)) (ec.new (.os 1 e [])) h:=by
 obtain ⟨a,b,c⟩:=I.lN (ec':=ec.new (.os 1 e [])) (ρ':=pJ ρ ec.cnt (⟨none,0,0⟩,1)) (h':=h) ec.cnt ec.cnt (.os 1 e []) (CJ ec _) (Nat.le_refl _) (Nat.lt_succ_self _) (Nat.lt_succ_self _)
  (fun id hn=>CL _ _ hn) (fun q' n' hq'=>by rw [I.dom _ (Nat.le_refl _)] at hq';cases hq') (fun q' n' hq'=>by rw [b9] at hq';cases hq';have:=I.pos;show 1 < ec.cnt+1;omega) I.top (Nat.le_refl _)
  (fun b hb _=>rfl) (fun q' n' b off _ hq' hb=>by rw [b9] at hq';cases hq';cases hb)
  (fun _=>⟨⟨none,0,0⟩,[],b9 _ _ _,by omega,MN h e _,rfl,by simp [maxLen],fun i a r hi=>by simp at hi⟩)
 exact ⟨a,b,c,rfl,rfl⟩
theorem aE.B9 (I:aE E B ρ ec h) {id s:Nat} {o o':Ob T} {q:SV} {n b off:Nat} {blk:eo} (hf:cW ec.env id=some (s,o)) (ho:o.own=true) (hq:ρ id=some (q,n)) (hb:q.p=some ⟨b,off,none⟩)
  (hob:Mv h (h.set b blk) (ak B ρ ec.env) (ak B ρ (ec.put id o').env) ρ ρ->lU E (h.set b blk) (ak B ρ (ec.put id o').env) ρ id o'):
  q9 E B ρ ec h ρ (ec.put id o') (h.set b blk):=by
 have hlt:=I.rf hf ho hq hb
 have hid:=I.jz hf
 obtain ⟨a,b',c⟩:=I.lN (ec':=ec.put id o') (ρ':=ρ) (h':=h.set b blk) id ec.cnt o' (iy ec id o') (Nat.le_refl _) (Nat.lt_succ_self _) (Nat.lt_succ_of_lt hid)
  (fun _ _=>rfl) (fun q' n' hq'=>⟨q',n',hq',Nat.le_refl _,fun _=>rfl,fun e=>e⟩) (fun q' n' hq'=>Nat.lt_succ_of_lt (I.lG _ _ _ hq')) (I.top.set hlt blk) (Nat.le_refl _)
  (fun c hc hne=>H.ah h blk (fun e=>hne s o q n off hf ho hq (by rw [← e];exact hb)))
  (fun q' n' b1 off1 h1 h2 h3=>.inr ⟨s,o,q',n',off1,hf,ho,h2,h3⟩) hob
 exact ⟨a,b',c,rfl,rfl⟩
theorem aE.freeze (I:aE E B ρ ec h) {id s v:Nat} {e:TypeId} {l:List (T e)} (hf:cW ec.env id=some (s,.os v e l)):q9 E B ρ ec h ρ (ec.put id (.fz v e l)) h:=by
 obtain ⟨_,q,rows,h1,h0,h2,h3,h4,h5⟩:=I.obj id s _ hf
 obtain ⟨a,b',c⟩:=I.lN (ec':=ec.put id (.fz v e l)) (ρ':=ρ) (h':=h) id ec.cnt (.fz v e l) (iy ec id _) (Nat.le_refl _) (Nat.lt_succ_self _) (Nat.lt_succ_of_lt (I.jz hf))
  (fun _ _=>rfl) (fun q' n' hq'=>⟨q',n',hq',Nat.le_refl _,fun _=>rfl,fun e=>e⟩) (fun q' n' hq'=>Nat.lt_succ_of_lt (I.lG _ _ _ hq')) I.top (Nat.le_refl _)
  (fun c hc hne=>rfl) (fun q' n' b1 off1 h1=>by cases h1)
  (fun m=>⟨q,h1,h0,.ro e l q rows h2.MP h3 h4 (by rcases h2.2 with ⟨e1,_⟩ |⟨b,t,e1,_⟩<;>rw [e1]<;>simp) (fun b o hb hne hO=>by
   rcases hO with hB |⟨id',s',o',q',n',off',g1,g2,g3,g4⟩
   ·exact I.jA b ⟨id,s,_,q,v,o,hf,rfl,h1,hb⟩ hB
   ·rw [iy] at g1
    split at g1
    ·cases g1;cases g2
    ·rename_i hne'
     exact hne' (I.AR id' id s' s o' _ q' q n' v b off' o g1 hf g2 rfl g3 h1 g4 hb)) (fun i a r hi hr j x w hx hw=>((h5 i a r hi hr).2 j x w hx hw).mv m)⟩)
 exact ⟨a,b',c,rfl,rfl⟩
theorem aE.LP (I:aE E B ρ ec h) {id s:Nat} {cs:List (X T)} (hf:cW ec.env id=some (s,.box cs)):q9 E B ρ ec h ρ (ec.put id (.fb cs)) h:=by
 obtain ⟨_,q,b,vs,t,e,r,h1,h2,h3,h4,h5⟩:=I.obj id s _ hf
 obtain ⟨a,b',c⟩:=I.lN (ec':=ec.put id (.fb cs)) (ρ':=ρ) (h':=h) id ec.cnt (.fb cs) (iy ec id _) (Nat.le_refl _) (Nat.lt_succ_self _) (Nat.lt_succ_of_lt (I.jz hf))
  (fun _ _=>rfl) (fun q' n' hq'=>⟨q',n',hq',Nat.le_refl _,fun _=>rfl,fun e=>e⟩) (fun q' n' hq'=>Nat.lt_succ_of_lt (I.lG _ _ _ hq')) I.top (Nat.le_refl _)
  (fun c hc hne=>rfl) (fun q' n' b1 off1 h1=>by cases h1)
  (fun m=>⟨q,b,h1,h2,h3,fun hO=>by
   rcases hO with hB |⟨id',s',o',q',n',off',g1,g2,g3,g4⟩
   ·exact I.jA b ⟨id,s,_,q,0,0,hf,rfl,h1,h2⟩ hB
   ·rw [iy] at g1
    split at g1
    ·cases g1;cases g2
    ·rename_i hne'
     exact hne' (I.AR id' id s' s o' _ q' q n' 0 b off' 0 g1 hf g2 rfl g3 h1 g4 h2),t,vs,e,r,h4,h5.mv m⟩)
 exact ⟨a,b',c,rfl,rfl⟩
theorem D.xc (w:Value):D E h O ρ (xc w) w:=by
 have hv:∀(vs:List Value) (j:Nat) (x:X T) (u:Value),(vs.map X.v)[j]?=some x->vs[j]?=some u->D E h O ρ x u:=fun vs j x u h1 h2=>by
  rw [List.getElem?_map,h2] at h1
  cases h1;exact .v u
 unfold Ev.xc
 split
 ·rename_i cs;exact .agg _ cs.toList (by simp) (hv _)
 ·rename_i g a b;exact .fn g _ _ a.toList b.toList (by simp) (by simp) (hv _) (hv _)
 ·rename_i t cs;exact .o9 t _ _ (.agg _ cs.toList (by simp) (hv _))
 ·rename_i t w _;exact .o9 t _ _ (.v w)
 ·exact .v undef
 ·rename_i cs _;exact .gD _ cs.toList (by simp) (hv _)
 ·exact .v w
theorem D.bV {ts:List (X T)} {vs:List Value} (d:DL E h O ρ ts vs) (x:Operand):D E h O ρ (bV ts x) (aj vs x):=by
 cases x with
 |tmp t=>exact d.getD t undef
 |const v=>exact .xc v
 |global g=>exact .gp g 0
 |func f=>exact .fn f [] [] [] [] rfl rfl (fun j x w h=>by simp at h) (fun j x w h=>by simp at h)
theorem DL.LN {ts:List (X T)} {vs:List Value} (d:DL E h O ρ ts vs):∀l:List Operand,DL E h O ρ (l.map (Ev.bV ts)) (l.map (aj vs))
 | []=>.nil
 |x :: r=>.cons (.bV d x) (DL.LN d r)
mutual
theorem mE:∀{x:X T} {w v:Value},x.cv=some w->D E h O ρ x v->v=w
 | .v u,w,v,hc,d=>by
   simp only [X.cv,Option.some.injEq] at hc
   cases d;exact hc
 | .agg l,w,v,hc,d=>by
   simp only [X.cv,Option.map_eq_some_iff] at hc
   obtain ⟨us,h1,rfl⟩:=hc
   cases d with
   |agg _ vs hl hd=>rw [wv h1 ⟨hl,hd⟩]
 | .gD l,w,v,hc,d=>by
   simp only [X.cv,Option.map_eq_some_iff] at hc
   obtain ⟨us,h1,rfl⟩:=hc
   cases d with
   |gD _ vs hl hd=>rw [wv h1 ⟨hl,hd⟩]
 | .o9 t x,w,v,hc,d=>by
   simp only [X.cv,Option.map_eq_some_iff] at hc
   obtain ⟨u,h1,rfl⟩:=hc
   cases d with
   |o9 _ _ u' hd=>rw [mE h1 hd]
 | .op _,w,v,hc,_=>by simp [X.cv] at hc
 | .ro _ _,w,v,hc,_=>by simp [X.cv] at hc
 | .os _ _,w,v,hc,_=>by simp [X.cv] at hc
 | .ptr _ _,w,v,hc,_=>by simp [X.cv] at hc
 | .arr _ _ _ _ _,w,v,hc,_=>by simp [X.cv] at hc
 | .ea _ _ _,w,v,hc,_=>by simp [X.cv] at hc
 | .oa _ _ _ _ _,w,v,hc,_=>by simp [X.cv] at hc
 | .gp _ _,w,v,hc,_=>by simp [X.cv] at hc
 | .ga _ _ _ _ _,w,v,hc,_=>by simp [X.cv] at hc
 | .fn _ _ _,w,v,hc,_=>by simp [X.cv] at hc
 | .mp _,w,v,hc,_=>by simp [X.cv] at hc
 | .ab _ _ _,w,v,hc,_=>by simp [X.cv] at hc
 | .bad,w,v,hc,_=>by simp [X.cv] at hc
theorem wv:∀{l:List (X T)} {us vs:List Value},X.Nv l=some us->DL E h O ρ l vs->vs=us
 | [],us,vs,hc,d=>by
   simp only [X.Nv,Option.some.injEq] at hc
   subst hc
   exact List.length_eq_zero_iff.1 d.1.symm
 |x :: r,us,vs,hc,d=>by
  obtain ⟨w,ws,rfl,d1,d2⟩:=d.cM
  simp only [X.Nv] at hc
  split at hc
  ·rename_i u us' h1 h2
   cases hc
   rw [mE h1 d1,wv h2 d2]
  ·cases hc
end
theorem D.one {x:X T} {v:Value} (d:D E h O ρ x v) (h1:x.one=true):v.oneCell'=true/\aX v=[v]:=by
 have key:v.oneCell'=true->aX v=[v]:=by cases v<;>simp [Value.oneCell',aX]
 have:v.oneCell'=true:=by
  cases d with
  |v w=>exact h1
  |op _ hw=>cases v<;>simp_all [Ef,Value.oneCell']
  |ab _ _ _ _ _ hw=>cases v<;>simp_all [FM,Value.oneCell']
  |_=>first |rfl |cases h1
 exact ⟨this,key this⟩
end Go.Ev
namespace Go.Ev
open Go
variable {T:TypeId->Type} {P:Program} {E:gR T} {B:Nat->Prop} {ρ ρ' ρ'':Loc} {ec ec' ec'':EC T} {h h' h'':H} {O:Nat->Prop}
theorem aB {id:Nat} {o:Ob T} (hg:ec.get id=some o):∃s,cW ec.env id=some (s,o):=by
 simp only [EC.get,Option.map_eq_some_iff] at hg
 obtain ⟨⟨s,o'⟩,h1,h2⟩:=hg
 cases h2
 exact ⟨s,h1⟩
theorem lV {agg:Bool} {n o:Nat} {cs:List (X T)} {vs:List Value} {K:X T->Prop} (d:DL E h O ρ cs vs) (hs:F1 agg n o cs K):
  o+n<=vs.length/\∃x v,(match agg with |true=>v= .agg ⟨(vs.drop o).take n⟩ |false=>one ((vs.drop o).take n)=some v)/\D E h O ρ x v/\K x:=by
 obtain ⟨h1,h2⟩:=ai.1 hs
 have hle:=Nat.le_of_ble_eq_true h1
 refine ⟨by rw [← d.1];exact hle,?_⟩
 have dd:=(d.drop o).take n
 cases agg with
 |true=>exact ⟨_,_,rfl,.agg _ _ dd.1 dd.2,h2⟩
 |false=>
  simp only at h2
  split at h2
  ·rename_i x hx
   rw [hx] at dd
   obtain ⟨w,us,e1,d1,d2⟩:=dd.cM
   have:us=[]:=List.length_eq_zero_iff.1 d2.1.symm
   subst this
   exact ⟨x,w,by simp only [e1,one],d1,h2⟩
  ·exact h2.elim
theorem tZ {k:IntKind}:∀{l:List (X T)} {ns:List Int} {vs:List Value},xp k l=some ns->DL E h O ρ l vs->vs=ns.map (.int k)/\l=ns.map fun n=>.v (.int k n)
 | [],ns,vs,hi,d=>by
   simp only [xp,Option.some.injEq] at hi
   subst hi
   exact ⟨List.length_eq_zero_iff.1 d.1.symm,rfl⟩
 |x :: r,ns,vs,hi,d=>by
  obtain ⟨w,us,rfl,d1,d2⟩:=d.cM
  cases x with
  |v u=>
   cases u with
   |int k' n=>
    simp only [xp] at hi
    split at hi
    ·rename_i l' hk hl
     cases hi
     have hk':k'=k:=of_decide_eq_true hk
     subst hk'
     cases d1
     obtain ⟨e1,e2⟩:=tZ hl d2
     rw [e1,e2];exact ⟨rfl,by simp⟩
    ·cases hi
   |_=>simp [xp] at hi
  |_=>simp [xp] at hi
theorem ru:∀{l:List (X T)} {ns:List Bool} {vs:List Value},rj l=some ns->DL E h O ρ l vs->vs=ns.map .bool/\l=ns.map fun n=>.v (.bool n)
 | [],ns,vs,hi,d=>by
   simp only [rj,Option.some.injEq] at hi
   subst hi
   exact ⟨List.length_eq_zero_iff.1 d.1.symm,rfl⟩
 |x :: r,ns,vs,hi,d=>by
  obtain ⟨w,us,rfl,d1,d2⟩:=d.cM
  cases x with
  |v u=>
   cases u with
   |bool n=>
    simp only [rj] at hi
    split at hi
    ·rename_i l' hl
     cases hi
     cases d1
     obtain ⟨e1,e2⟩:=ru hl d2
     rw [e1,e2];exact ⟨rfl,by simp⟩
    ·cases hi
   |_=>simp [rj] at hi
  |_=>simp [rj] at hi
theorem Af:∀{l:List (X T)} {ns:List ByteArray} {vs:List Value},z9 l=some ns->DL E h O ρ l vs->vs=ns.map .string/\l=ns.map fun n=>.v (.string n)
 | [],ns,vs,hi,d=>by
   simp only [z9,Option.some.injEq] at hi
   subst hi
   exact ⟨List.length_eq_zero_iff.1 d.1.symm,rfl⟩
 |x :: r,ns,vs,hi,d=>by
  obtain ⟨w,us,rfl,d1,d2⟩:=d.cM
  cases x with
  |v u=>
   cases u with
   |string n=>
    simp only [z9] at hi
    split at hi
    ·rename_i l' hl
     cases hi
     cases d1
     obtain ⟨e1,e2⟩:=Af hl d2
     rw [e1,e2];exact ⟨rfl,by simp⟩
    ·cases hi
   |_=>simp [z9] at hi
  |_=>simp [z9] at hi
theorem vY {l:List (X T)} {vs:List Value} {i:Int} {K:X T->Prop} (d:DL E h O ρ l vs) (hi:i.toNat < l.length) (hs:KF l i K):∃x v,vs[i.toNat]?=some v/\vs.all aS=true/\D E h O ρ x v/\K x:=by
 unfold KF at hs
 split at hs
 ·rename_i k a b
  split at hs
  ·rename_i ns hn
   obtain ⟨e1,e2⟩:=tZ hn d
   have hl:i.toNat < ns.length:=by rw [e2] at hi;simpa using hi
   refine ⟨_,_,?_,by rw [e1];simp [aS],.v _,hs _ rfl⟩
   rw [e1,List.getElem?_map,List.getD_eq_getElem?_getD,List.getElem?_eq_getElem hl];rfl
  ·exact hs.elim
 ·split at hs
  ·rename_i ns hn
   obtain ⟨e1,e2⟩:=ru hn d
   have hl:i.toNat < ns.length:=by rw [e2] at hi;simpa using hi
   refine ⟨_,_,?_,by rw [e1];simp [aS],.v _,hs⟩
   rw [e1,List.getElem?_map,List.getD_eq_getElem?_getD,List.getElem?_eq_getElem hl];rfl
  ·exact hs.elim
 ·split at hs
  ·rename_i ns hn
   obtain ⟨e1,e2⟩:=Af hn d
   have hl:i.toNat < ns.length:=by rw [e2] at hi;simpa using hi
   refine ⟨_,_,?_,by rw [e1];simp [aS],.v _,hs⟩
   rw [e1,List.getElem?_map,List.getD_eq_getElem?_getD,List.getElem?_eq_getElem hl];rfl
  ·exact hs.elim
 ·exact hs.elim
theorem BS {k:IntKind} {i x:Int}:∀{j:Nat} {ns:List Int} {K:List (X T)->Prop},LR k i x j ns K->∃l,DL E h O ρ l ((List.range ns.length).map fun m=>.int k (BI i (j+m) x (ns.getD m 0)))/\K l
 |j,[],K,hs=>⟨[],.nil,hs⟩
 |j,w :: r,K,hs=>by
  simp only [LR] at hs
  obtain ⟨l,h1,h2⟩:=BS (bY hs)
  refine ⟨_,?_,h2⟩
  rw [List.length_cons,List.range_succ_eq_map,List.map_cons,List.map_map]
  refine .cons (.v _) ?_
  have:((fun m=>Value.int k (BI i (j+m) x ((w :: r).getD m 0))) ∘ Nat.succ)=fun m=>Value.int k (BI i (j+1+m) x (r.getD m 0)):=by
   funext m
   simp only [Function.comp,List.getD_cons_succ]
   congr 2;omega
  rw [this];exact h1
theorem BT {i:Int} {x:Bool}:∀{j:Nat} {ns:List Bool},DL E h O ρ (LU (T:=T) i x j ns) ((List.range ns.length).map fun m=>.bool (BJ i (j+m) x (ns.getD m false)))
 |j,[]=>.nil
 |j,w :: r=>by
  simp only [LU]
  rw [List.length_cons,List.range_succ_eq_map,List.map_cons,List.map_map]
  refine .cons (.v _) ?_
  have:((fun m=>Value.bool (BJ i (j+m) x ((w :: r).getD m false))) ∘ Nat.succ)=fun m=>Value.bool (BJ i (j+1+m) x (r.getD m false)):=by
   funext m
   simp only [Function.comp,List.getD_cons_succ]
   congr 2;omega
  rw [this];exact BT
theorem IB {l:List (X T)} {vs:List Value} {i:Int} {x:X T} {v:Value} {K:List (X T)->Prop} (d:DL E h O ρ l vs) (dx:D E h O ρ x v) (h0:0<=i) (_hi:i.toNat < l.length) (hs:LV l i x K):∃l',DL E h O ρ l' (vs.set i.toNat v)/\K l':=by
 unfold LV at hs
 split at hs
 ·rename_i k n
  cases dx
  split at hs
  ·rename_i ns hn
   obtain ⟨e1,e2⟩:=tZ hn d
   obtain ⟨l',h1,h2⟩:=BS (E:=E) (h:=h) (O:=O) (ρ:=ρ) hs
   refine ⟨l',?_,h2⟩
   have:vs.set i.toNat (.int k n)=(List.range ns.length).map fun m=>.int k (BI i (0+m) n (ns.getD m 0)):=by
    rw [e1]
    apply List.ext_getElem?
    intro j
    rw [List.getElem?_set,List.getElem?_map]
    rw [List.getElem?_map]
    by_cases hj:j < ns.length
    ·rw [List.getElem?_range hj,List.getElem?_eq_getElem hj]
     simp only [Option.map_some,BI,Nat.zero_add,List.length_map]
     by_cases e:i.toNat=j
     ·subst e
      rw [if_pos rfl,if_pos hj,if_pos (by omega)]
     ·rw [if_neg e,if_neg (by omega),List.getD_eq_getElem?_getD,List.getElem?_eq_getElem hj];rfl
    ·rw [List.getElem?_eq_none (by simpa using hj),List.getElem?_eq_none (by simpa using hj)]
     split
     ·rename_i e
      rw [if_neg (by simp;omega)];rfl
     ·rfl
   rw [this];exact h1
  ·exact hs.elim
 ·rename_i b
  cases dx
  split at hs
  ·rename_i ns hn
   obtain ⟨e1,e2⟩:=ru hn d
   refine ⟨_,?_,hs⟩
   have:vs.set i.toNat (.bool b)=(List.range ns.length).map fun m=>.bool (BJ i (0+m) b (ns.getD m false)):=by
    rw [e1]
    apply List.ext_getElem?
    intro j
    rw [List.getElem?_set,List.getElem?_map]
    rw [List.getElem?_map]
    by_cases hj:j < ns.length
    ·rw [List.getElem?_range hj,List.getElem?_eq_getElem hj]
     simp only [Option.map_some,BJ,Nat.zero_add,List.length_map]
     by_cases e:i.toNat=j
     ·subst e
      rw [if_pos rfl,if_pos hj,if_pos (by omega)]
     ·rw [if_neg e,if_neg (by omega),List.getD_eq_getElem?_getD,List.getElem?_eq_getElem hj];rfl
    ·rw [List.getElem?_eq_none (by simpa using hj),List.getElem?_eq_none (by simpa using hj)]
     split
     ·rename_i e
      rw [if_neg (by simp;omega)];rfl
     ·rfl
   rw [this];exact BT
  ·exact hs.elim
 ·exact hs.elim
theorem DL.wr {cs xs:List (X T)} {vs us:List Value} (d:DL E h O ρ cs vs) (k:DL E h O ρ xs us) (o:Nat):DL E h O ρ (Nf o xs cs) (Ev.wr o us vs):=by
 unfold Nf Ev.wr
 have:=((d.take o).append k).append (d.drop (o+xs.length))
 rw [← k.1];exact this
theorem Ag {x:X T} {v:Value} (d:D E h O ρ x v) (h1:(iQ x).all (·.one)=true):DL E h O ρ (iQ x) (aX v)/\(aX v).all (·.oneCell')=true:=by
 have gen:∀(l:List (X T)) (vs:List Value),DL E h O ρ l vs->l.all (·.one)=true->vs.all (·.oneCell')=true:=by
  intro l vs dl ha
  rw [List.all_eq_true] at ha ⊢
  intro v hv
  obtain ⟨j,hj,rfl⟩:=List.getElem_of_mem hv
  have hj':j < l.length:=by rw [dl.1];exact hj
  exact ((dl.2 j _ _ (List.getElem?_eq_getElem hj') (List.getElem?_eq_getElem hj)).one (ha _ (List.getElem_mem hj'))).1
 cases x with
 |agg l=>
  cases d with
  |agg _ vs hl hd=>exact ⟨⟨hl,hd⟩,gen l vs ⟨hl,hd⟩ h1⟩
 |_=>
  simp only [iQ,List.all_cons,List.all_nil,Bool.and_true] at h1
  have:=d.one h1
  rw [this.2]
  exact ⟨.cons d .nil,by simp [this.1]⟩
end Go.Ev
namespace Go.Ev
open Go
variable {T:TypeId->Type} {P:Program} {E:gR T} {B:Nat->Prop} {ρ ρ' ρ'':Loc} {ec ec' ec'':EC T} {h h' h'':H} {ts:List (X T)} {vs:List Value} {K:X T->EC T->Prop}
def Gv (P:Program) (E:gR T) (B:Nat->Prop) (ρ:Loc) (ec:EC T) (h:H) (op:j8) (vs:List Value) (K:X T->EC T->Prop):Prop:=
 ∃v h' ρ' x ec',af P vs h op=some (v,h')/\q9 E B ρ ec h ρ' ec' h'/\D E h' (ak B ρ' ec'.env) ρ' x v/\K x ec'
theorem Gv.same {op:j8} (I:aE E B ρ ec h) {v:Value} {x:X T} (ha:af P vs h op=some (v,h)) (d:D E h (ak B ρ ec.env) ρ x v) (hk:K x ec):Gv P E B ρ ec h op vs K:=
 ⟨v,h,ρ,x,ec,ha,.refl I,d,hk⟩
theorem dG {b off n:Nat} {blk:eo} {cs:List Value} (hg:h.get b=some blk) (hr:blk.read=some cs) (hl:off+n<=cs.length):h.cells ⟨b,off,none⟩ n=some ((cs.drop off).take n):=by
 simp only [H.cells,hg,Option.bind_some,hr]
 rw [if_pos hl]
theorem pK {agg:Bool} {n:Nat} {a:Operand} {p:Addr} {cs:List Value} {v:Value} (ha:aj vs a= .pointer (some p)) (hc:h.cells p n=some cs) (hv:match agg with |true=>v= .agg ⟨cs⟩ |false=>one cs=some v):
  af P vs h (.load agg n a)=some (v,h):=by
 simp only [af,ha,hc]
 cases agg with
 |true=>simp only at hv;subst hv;rfl
 |false=>simp only at hv;simp only [hv];rfl
theorem N9 (hE:bM E) (I:aE E B ρ ec h) (d:DL E h (ak B ρ ec.env) ρ ts vs) {agg:Bool} {n:Nat} {a:Operand} (hs:dr P E (.load agg n a) ts ec K):Gv P E B ρ ec h (.load agg n a) vs K:=by
 have da:=D.bV d a
 simp only [dr] at hs
 cases hx:bV ts a<;>rw [hx] at hs da<;>simp only at hs
 case ptr id off=>
  split at hs
  ·rename_i cs hg
   obtain ⟨s,hf⟩:=aB hg
   obtain ⟨_,q,b,us,t,e,r,h1,h2,h3,h4,h5⟩:=I.obj id s _ hf
   generalize hv:aj vs a=va at da
   cases da with
   |ptr _ _ b' q' hq hb=>
    rw [h1] at hq;cases hq
    rw [h2] at hb;cases hb
    obtain ⟨g1,x,v,g2,g3,g4⟩:=lV h5 hs
    exact .same I (pK hv (dG h4 rfl g1) g2) g3 g4
  ·rename_i cs hg
   obtain ⟨s,hf⟩:=aB hg
   obtain ⟨_,q,b,h1,h2,h3,_,t,us,e,r,h4,h5⟩:=I.obj id s _ hf
   generalize hv:aj vs a=va at da
   cases da with
   |ptr _ _ b' q' hq hb=>
    rw [h1] at hq;cases hq
    rw [h2] at hb;cases hb
    obtain ⟨g1,x,v,g2,g3,g4⟩:=lV h5 hs
    exact .same I (pK hv (dG h4 rfl g1) g2) g3 g4
  ·exact hs.elim
 case arr id base size len i=>
  split at hs
  ·rename_i hg
   obtain ⟨s,hf⟩:=aB hg
   obtain ⟨_,q,b,us,t,e,r,h1,h2,h3,h4,h5⟩:=I.obj id s _ hf
   obtain ⟨hl,hs⟩:=ai.1 hs
   have hl:=Nat.le_of_ble_eq_true hl
   generalize hv:aj vs a=va at da
   cases da with
   |arr _ _ _ _ b' _ q' hq hb hi0 hi1=>
    rw [h1] at hq;cases hq
    rw [h2] at hb;cases hb
    have hlt:i.toNat < len:=by omega
    obtain ⟨x,v,g1,_,g3,g4⟩:=vY ((h5.drop base).take len) (by rw [List.length_take,List.length_drop];omega) hs
    have hv2:us[base+i.toNat]?=some v:=by rw [List.getElem?_take_of_lt hlt,List.getElem?_drop] at g1;exact g1
    have hlen:base+i.toNat < us.length:=(List.getElem?_eq_some_iff.1 hv2).1
    refine .same I (pK (cs:=[v]) hv ?_ (by simp only [one])) g3 g4
    rw [dG h4 rfl (by omega)]
    congr 1
    rw [Nat.mul_one,List.take_one,List.head?_drop,hv2];rfl
  ·exact hs.elim
 case ea e r off=>
  generalize hv:aj vs a=va at da
  cases da with
  |ea _ _ _ b o cs hlay hlen ho hr=>
   have dl:DL E h (ak B ρ ec.env) ρ (E.enc e r) ((cs.drop o).take (E.sz e)):=⟨by rw [hE.len,List.length_take,List.length_drop];omega,fun j x w h1 h2=>by
    have hj:j < E.sz e:=by rw [← hE.len e r];exact (List.getElem?_eq_some_iff.1 h1).1
    rw [List.getElem?_take_of_lt hj,List.getElem?_drop] at h2
    exact hr j x w h1 h2⟩
   obtain ⟨g1,x,v,g2,g3,g4⟩:=lV dl hs
   rw [List.length_take,List.length_drop] at g1
   obtain ⟨k,k1,k2⟩:=hlay.at'
   refine .same I (pK hv (dG k1 k2 (by omega)) ?_) g3 g4
   have:(cs.drop (o+off)).take n=(((cs.drop o).take (E.sz e)).drop off).take n:=by
    rw [List.drop_take,List.drop_drop,List.take_take,Nat.min_eq_left (by omega)]
   rw [this];exact g2
 case oa id cB e i off=>
  split at hs
  ·rename_i v' e' l hg
   obtain ⟨s,hf⟩:=aB hg
   obtain ⟨_,q,rows,h1,h0,h2,h3,h4,h5⟩:=I.obj id s _ hf
   obtain ⟨hl,hs2⟩:=ai.1 hs
   simp only [Bool.and_eq_true] at hl
   have e1:=Nat.eq_of_beq_eq_true hl.1
   have e2:=Nat.eq_of_beq_eq_true hl.2
   subst e1;subst e2
   generalize hv:aj vs a=va at da
   cases da with
   |oa _ _ n' _ _ _ q' b o hq hv' hw=>
    rw [h1] at hq;cases hq
    obtain ⟨hlt,hb,rfl⟩:=hw rfl
    rcases h2.2 with ⟨e1,_⟩ |⟨b',t,e1,hblt,hblk⟩
    ·rw [e1] at hb;cases hb
    ·have hp:b'=b:=by rw [e1] at hb;cases hb;rfl
     subst hp
     have hqn:q.n=rows.length:=by rw [e1]
     have hil:i.toNat < l.length:=by omega
     have hir:i.toNat < rows.length:=by omega
     have dl:=h5 i.toNat _ _ (List.getElem?_eq_getElem hil) (List.getElem?_eq_getElem hir)
     obtain ⟨g1,x,v,g2,g3,g4⟩:=lV dl (hs2 _ (List.getElem?_eq_getElem hil))
     have hsz:=h2.1 _ (List.getElem_mem hir)
     have hfl:=dR h2.1
     have hrow:=gY h2.1 (List.getElem?_eq_getElem hir)
     have hb1:i.toNat * E.sz e+E.sz e<=rows.length * E.sz e:=by
      have:=Nat.mul_le_mul_right (E.sz e) (show i.toNat+1<=rows.length by omega)
      rw [Nat.add_mul,Nat.one_mul] at this;exact this
     refine .same I (pK hv (dG hblk rfl (by omega)) ?_) g3 g4
     have:(rows.flatten.drop (i.toNat * E.sz e+off)).take n=(rows[i.toNat].drop off).take n:=by
      rw [← hrow,List.drop_take,List.drop_drop,List.take_take,Nat.min_eq_left (by omega)]
     rw [this];exact g2
  ·exact hs.elim
 case gp g off=>
  split at hs
  ·rename_i cs hg
   obtain ⟨_,us,h1,h2⟩:=I.dU g cs hg
   generalize hv:aj vs a=va at da
   cases da with
   |gp _ _=>
    obtain ⟨g1,x,v,g2,g3,g4⟩:=lV h2 hs
    obtain ⟨k,k1,k2⟩:=h1.at'
    exact .same I (pK hv (dG k1 k2 g1) g2) g3 g4
  ·exact hs.elim
 case ga g base size len i=>
  split at hs
  ·rename_i hg
   obtain ⟨_,us,h1,h5⟩:=I.dU g _ hg
   obtain ⟨hl,hs⟩:=ai.1 hs
   have hl:=Nat.le_of_ble_eq_true hl
   obtain ⟨k,k1,k2⟩:=h1.at'
   generalize hv:aj vs a=va at da
   cases da with
   |ga _ _ _ _ _ hi0 hi1=>
    have hlt:i.toNat < len:=by omega
    obtain ⟨x,v,g1,_,g3,g4⟩:=vY ((h5.drop base).take len) (by rw [List.length_take,List.length_drop];omega) hs
    have hv2:us[base+i.toNat]?=some v:=by rw [List.getElem?_take_of_lt hlt,List.getElem?_drop] at g1;exact g1
    have hlen:base+i.toNat < us.length:=(List.getElem?_eq_some_iff.1 hv2).1
    refine .same I (pK (cs:=[v]) hv ?_ (by simp only [one])) g3 g4
    rw [dG k1 k2 (by omega)]
    congr 1
    rw [Nat.mul_one,List.take_one,List.head?_drop,hv2];rfl
  ·exact hs.elim
 all_goals exact hs.elim
end Go.Ev
namespace Go.Ev
open Go
variable {T:TypeId->Type} {P:Program} {E:gR T} {B:Nat->Prop} {ρ ρ' ρ'':Loc} {ec ec' ec'':EC T} {h h' h'':H} {ts:List (X T)} {vs:List Value} {K:X T->EC T->Prop}
theorem aE.KT (I:aE E B ρ ec h) {cs:List (X T)} {us:List Value} (d:DL E h (ak B ρ ec.env) ρ cs us) (t:Bool) (e r:Nat):
  q9 E B ρ ec h (pJ ρ ec.cnt (⟨some ⟨h.next,0,none⟩,1,0⟩,0)) (ec.new (.box cs)) (h.alloc (.cells t us e r)):=
 I.alloc (.box cs) ⟨some ⟨h.next,0,none⟩,1,0⟩ 0 (.cells t us e r) rfl (by omega) fun m=>
  ⟨⟨some ⟨h.next,0,none⟩,1,0⟩,h.next,us,t,e,r,b9 _ _ _,rfl,by rw [H.bx];omega,H.aH _ _,d.mv m⟩
theorem q5 {O:Nat->Prop} (l:List Value):DL E h O ρ (l.map X.v) l:=⟨by simp,fun j x w h1 h2=>by
 rw [List.getElem?_map,h2] at h1;cases h1;exact .v w⟩
theorem M8 (I:aE E B ρ ec h) {e:TypeId} {zero:List Value} (hs:dr P E (.alloc e zero) ts ec K):Gv P E B ρ ec h (.alloc e zero) vs K:=by
 simp only [dr] at hs
 exact ⟨_,_,_,_,_,rfl,I.KT (q5 zero) true e 1,.ptr _ 0 _ _ (b9 _ _ _) rfl,hs⟩
theorem OZ (I:aE E B ρ ec h) (d:DL E h (ak B ρ ec.env) ρ ts vs) {e:TypeId} {size:Nat} {x:Operand} (hs:dr P E (.box e size x) ts ec K):Gv P E B ρ ec h (.box e size x) vs K:=by
 simp only [dr] at hs
 obtain ⟨h1,hs2⟩:=ai.1 hs
 simp only [Bool.and_eq_true] at h1
 obtain ⟨d1,d2⟩:=Ag (D.bV d x) h1.2
 have hl:(aX (aj vs x)).length=size:=by rw [← d1.1];exact Nat.eq_of_beq_eq_true h1.1
 refine ⟨_,_,_,_,_,?_,I.KT d1 true e 1,.ptr _ 0 _ _ (b9 _ _ _) rfl,hs2⟩
 simp only [af]
 rw [if_pos hl]
theorem ni {O:Nat->Prop} (d:DL E h O ρ ts vs) {len:Nat}:∀{ps:List (Nat × Nat × Operand)} {l:List (Nat × List (X T))},tT ts len ps=some l->
  ∃m,cJ vs len ps=some m/\l.length=m.length/\(∀(j:Nat) (x:Nat × List (X T)) (w:Nat × List Value),l[j]?=some x->m[j]?=some w->x.1=w.1/\x.1+x.2.length<=len/\DL E h O ρ x.2 w.2/\(w.2).all (·.oneCell')=true)
 | [],l,hp=>by
   simp only [tT,Option.some.injEq] at hp
   subst hp
   exact ⟨[],rfl,rfl,fun j x w h1=>by simp at h1⟩
 |(off,size,x) :: r,l,hp=>by
  simp only [tT] at hp
  split at hp
  ·rename_i hb
   simp only [Bool.and_eq_true] at hb
   split at hp
   ·rename_i l' hl'
    cases hp
    obtain ⟨m,h1,h2,h3⟩:=ni d hl'
    obtain ⟨d1,d2⟩:=Ag (D.bV d x) hb.2
    have hlen:(aX (aj vs x)).length=size:=by rw [← d1.1];exact Nat.eq_of_beq_eq_true hb.1.1
    refine ⟨(off,aX (aj vs x)) :: m,?_,by simp [h2],fun j y w g1 g2=>?_⟩
    ·simp only [cJ]
     rw [if_pos (by simp [hlen,hb.1.2]),h1];rfl
    ·cases j with
     |zero=>
      simp at g1 g2
      subst g1;subst g2
      exact ⟨rfl,by rw [d1.1,hlen];exact Nat.le_of_ble_eq_true hb.1.2,d1,d2⟩
     |succ j=>simp at g1 g2;exact h3 j y w g1 g2
   ·cases hp
  ·cases hp
theorem vh {O:Nat->Prop}:∀{l:List (Nat × List (X T))} {m:List (Nat × List Value)} {cs:List (X T)} {us:List Value},DL E h O ρ cs us->l.length=m.length->(∀(j:Nat) (x:Nat × List (X T)) (w:Nat × List Value),l[j]?=some x->m[j]?=some w->x.1=w.1/\x.1+x.2.length<=cs.length/\DL E h O ρ x.2 w.2/\(w.2).all (·.oneCell')=true)->
  DL E h O ρ (xo cs l) (fj us m)/\(xo cs l).length=cs.length
 | [],[],cs,us,d,_,_=>⟨d,rfl⟩
 |(o,xs) :: l,(o',ws) :: m,cs,us,d,hl,hp=>by
  obtain ⟨e1,e2,e3,_⟩:=hp 0 _ _ rfl rfl
  simp only at e1 e2 e3
  subst e1
  have dw:=d.wr e3 o
  have hlen:(Nf o xs cs).length=cs.length:=by simp [Nf];omega
  obtain ⟨g1,g2⟩:=vh (l:=l) (m:=m) dw (by simpa using hl) fun j x w h1 h2=>by
   rw [hlen];exact hp (j+1) x w (by simpa using h1) (by simpa using h2)
  exact ⟨g1,g2.trans hlen⟩
 | [],_ :: _,_,_,_,hl,_=>by simp at hl
 |_ :: _,[],_,_,_,hl,_=>by simp at hl
theorem M9 (I:aE E B ρ ec h) (d:DL E h (ak B ρ ec.env) ρ ts vs) {zero:List Value} {ps:List (Nat × Nat × Operand)} (hs:dr P E (.build zero ps) ts ec K):Gv P E B ρ ec h (.build zero ps) vs K:=by
 simp only [dr] at hs
 split at hs
 ·rename_i l hl
  obtain ⟨m,h1,h2,h3⟩:=ni d hl
  obtain ⟨g1,_⟩:=vh (q5 zero) h2 (fun j x w a b=>by rw [List.length_map];exact h3 j x w a b)
  refine .same I (v:=.agg ⟨fj zero m⟩) ?_ (.agg _ _ g1.1 g1.2) hs
  simp only [af,h1];rfl
 ·exact hs.elim
theorem Ah (I:aE E B ρ ec h) {id s:Nat} {cs cs':List (X T)} (hf:cW ec.env id=some (s,.box cs)) {q:SV} {b:Nat} {us us':List Value} {t:Bool} {e r:Nat} (h1:ρ id=some (q,0)) (h2:q.p=some ⟨b,0,none⟩) (_h4:h.get b=some (.cells t us e r))
  (d:DL E h (ak B ρ ec.env) ρ cs' us'):q9 E B ρ ec h ρ (ec.put id (.box cs')) (h.set b (.cells t us' e r)):=
 I.B9 hf rfl h1 h2 fun m=>⟨q,b,us',t,e,r,h1,h2,I.rf hf rfl h1 h2,H.an _ _ _,d.mv m⟩
theorem Ai {n:Nat} {a x:Operand} {b off:Nat} {t:Bool} {us:List Value} {e r:Nat} (ha:aj vs a= .pointer (some ⟨b,off,none⟩)) (hg:h.get b=some (.cells t us e r)) (hl:(aX (aj vs x)).length=n) (h1:(aX (aj vs x)).all (·.oneCell')=true) (hle:off+n<=us.length):
  af P vs h (.store n a x)=some (undef,h.set b (.cells t (wr off (aX (aj vs x)) us) e r)):=by
 simp only [af,ha,hg]
 rw [if_pos (by simp only [Bool.and_eq_true,decide_eq_true_eq];exact ⟨⟨hl,Nat.ble_eq_true_of_le hle⟩,h1⟩)]
 unfold wr
 rw [hl]
end Go.Ev
namespace Go.Ev
open Go
variable {T:TypeId->Type} {P:Program} {E:gR T} {B:Nat->Prop} {ρ ρ' ρ'':Loc} {ec ec' ec'':EC T} {h h' h'':H} {ts:List (X T)} {vs:List Value} {K:X T->EC T->Prop} {O:Nat->Prop}
structure iz (E:gR T) (h:H) (O:Nat->Prop) (ρ:Loc) (e:TypeId) (l:List (T e)) (rv:List (List Value)):Prop where
 len:rv.length=l.length
 sz:∀r∈rv,r.length=E.sz e
 row:∀(i:Nat) (a:T e) (r:List Value),l[i]?=some a->rv[i]?=some r->DL E h O ρ (E.enc e a) r
theorem iz.mv {O':Nat->Prop} {e:TypeId} {l:List (T e)} {rv:List (List Value)} (r:iz E h O ρ e l rv) (m:Mv h h' O O' ρ ρ'):iz E h' O' ρ' e l rv:=
 ⟨r.len,r.sz,fun i a x h1 h2=>(r.row i a x h1 h2).mv m⟩
theorem iz.app {e:TypeId} {l l':List (T e)} {rv rv':List (List Value)} (r:iz E h O ρ e l rv) (r':iz E h O ρ e l' rv'):iz E h O ρ e (l++l') (rv++rv'):=
 ⟨by simp [r.len,r'.len],fun x hx=>by
  rcases List.mem_append.1 hx with h1 |h1
  ·exact r.sz x h1
  ·exact r'.sz x h1,fun i a x h1 h2=>by
  rcases Nat.lt_or_ge i l.length with h3 |h3
  ·rw [List.getElem?_append_left h3] at h1
   rw [List.getElem?_append_left (by rw [r.len];exact h3)] at h2
   exact r.row i a x h1 h2
  ·rw [List.getElem?_append_right h3] at h1
   rw [List.getElem?_append_right (by rw [r.len];exact h3),r.len] at h2
   exact r'.row _ a x h1 h2⟩
theorem iz.nil {e:TypeId}:iz E h O ρ e ([]:List (T e)) []:=⟨rfl,fun _ h=>by simp at h,fun i a r h=>by simp at h⟩
theorem aE.GR (I:aE E B ρ ec h) {e:TypeId} {l:List (T e)} {rv:List (List Value)} (r:iz E h (ak B ρ ec.env) ρ e l rv) (hm:l.length<=maxLen) (t:Bool):
  q9 E B ρ ec h (pJ ρ ec.cnt (⟨some ⟨h.next,0,none⟩,rv.length,0⟩,1)) (ec.new (.os 1 e l)) (h.alloc (.cells t rv.flatten e rv.length)):=
 I.alloc (.os 1 e l) ⟨some ⟨h.next,0,none⟩,rv.length,0⟩ 1 (.cells t rv.flatten e rv.length) rfl (by omega) fun m=>
  ⟨_,rv,b9 _ _ _,by omega,⟨r.sz,.inr ⟨h.next,t,rfl,by rw [H.bx];omega,H.aH _ _⟩⟩,r.len,hm,(r.mv m).row⟩
theorem u5 {O':Nat->Prop} {n:Nat}:D E h O' (pJ ρ ec.cnt (⟨some ⟨h'.next,0,none⟩,n,0⟩,1)) (.os ec.cnt 1) (.slice (some ⟨h'.next,0,none⟩) n 0):=
 .os ec.cnt 1 1 ⟨some ⟨h'.next,0,none⟩,n,0⟩ ⟨some ⟨h'.next,0,none⟩,n,0⟩ (b9 _ _ _) (Nat.le_refl _) fun _=>rfl
theorem wh (hE:bM E) {e:TypeId}:∀{n:Nat} {cs:List (X T)} {l:List (T e)} {us:List Value},Iv E e (E.sz e) n cs=some l->DL E h O ρ cs us->us.length=n * E.sz e->∃rv,rv.flatten=us/\rv.length=n/\iz E h O ρ e l rv
 | 0,cs,l,us,hd,d,hu=>by
   simp only [Iv,Option.some.injEq] at hd
   subst hd
   have:us=[]:=List.length_eq_zero_iff.1 (by simpa using hu)
   exact ⟨[],by simp [this],rfl,.nil⟩
 |n+1,cs,l,us,hd,d,hu=>by
  simp only [Iv] at hd
  split at hd
  ·rename_i r l' h1 h2
   cases hd
   rw [Nat.add_mul,Nat.one_mul] at hu
   obtain ⟨rv,g1,g2,g3⟩:=wh hE h2 (d.drop (E.sz e)) (by rw [List.length_drop];omega)
   refine ⟨us.take (E.sz e) :: rv,by rw [List.flatten_cons,g1,List.take_append_drop],by simp [g2],by simp [g3.len],fun x hx=>?_,fun i a x h3 h4=>?_⟩
   ·rcases List.mem_cons.1 hx with rfl |hx
    ·rw [List.length_take];omega
    ·exact g3.sz x hx
   ·cases i with
    |zero=>
     simp at h3 h4
     subst h3;subst h4
     rw [hE.dec _ _ _ h1];exact d.take _
    |succ i=>simp at h3 h4;exact g3.row i a x h3 h4
  ·cases hd
theorem uZ (I:aE E B ρ ec h) {x y:X T} {v:Value} (d:D E h (ak B ρ ec.env) ρ x v) (hf:fe ec x=(y,ec')):q9 E B ρ ec h ρ ec' h/\D E h (ak B ρ ec'.env) ρ y v:=by
 cases x with
 |os id cB=>
  simp only [fe] at hf
  split at hf
  ·rename_i v' e l hg
   split at hf
   ·rename_i hb
    cases hf
    obtain ⟨s,hfd⟩:=aB hg
    have st:=I.freeze hfd
    refine ⟨st,?_⟩
    have hv:=Nat.eq_of_beq_eq_true hb
    subst hv
    obtain ⟨_,q,g1,_,g2⟩:=st.inv.obj id ec.cnt (.fz v' e l) (by rw [iy,if_pos rfl])
    cases d with
    |os _ _ n q1 q0 hq hle hw=>
     rw [g1] at hq;cases hq
     rw [hw rfl];exact g2
   ·cases hf;exact ⟨.refl I,.bad _⟩
  ·rename_i v' e l hg
   split at hf
   ·rename_i hb
    cases hf
    obtain ⟨s,hfd⟩:=aB hg
    refine ⟨.refl I,?_⟩
    have hv:=Nat.eq_of_beq_eq_true hb
    subst hv
    obtain ⟨_,q,g1,_,g2⟩:=I.obj id s _ hfd
    cases d with
    |os _ _ n q1 q0 hq hle hw=>
     rw [g1] at hq;cases hq
     rw [hw rfl];exact g2
   ·cases hf;exact ⟨.refl I,.bad _⟩
  ·cases hf;exact ⟨.refl I,.bad _⟩
 |_=>cases hf;exact ⟨.refl I,d⟩
theorem rT:∀{l ys:List (X T)} {us:List Value} {ec ec':EC T},aE E B ρ ec h->DL E h (ak B ρ ec.env) ρ l us->AX ec l=(ys,ec')->q9 E B ρ ec h ρ ec' h/\DL E h (ak B ρ ec'.env) ρ ys us
 | [],ys,us,ec,ec',I,d,hf=>by
   cases hf
   exact ⟨.refl I,d⟩
 |x :: r,ys,us,ec,ec',I,d,hf=>by
  obtain ⟨w,ws,rfl,d1,d2⟩:=d.cM
  simp only [AX] at hf
  cases h1:fe ec x with
  |mk y ec1=>
   rw [h1] at hf
   simp only at hf
   cases h2:AX ec1 r with
   |mk l ec2=>
    rw [h2] at hf
    cases hf
    obtain ⟨s1,g1⟩:=uZ I d1 h1
    obtain ⟨s2,g2⟩:=rT s1.inv (d2.mv s1.ext.mv) h2
    exact ⟨s1.trans I s2,.cons (g1.mv s2.ext.mv) g2⟩
theorem Ei (hE:bM E) (I:aE E B ρ ec h) (d:DL E h (ak B ρ ec.env) ρ ts vs) {e:TypeId} {n size:Nat} {zero:List Value} {ps:List (Nat × Nat × Operand)} (hs:dr P E (.buildSlice e n size zero ps) ts ec K):Gv P E B ρ ec h (.buildSlice e n size zero ps) vs K:=by
 simp only [dr] at hs
 split at hs
 ·rename_i l hl hb
  simp only [Bool.and_eq_true] at hb
  have hsz:=Nat.eq_of_beq_eq_true hb.1
  have hz:(cE zero n).length=n * size:=by rw [bH,Nat.eq_of_beq_eq_true hb.2]
  subst hsz
  obtain ⟨m,h1,h2,h3⟩:=ni d hl
  obtain ⟨g1,g2⟩:=vh (q5 (cE zero n)) h2 (fun j x w a b=>by rw [List.length_map,hz];exact h3 j x w a b)
  cases hfz:AX ec (xo ((cE zero n).map .v) l) with
  |mk cs ec1=>
   rw [hfz] at hs
   simp only at hs
   obtain ⟨s1,d1⟩:=rT I g1 hfz
   split at hs
   ·rename_i rows hr
    obtain ⟨a1,a2,a3⟩:=hs
    obtain ⟨rv,r1,r2,r3⟩:=wh hE hr d1 (by rw [← g1.1,g2,List.length_map,hz])
    have hnew:=s1.inv.GR r3 (by rw [← r3.len,r2];exact a2) true
    refine ⟨.slice (some ⟨h.next,0,none⟩) n 0,h.alloc (.cells true (fj (cE zero n) m) e n),_,_,_,?_,s1.trans I (by rw [r1,r2] at hnew;exact hnew),u5,a3⟩
    simp only [af,h1];rfl
   ·exact hs.elim
 ·exact hs.elim
theorem Aj {sz:Nat} {ws:List Value} {off:Nat} (hw:off+ws.length<=sz):∀{rows:List (List Value)} {i:Nat} {r:List Value},(∀x∈rows,x.length=sz)->rows[i]?=some r->(rows.set i (wr off ws r)).flatten=wr (i * sz+off) ws rows.flatten
 | [],_,_,_,hi=>by simp at hi
 |x :: rs,0,r,hl,hi=>by
  simp only [List.getElem?_cons_zero,Option.some.injEq] at hi
  subst hi
  have hx:=hl x (List.mem_cons_self ..)
  simp only [List.set_cons_zero,List.flatten_cons,wr,Nat.zero_mul,Nat.zero_add]
  rw [List.take_append_of_le_length (by omega),List.drop_append_of_le_length (by omega)]
  simp
 |x :: rs,i+1,r,hl,hi=>by
  simp only [List.getElem?_cons_succ] at hi
  have hx:=hl x (List.mem_cons_self ..)
  have ih:=Aj (rows:=rs) hw (fun y hy=>hl y (List.mem_cons_of_mem _ hy)) hi
  rw [List.set_cons_succ,List.flatten_cons,ih,List.flatten_cons]
  have e1:(i+1) * sz+off=x.length+(i * sz+off):=by rw [Nat.add_mul,Nat.one_mul,hx];omega
  rw [e1]
  simp only [wr]
  rw [List.take_length_add_append,Nat.add_assoc x.length,List.drop_length_add_append]
  simp
theorem IC {off:Nat} {ws us:List Value} (h1:off+ws.length<=us.length):(wr off ws us).length=us.length:=by
 simp [wr];omega
theorem Nq {base len i:Nat} {w:Value} {us:List Value} (hl:base+len<=us.length) (hi:i < len):wr (base+i * 1) [w] us=wr base (((us.drop base).take len).set i w) us:=by
 have hlen:((us.drop base).take len).length=len:=by rw [List.length_take,List.length_drop];omega
 have e1:((us.drop base).take len).drop (i+1)++us.drop (base+len)=us.drop (base+(i+1)):=by
  rw [← List.drop_drop (i:=i+1),← List.drop_drop (i:=len)]
  conv=>rhs;rw [← List.take_append_drop len (us.drop base)]
  rw [List.drop_append_of_le_length (by omega)]
 simp only [wr,Nat.mul_one,List.length_set,hlen,List.length_cons,List.length_nil]
 rw [List.set_eq_take_append_cons_drop,if_pos (by omega),List.take_take,Nat.min_eq_left (by omega),List.take_add]
 simp only [List.append_assoc,List.cons_append,List.nil_append,Nat.zero_add]
 rw [e1,Nat.add_assoc]
theorem Na (hE:bM E) (I:aE E B ρ ec h) (d:DL E h (ak B ρ ec.env) ρ ts vs) {n:Nat} {a x:Operand} (hs:dr P E (.store n a x) ts ec K):Gv P E B ρ ec h (.store n a x) vs K:=by
 have da:=D.bV d a
 simp only [dr] at hs
 obtain ⟨hc,hs⟩:=ai.1 hs
 simp only [Bool.and_eq_true] at hc
 obtain ⟨dx,ho⟩:=Ag (D.bV d x) hc.2
 have hn:(aX (aj vs x)).length=n:=by rw [← dx.1];exact Nat.eq_of_beq_eq_true hc.1
 cases hx:bV ts a<;>rw [hx] at hs da<;>simp only at hs
 case ptr id off=>
  split at hs
  ·rename_i cs hg
   obtain ⟨s,hf⟩:=aB hg
   obtain ⟨_,q,b,us,t,e,r,h1,h2,h3,h4,h5⟩:=I.obj id s _ hf
   obtain ⟨hl,hs2⟩:=ai.1 hs
   have hle:=Nat.le_of_ble_eq_true hl
   generalize hv:aj vs a=va at da
   cases da with
   |ptr _ _ b' q' hq hb=>
    rw [h1] at hq;cases hq
    rw [h2] at hb;cases hb
    exact ⟨_,_,_,_,_,Ai hv h4 hn ho (by rw [← h5.1];exact hle),Ah I hf h1 h2 h4 (h5.wr dx off),.v undef,hs2⟩
  ·exact hs.elim
 case arr id base size len i=>
  split at hs
  ·rename_i hg _
   obtain ⟨s,hf⟩:=aB hg
   obtain ⟨_,q,b,us,t,e,r,h1,h2,h3,h4,h5⟩:=I.obj id s _ hf
   obtain ⟨hl,hs2⟩:=ai.1 hs
   have hle:=Nat.le_of_ble_eq_true hl
   generalize hv:aj vs a=va at da
   cases da with
   |arr _ _ _ _ b' _ q' hq hb hi0 hi1=>
    rw [h1] at hq;cases hq
    rw [h2] at hb;cases hb
    have hlt:i.toNat < len:=by omega
    have hul:=h5.1
    obtain ⟨w,hw⟩:∃w,aX (aj vs x)=[w]:=List.length_eq_one_iff.1 hn
    have dx1:=D.bV d x
    have hone:D E h (ak B ρ ec.env) ρ (bV ts x) w:=by
     cases hxx:bV ts x with
     |agg l=>
      rw [hxx] at hs2
      simp only [LV] at hs2
     |_=>
      rw [hxx] at hc dx1
      simp only [iQ,List.all_cons,List.all_nil,Bool.and_true] at hc
      have:=(dx1.one hc.2).2
      rw [hw] at this;cases this
      exact dx1
    obtain ⟨l',g1,g2⟩:=IB ((h5.drop base).take len) hone hi0 (by rw [List.length_take,List.length_drop];omega) hs2
    refine ⟨_,_,_,_,_,Ai hv h4 hn ho (by omega),Ah I hf h1 h2 h4 (us':=wr (base+i.toNat * 1) (aX (aj vs x)) us) ?_,.v undef,g2⟩
    have:wr (base+i.toNat * 1) (aX (aj vs x)) us=wr base (((us.drop base).take len).set i.toNat w) us:=by
     rw [hw]
     exact Nq (by omega) hlt
    rw [this];exact h5.wr g1 base
  ·exact hs.elim
 case oa id cB e i off=>
  cases hfz:AX ec (iQ (bV ts x)) with
  |mk xs ec1=>
   rw [hfz] at hs
   simp only at hs
   obtain ⟨s1,d1⟩:=rT I dx hfz
   split at hs
   ·rename_i v' e' l hg
    obtain ⟨s,hf⟩:=aB hg
    obtain ⟨_,q,rows,h1,h0,h2,h3,h4,h5⟩:=s1.inv.obj id s _ hf
    obtain ⟨hl,hs2⟩:=ai.1 hs
    simp only [Bool.and_eq_true] at hl
    have e1:=Nat.eq_of_beq_eq_true hl.1.1
    have e2:=Nat.eq_of_beq_eq_true hl.1.2
    have hle:=Nat.le_of_ble_eq_true hl.2
    subst e1;subst e2
    generalize hv:aj vs a=va at da
    cases da with
    |oa _ _ n' _ _ _ q' b o hq hv' hw=>
     rw [h1] at hq;cases hq
     obtain ⟨hlt,hb,rfl⟩:=hw rfl
     rcases h2.2 with ⟨e1,_⟩ |⟨b',t,e1,hblt,hblk⟩
     ·rw [e1] at hb;cases hb
     ·have hp:b'=b:=by rw [e1] at hb;cases hb;rfl
      subst hp
      have hqn:q.n=rows.length:=by rw [e1]
      have hil:i.toNat < l.length:=by omega
      have hir:i.toNat < rows.length:=by omega
      have dl:=h5 i.toNat _ _ (List.getElem?_eq_getElem hil) (List.getElem?_eq_getElem hir)
      have hs3:=hs2 _ (List.getElem?_eq_getElem hil)
      split at hs3
      ·rename_i r' hr'
       have henc:=hE.dec _ _ _ hr'
       have hsz:=h2.1 _ (List.getElem_mem hir)
       have hfl:=dR h2.1
       have hb1:i.toNat * E.sz e+E.sz e<=rows.length * E.sz e:=by
        have:=Nat.mul_le_mul_right (E.sz e) (show i.toNat+1<=rows.length by omega)
        rw [Nat.add_mul,Nat.one_mul] at this;exact this
       have hws:off+(aX (aj vs x)).length<=E.sz e:=by omega
       have hst:=s1.inv.B9 (o':=.os v' e (l.set i.toNat r')) (blk:=.cells t (wr (i.toNat * E.sz e+off) (aX (aj vs x)) rows.flatten) e rows.length) hf rfl h1 (by rw [e1]) fun m=>by
        refine ⟨q,rows.set i.toNat (wr off (aX (aj vs x)) rows[i.toNat]),h1,h0,⟨fun y hy=>?_,.inr ⟨b',t,by rw [e1,List.length_set],hblt,?_⟩⟩,by simp [h3],by simpa using h4,fun j a y g1 g2=>?_⟩
        ·rcases List.mem_or_eq_of_mem_set hy with g |g
         ·exact h2.1 y g
         ·rw [g,IC (by omega)];exact hsz
        ·rw [H.an,List.length_set,Aj hws h2.1 (List.getElem?_eq_getElem hir)]
        ·by_cases ej:i.toNat=j
         ·subst ej
          rw [List.getElem?_set_self hil] at g1
          rw [List.getElem?_set_self hir] at g2
          cases g1;cases g2
          rw [henc];exact (dl.wr d1 off).mv m
         ·rw [List.getElem?_set_ne ej] at g1 g2
          exact (h5 j a y g1 g2).mv m
       exact ⟨_,_,_,_,_,Ai hv hblk hn ho (by omega),s1.trans I hst,.v undef,hs3⟩
      ·exact hs3.elim
   ·exact hs.elim
 all_goals exact hs.elim
end Go.Ev
namespace Go.Ev
open Go
variable {T:TypeId->Type} {P:Program} {E:gR T} {B:Nat->Prop} {ρ ρ' ρ'':Loc} {ec ec' ec'':EC T} {h h' h'':H} {ts:List (X T)} {vs:List Value} {K:X T->EC T->Prop} {O:Nat->Prop}
theorem mH {e e':TypeId} {l:List (T e)} {l':List (T e')} (hc:ou e e' l=some l'):∃h:e=e',l'=h▸l:=by
 simp only [ou] at hc
 split at hc
 ·rename_i he;cases hc;exact ⟨he,rfl⟩
 ·cases hc
theorem kq (hE:bM E) {e:TypeId} {l:List (T e)} {v:Value} (d:D E h O ρ (.ro e l) v):∃q rv,v= .slice q.p q.n q.c/\xJ h q (E.sz e) rv/\iz E h O ρ e l rv/\l.length<=maxLen/\(q=⟨none,0,0⟩\/∃b o,q.p=some ⟨b,o,none⟩)/\∀b o,q.p=some ⟨b,o,none⟩->rv≠[]->¬O b:=by
 cases d with
 |ro _ _ q rows hs hl hm hq0 ho hr=>
  exact ⟨q,rows,rfl,hs,⟨hl,hs.all,fun i a r h1 h2=>⟨by rw [hE.len];exact (hs.all r (List.mem_of_getElem? h2)).symm,hr i a r h1 h2⟩⟩,hm,hq0,ho⟩
theorem Cz (hE:bM E) {e:TypeId} {f:Int->T e} {g:T e->Int} (hb:E.byte e=some (f,g)):E.sz e=1:=by
 rw [← hE.len e (f 0),(hE.byte e f g hb).1 0];rfl
theorem BU (hE:bM E) (I:aE E B ρ ec h) {e:TypeId} {x:X T} {v:Value} {l:List (T e)} (d:D E h (ak B ρ ec.env) ρ x v) (hs:Aa E ec e x=some l):∃rv,cg h (E.sz e) v=some (rv.length,rv.flatten)/\iz E h (ak B ρ ec.env) ρ e l rv:=by
 cases x with
 |ro e' l'=>
  simp only [Aa] at hs
  obtain ⟨he,rfl⟩:=mH hs
  subst he
  obtain ⟨q,rv,rfl,h1,h2,_⟩:=kq hE d
  exact ⟨rv,h1.src,h2⟩
 |os id cB=>
  simp only [Aa] at hs
  split at hs
  ·rename_i v' e' l' hg
   split at hs
   ·rename_i hb
    obtain ⟨he,rfl⟩:=mH hs
    subst he
    have hv:=Nat.eq_of_beq_eq_true hb
    subst hv
    obtain ⟨s,hf⟩:=aB hg
    obtain ⟨_,q,rows,h1,h0,h2,h3,h4,h5⟩:=I.obj id s _ hf
    cases d with
    |os _ _ n q1 q0 hq hle hw=>
     rw [h1] at hq;cases hq
     rw [hw rfl]
     exact ⟨rows,h2.MP.src,h3,h2.1,h5⟩
   ·cases hs
  ·rename_i v' e' l' hg
   split at hs
   ·rename_i hb
    obtain ⟨he,rfl⟩:=mH hs
    subst he
    have hv:=Nat.eq_of_beq_eq_true hb
    subst hv
    obtain ⟨s,hf⟩:=aB hg
    obtain ⟨_,q,h1,h0,h2⟩:=I.obj id s _ hf
    cases d with
    |os _ _ n q1 q0 hq hle hw=>
     rw [h1] at hq;cases hq
     rw [hw rfl]
     obtain ⟨q',rv,e1,g1,g2,_⟩:=kq hE h2
     rw [e1]
     exact ⟨rv,g1.src,g2⟩
   ·cases hs
  ·cases hs
 |v w=>
  cases d
  cases v with
  |slice p n c=>
   cases p with
   |none=>
    cases n with
    |zero=>
     simp only [Aa,Option.some.injEq] at hs
     subst hs
     exact ⟨[],by simp [cg],.nil⟩
    |succ n=>simp [Aa] at hs
   |some a=>simp [Aa] at hs
  |string s=>
   simp only [Aa] at hs
   split at hs
   ·rename_i f g hb
    cases hs
    have h1:=Cz hE hb
    refine ⟨s.data.toList.map fun b=>[.int .u8 b.toNat],?_,by simp [rowsOf],fun r hr=>?_,fun i a r g1 g2=>?_⟩
    ·simp only [cg,List.length_map,Array.length_toList]
     congr 1
     refine Prod.ext rfl ?_
     simp only
     induction s.data.toList with
     |nil=>rfl
     |cons b l ih=>rw [List.map_cons,List.map_cons,List.flatten_cons,← ih];rfl
    ·obtain ⟨b,_,rfl⟩:=List.mem_map.1 hr
     rw [h1];rfl
    ·simp only [rowsOf,List.getElem?_map,Option.map_eq_some_iff] at g1 g2
     obtain ⟨b,e1,rfl⟩:=g1
     obtain ⟨b',e2,rfl⟩:=g2
     rw [e1] at e2;cases e2
     rw [(hE.byte e f g hb).1]
     exact .cons (.v _) .nil
   ·cases hs
  |_=>simp [Aa] at hs
 |_=>simp [Aa] at hs
theorem row_one {x:X T} {w:Value} (d:D E h O ρ x w) (hr:x.row=true):w.oneCell'=true:=by
 refine (d.one ?_).1
 cases x with
 |v w=>simp only [X.row] at hr;simp only [X.one];cases w<;>simp_all [aS,Value.oneCell']
 |_=>first |rfl |cases hr
theorem iz.one (hE:bM E) {e:TypeId} {l:List (T e)} {rv:List (List Value)} (r:iz E h O ρ e l rv):rv.flatten.all (·.oneCell')=true:=by
 rw [List.all_eq_true]
 intro w hw
 obtain ⟨row,h1,h2⟩:=List.mem_flatten.1 hw
 obtain ⟨i,hi,rfl⟩:=List.getElem_of_mem h1
 obtain ⟨j,hj,rfl⟩:=List.getElem_of_mem h2
 have hil:i < l.length:=by rw [← r.len];exact hi
 have dl:=r.row i _ _ (List.getElem?_eq_getElem hil) (List.getElem?_eq_getElem hi)
 have hjl:j < (E.enc e l[i]).length:=by rw [dl.1];exact hj
 exact row_one (dl.2 j _ _ (List.getElem?_eq_getElem hjl) (List.getElem?_eq_getElem hj)) (hE.row _ _ _ (List.getElem_mem hjl))
theorem xC {e:TypeId} {size bytes:Nat} {s x:Operand} {new:List Value} (hx:cg h size (aj vs x)=some (0,new)) (hn:new=[]) (hs:(∃a n c,aj vs s= .slice (some a) n c)\/aj vs s= .slice none 0 0):af P vs h (.append e size bytes s x)=some (aj vs s,h):=by
 subst hn
 simp only [af,hx]
 rw [if_pos (by simp)]
 rcases hs with ⟨a,n,c,e1⟩ |e1
 ·rw [e1];simp only [eS];rfl
 ·rw [e1];simp only [eS];rfl
theorem F5 {e:TypeId} {size bytes:Nat} {s x:Operand} {r:Value × H} (ha:AG P h e size bytes (aj vs s) (aj vs x)=some r):af P vs h (.append e size bytes s x)=some r:=by
 rw [← Ln];exact ha
theorem LO (hE:bM E) (I:aE E B ρ ec h) (d:DL E h (ak B ρ ec.env) ρ ts vs) {e:TypeId} {size bytes:Nat} {s x:Operand} (hs:dr P E (.append e size bytes s x) ts ec K):Gv P E B ρ ec h (.append e size bytes s x) vs K:=by
 have da:=D.bV d s
 have dx:=D.bV d x
 simp only [dr] at hs
 have hh:=ai.1 hs
 clear hs
 obtain ⟨hc,hs⟩:=hh
 have hc:=Nat.eq_of_beq_eq_true hc
 subst hc
 split at hs
 ·rename_i hxs
  rw [hxs] at da
  generalize hv:aj vs s=va at da
  cases da
  split at hs
  ·rename_i l hl
   obtain ⟨rv,h1,h2⟩:=BU hE I dx hl
   obtain ⟨a1,a2,a3⟩:=hs
   cases hrv:rv with
   |nil=>
    subst hrv
    have hl0:l=[]:=List.length_eq_zero_iff.1 h2.len.symm
    subst hl0
    refine ⟨_,_,_,_,_,xC h1 rfl (.inr hv),I.KJ e,?_,a3⟩
    rw [hv]
    exact .os ec.cnt 1 1 ⟨none,0,0⟩ ⟨none,0,0⟩ (b9 _ _ _) (Nat.le_refl _) fun _=>rfl
   |cons r0 rs=>
    have hne:rv≠[]:=by rw [hrv];simp
    have hlen:0 < rv.length:=List.length_pos_iff.2 hne
    refine ⟨_,_,_,_,_,?_,I.GR h2 a2 false,u5,a3⟩
    simp only [af,h1,hv]
    rw [if_pos (by simp only [Bool.and_eq_true,decide_eq_true_eq];exact ⟨dR h2.sz,h2.one hE⟩)]
    simp only [eS]
    rw [if_neg (by omega),if_pos ⟨by rw [h2.len];exact a1,by rw [h2.len];exact a2⟩]
  ·exact hs.elim
 ·rename_i id cB hxs
  rw [hxs] at da
  split at hs
  ·rename_i v' e' l l2 hg hl2
   have hh:=ai.1 hs
   clear hs
   obtain ⟨hvv,hs⟩:=hh
   have hvv:=Nat.eq_of_beq_eq_true hvv
   subst hvv
   split at hs
   ·rename_i l1 hl1
    obtain ⟨he,rfl⟩:=mH hl1
    subst he
    obtain ⟨a1,a2,a3⟩:=hs
    obtain ⟨st,hf⟩:=aB hg
    obtain ⟨_,q,rows,h1,h0,h2,h3,h4,h5⟩:=I.obj id st _ hf
    obtain ⟨rv,g1,g2⟩:=BU hE I dx hl2
    have hva:aj vs s= .slice q.p q.n q.c:=by
     generalize hv:aj vs s=va at da
     cases da with
     |os _ _ n q1 q0 hq hle hw=>
      rw [h1] at hq;cases hq
      rw [hw rfl]
    have hrd:iz E h (ak B ρ ec.env) ρ e' l rows:=⟨h3,h2.1,h5⟩
    have hver:=I.lG _ _ _ h1
    have key:∀(h':H) (q':SV) (rows':List (List Value)),nB h'->h.next<=h'.next->(∀b,b < h.next->(∀off,q.p≠some ⟨b,off,none⟩)->h'.get b=h.get b)->
      (∀b off,q'.p=some ⟨b,off,none⟩->h.next<=b/\b < h'.next\/q.p=some ⟨b,off,none⟩)->Gr h' q' e' (E.sz e') rows'->rows'=rows++rv->
      q9 E B ρ ec h (pJ ρ id (q',ec.cnt)) (ec.put id (.os ec.cnt e' (l++l2))) h':=by
     intro h' q' rows' hT hn hget hnew hgr hr
     obtain ⟨a,b,c⟩:=I.lN (ec':=ec.put id (.os ec.cnt e' (l++l2))) (ρ':=pJ ρ id (q',ec.cnt)) (h':=h') id ec.cnt _ (iy ec id _) (Nat.le_refl _) (Nat.lt_succ_self _) (Nat.lt_succ_of_lt (I.jz hf))
      (fun i hi=>CL _ _ hi) (fun q1 n1 hq1=>⟨q',ec.cnt,b9 _ _ _,by have:=I.lG _ _ _ hq1;omega,fun e=>by have:=I.lG _ _ _ hq1;omega,fun e=>by rw [h1] at hq1;cases hq1;omega⟩)
      (fun q1 n1 hq1=>by rw [b9] at hq1;cases hq1;exact Nat.lt_succ_self _) hT hn (fun b hb hne=>hget b hb fun off e1=>hne st _ q v' off hf rfl h1 e1)
      (fun q1 n1 b off _ hq1 hb=>by
       rw [b9] at hq1;cases hq1
       rcases hnew b off hb with e1 |e1
       ·exact .inl e1
       ·exact .inr ⟨st,_,q,v',off,hf,rfl,h1,e1⟩)
      (fun m=>⟨q',rows',b9 _ _ _,I.pos,hgr,by rw [hr,List.length_append,h3,g2.len,List.length_append],by rw [List.length_append];exact a2,by rw [hr];exact ((hrd.app g2).mv m).row⟩)
     exact ⟨a,b,c,rfl,rfl⟩
    have hD:∀(O':Nat->Prop) (h':H) (q':SV),D E h' O' (pJ ρ id (q',ec.cnt)) (.os id ec.cnt) (.slice q'.p q'.n q'.c):=fun O' h' q'=>.os id ec.cnt ec.cnt q' q' (b9 _ _ _) (Nat.le_refl _) fun _=>rfl
    cases hrv:rv with
    |nil=>
     subst hrv
     refine ⟨.slice q.p q.n q.c,h,pJ ρ id (q,ec.cnt),_,_,?_,key h q rows I.top (Nat.le_refl _) (fun _ _ _=>rfl) (fun b off e1=>.inr e1) h2 (by simp),hD _ _ _,a3⟩
     rw [← hva]
     refine xC g1 rfl ?_
     rw [hva]
     rcases h2.2 with ⟨e1,_⟩ |⟨b,t,e1,_⟩
     ·rw [e1];exact .inr rfl
     ·rw [e1];exact .inl ⟨_,_,_,rfl⟩
    |cons r0 rs=>
     have hne:rv≠[]:=by rw [hrv];simp
     obtain ⟨h',f1,f2,f3,f4⟩:=h2.app (P:=P) (bytes:=bytes) I.top g2.sz g1 (g2.one hE) hne (by rw [h3,g2.len];exact a1) (by rw [h3,g2.len];exact a2)
     refine ⟨_,h',_,_,_,F5 (by rw [hva];exact f1),key h' ⟨some ⟨h.next,0,none⟩,rows.length+rv.length,0⟩ _ f3.top f3.next (fun b hb hno=>f3.get b hb fun hm=>?_) (fun b off e1=>.inl (by cases e1;exact ⟨Nat.le_refl _,f4⟩)) f2 rfl,hD _ _ ⟨some ⟨h.next,0,none⟩,rows.length+rv.length,0⟩,a3⟩
     rcases h2.2 with ⟨e1,_⟩ |⟨b',t,e1,_⟩
     ·rw [e1] at hm;simp [SV.Lt] at hm
     ·rw [e1] at hm
      simp only [SV.Lt,List.mem_singleton] at hm
      subst hm
      exact hno 0 (by rw [e1])
   ·exact hs.elim
  ·exact hs.elim
 ·exact hs.elim
end Go.Ev
namespace Go.Ev
open Go
variable {T:TypeId->Type} {P:Program} {E:gR T} {B:Nat->Prop} {ρ ρ' ρ'':Loc} {ec ec' ec'':EC T} {h h' h'':H} {ts:List (X T)} {vs:List Value} {K:X T->EC T->Prop} {O:Nat->Prop}
theorem vX {n:Nat} {K:X T->Prop} (hs:LG n K) (hn:n<=maxLen):K (.v (.int .i64 (n:Int))):=hs _ rfl (by simp only [maxLen] at hn;omega)
theorem oe (I:aE E B ρ ec h) {id cB s:Nat} {e:TypeId} {l:List (T e)} (hf:cW ec.env id=some (s,.os cB e l)) {v:Value} (d:D E h (ak B ρ ec.env) ρ (.os id cB) v):
  ∃q rows,ρ id=some (q,cB)/\v= .slice q.p q.n q.c/\Gr h q e (E.sz e) rows/\iz E h (ak B ρ ec.env) ρ e l rows/\l.length<=maxLen:=by
 obtain ⟨_,q,rows,h1,h0,h2,h3,h4,h5⟩:=I.obj id s _ hf
 cases d with
 |os _ _ n q1 q0 hq hle hw=>
  rw [h1] at hq;cases hq
  rw [hw rfl]
  exact ⟨q,rows,h1,rfl,h2,⟨h3,h2.1,h5⟩,h4⟩
theorem Eg (I:aE E B ρ ec h) {id cB s:Nat} {e:TypeId} {l:List (T e)} (hf:cW ec.env id=some (s,.fz cB e l)) {v:Value} (d:D E h (ak B ρ ec.env) ρ (.os id cB) v):D E h (ak B ρ ec.env) ρ (.ro e l) v:=by
 obtain ⟨_,q,h1,h0,h2⟩:=I.obj id s _ hf
 cases d with
 |os _ _ n q1 q0 hq hle hw=>
  rw [h1] at hq;cases hq
  rw [hw rfl];exact h2
theorem Ms (hE:bM E) {e:TypeId} {l:List (T e)} {v:Value} (d:D E h O ρ (.ro e l) v) {n:Int} (h0:0<=n) (h1:n < (l.length:Int)):
  ∃b o k sk r,v= .slice (some ⟨b,o,none⟩) k sk/\n < (k:Int)/\l[n.toNat]?=some r/\D E h O ρ (.ea e r 0) (.pointer (some ⟨b,o+n.toNat * E.sz e,none⟩)):=by
 obtain ⟨q,rv,rfl,hs,hr,hm,hq,ho⟩:=kq hE d
 have hlt:n.toNat < rv.length:=by rw [hr.len];omega
 have hne:rv≠[]:=List.length_pos_iff.1 (by omega)
 obtain ⟨b,o,cs,e1,e2,e3,e4⟩:=hs.lay (by omega)
 have hil:n.toNat < l.length:=by rw [← hr.len];exact hlt
 have hrow:=e4 _ _ (List.getElem?_eq_getElem hlt)
 have dl:=hr.row _ _ _ (List.getElem?_eq_getElem hil) (List.getElem?_eq_getElem hlt)
 have hsz:=hr.sz _ (List.getElem_mem hlt)
 have hb1:n.toNat * E.sz e+E.sz e<=rv.length * E.sz e:=by
  have:=Nat.mul_le_mul_right (E.sz e) (show n.toNat+1<=rv.length by omega)
  rw [Nat.add_mul,Nat.one_mul] at this;exact this
 refine ⟨b,o,q.n,q.c,_,by rw [e1],by have:=hs.len;omega,List.getElem?_eq_getElem hil,?_⟩
 refine .ea e _ 0 b (o+n.toNat * E.sz e) cs e2 (by omega) (ho b o e1 hne) fun j x w hx hw=>dl.2 j x w hx ?_
 have hj:j < E.sz e:=by rw [← hE.len e l[n.toNat]];exact (List.getElem?_eq_some_iff.1 hx).1
 rw [← hrow,List.getElem?_take_of_lt hj,List.getElem?_drop]
 exact hw
theorem zR {size:Nat} {x i:Operand} {b o k sk:Nat} {n:Int} {kk:IntKind} (hx:aj vs x= .slice (some ⟨b,o,none⟩) k sk) (hi:aj vs i= .int kk n) (h0:0<=n) (h1:n < (k:Int)):af P vs h (.qo size x i)=some (.pointer (some ⟨b,o+n.toNat * size,none⟩),h):=by
 simp only [af,hx,hi]
 rw [if_pos ⟨h0,h1,trivial⟩]
theorem nh {k:IntKind} {n:Int} {v:Value} (d:D (T:=T) E h O ρ (.v (.int k n)) v):v= .int k n:=by cases d;rfl
theorem M4 (hE:bM E) (I:aE E B ρ ec h) (d:DL E h (ak B ρ ec.env) ρ ts vs) {size:Nat} {x i:Operand} (hs:dr P E (.qo size x i) ts ec K):Gv P E B ρ ec h (.qo size x i) vs K:=by
 have dx:=D.bV d x
 have di:=D.bV d i
 simp only [dr] at hs
 split at hs
 ·rename_i e l k n hx hi
  rw [hx] at dx
  rw [hi] at di
  obtain ⟨hb,a0,a1,a2⟩:=ai.1 hs
  have hb:=Nat.eq_of_beq_eq_true hb
  obtain ⟨b,o,kk,sk,r,e1,e2,e3,e4⟩:=Ms hE dx a0 a1
  exact .same I (zR e1 (nh di) a0 e2) (by rw [hb];exact e4) (a2 r e3)
 ·rename_i id cB k n hx hi
  rw [hx] at dx
  rw [hi] at di
  split at hs
  ·rename_i v e l hg
   obtain ⟨s,hf⟩:=aB hg
   obtain ⟨hb,a0,a1,a2⟩:=ai.1 hs
   simp only [Bool.and_eq_true] at hb
   have hv:=Nat.eq_of_beq_eq_true hb.1
   have hb2:=Nat.eq_of_beq_eq_true hb.2
   subst hv
   obtain ⟨q,rows,g1,g2,g3,g4,g5⟩:=oe I hf dx
   rcases g3.2 with ⟨e1,e2⟩ |⟨b,t,e1,e2,e3⟩
   ·have:=g4.len;rw [e2] at this;simp at this;omega
   ·have hq:q.p=some ⟨b,0,none⟩:=by rw [e1]
    have hn:q.n=rows.length:=by rw [e1]
    rw [hq] at g2
    refine .same I (zR g2 (nh di) a0 (by rw [hn,g4.len];exact a1)) (.oa id v v e n 0 q b _ g1 (Nat.le_refl _) fun _=>⟨by rw [hn,g4.len];omega,hq,by rw [hb2];omega⟩) a2
  ·rename_i v e l hg
   obtain ⟨s,hf⟩:=aB hg
   obtain ⟨hb,a0,a1,a2⟩:=ai.1 hs
   simp only [Bool.and_eq_true] at hb
   have hv:=Nat.eq_of_beq_eq_true hb.1
   have hb2:=Nat.eq_of_beq_eq_true hb.2
   subst hv
   obtain ⟨b,o,kk,sk,r,e1,e2,e3,e4⟩:=Ms hE (Eg I hf dx) a0 a1
   exact .same I (zR e1 (nh di) a0 e2) (by rw [hb2];exact e4) (a2 r e3)
  ·exact hs.elim
 ·exact hs.elim
theorem og {len size:Nat} {x i:Operand} {b o:Nat} {n:Int} {kk:IntKind} (hx:aj vs x= .pointer (some ⟨b,o,none⟩)) (hi:aj vs i= .int kk n) (h0:0<=n) (h1:n < (len:Int)):af P vs h (.gF len size x i)=some (.pointer (some ⟨b,o+n.toNat * size,none⟩),h):=by
 simp only [af,hx,hi]
 rw [if_pos ⟨h0,h1,trivial⟩]
theorem tM {k:Nat} {Q:Nat->Prop}:∀{m j:Nat},GQ j m (k:Int) Q->j<=k->k < j+m->Q k
 | 0,j,_,h1,h2=>by omega
 |m+1,j,hp,h1,h2=>by
  rcases Nat.eq_or_lt_of_le h1 with e |e
  ·subst e;exact hp.1 rfl
  ·exact tM hp.2 e (by omega)
theorem LH (I:aE E B ρ ec h) (d:DL E h (ak B ρ ec.env) ρ ts vs) {len size:Nat} {x i:Operand} (hs:dr P E (.gF len size x i) ts ec K):Gv P E B ρ ec h (.gF len size x i) vs K:=by
 have dx:=D.bV d x
 have di:=D.bV d i
 simp only [dr] at hs
 split at hs
 ·rename_i id o c k n hx hi
  rw [hx] at dx
  rw [hi] at di
  obtain ⟨hb,a2⟩:=ai.1 hs
  simp only [Bool.and_eq_true,decide_eq_true_eq] at hb
  generalize hv:aj vs x=va at dx
  cases dx with
  |ptr _ _ b q hq hb'=>exact .same I (og hv (nh di) hb.1 hb.2) (.ptr id _ b q hq hb') a2
 ·rename_i id o k n hx _ hi
  rw [hx] at dx
  rw [hi] at di
  obtain ⟨a0,a1,a2⟩:=hs
  generalize hv:aj vs x=va at dx
  cases dx with
  |ptr _ _ b q hq hb'=>exact .same I (og hv (nh di) a0 a1) (.arr id o size len b n q hq hb' a0 a1) a2
 ·rename_i g o k n hx hi
  rw [hx] at dx
  rw [hi] at di
  obtain ⟨a0,a1,a2⟩:=hs
  generalize hv:aj vs x=va at dx
  cases dx with
  |gp _ _=>exact .same I (og hv (nh di) a0 a1) (.ga g o size len n a0 a1) a2
 ·rename_i e r o c k n hx hi
  rw [hx] at dx
  rw [hi] at di
  obtain ⟨hb,a2⟩:=ai.1 hs
  simp only [Bool.and_eq_true,decide_eq_true_eq] at hb
  generalize hv:aj vs x=va at dx
  cases dx with
  |ea _ _ _ b o' cs h1 h2 h3 h4=>exact .same I (og hv (nh di) hb.1 hb.2) (by rw [Nat.add_assoc];exact .ea e r _ b o' cs h1 h2 h3 h4) a2
 ·rename_i e r o k n hx _ hi
  rw [hx] at dx
  rw [hi] at di
  obtain ⟨a0,a1,a2⟩:=hs
  generalize hv:aj vs x=va at dx
  obtain ⟨j,rfl⟩:=Int.eq_ofNat_of_zero_le a0
  cases dx with
  |ea _ _ _ b o' cs h1 h2 h3 h4=>exact .same I (og hv (nh di) a0 a1) (by rw [Nat.add_assoc];exact .ea e r _ b o' cs h1 h2 h3 h4) (tM (k:=j) a2 (Nat.zero_le _) (by omega))
 ·exact hs.elim
theorem FN (I:aE E B ρ ec h) (d:DL E h (ak B ρ ec.env) ρ ts vs) {off:Nat} {x:Operand} (hs:dr P E (.fieldAddr off x) ts ec K):Gv P E B ρ ec h (.fieldAddr off x) vs K:=by
 have dx:=D.bV d x
 have key:∀{b o:Nat},aj vs x= .pointer (some ⟨b,o,none⟩)->af P vs h (.fieldAddr off x)=some (.pointer (some ⟨b,o+off,none⟩),h):=fun {b o} hv=>by
  simp only [af,hv];rfl
 simp only [dr] at hs
 generalize hv:aj vs x=va at dx
 cases hx:bV ts x<;>rw [hx] at hs dx<;>simp only at hs
 case ptr id o=>cases dx with |ptr _ _ b q hq hb=>exact .same I (key hv) (.ptr id _ b q hq hb) hs
 case ea e r o=>cases dx with |ea _ _ _ b o' cs h1 h2 h3 h4=>exact .same I (key hv) (by rw [Nat.add_assoc];exact .ea e r _ b o' cs h1 h2 h3 h4) hs
 case oa id cB e i o=>cases dx with |oa _ _ n _ _ _ q b o' hq hle hw=>exact .same I (key hv) (.oa id cB n e i _ q b _ hq hle fun e1=>⟨(hw e1).1,(hw e1).2.1,by rw [(hw e1).2.2];omega⟩) hs
 case gp g o=>cases dx with |gp _ _=>exact .same I (key hv) (.gp g _) hs
 all_goals exact hs.elim
theorem M5 (I:aE E B ρ ec h) (d:DL E h (ak B ρ ec.env) ρ ts vs) {agg:Bool} {n off:Nat} {x:Operand} (hs:dr P E (.field agg n off x) ts ec K):Gv P E B ρ ec h (.field agg n off x) vs K:=by
 have dx:=D.bV d x
 simp only [dr] at hs
 generalize hv:aj vs x=va at dx
 cases hx:bV ts x<;>rw [hx] at hs dx<;>simp only at hs
 case agg cs=>
  cases dx with
  |agg _ us hl hd=>
   obtain ⟨g1,y,v,g2,g3,g4⟩:=lV (E:=E) (h:=h) (ρ:=ρ) (O:=ak B ρ ec.env) (vs:=us) ⟨hl,hd⟩ hs
   refine .same I ?_ g3 g4
   simp only [af,hv]
   rw [if_pos g1]
   cases agg with
   |true=>simp only at g2;subst g2;rfl
   |false=>simp only at g2;simp only [Bool.false_eq_true,if_false,g2];rfl
 all_goals exact hs.elim
theorem Ii (I:aE E B ρ ec h) (d:DL E h (ak B ρ ec.env) ρ ts vs) {x:Operand} (hs:dr P E (.nilCheck x) ts ec K):Gv P E B ρ ec h (.nilCheck x) vs K:=by
 have dx:=D.bV d x
 simp only [dr] at hs
 have key:∀{p:Addr},aj vs x= .pointer (some p)->af P vs h (.nilCheck x)=some (.pointer (some p),h):=fun {p} hv=>by simp only [af,hv]
 cases hx:bV ts x<;>rw [hx] at hs dx<;>simp only at hs
 case ptr id o=>
  generalize hv:aj vs x=va at dx
  cases dx with |ptr _ _ b q hq hb=>exact .same I (key hv) (.ptr id _ b q hq hb) hs
 case arr a b c d' i=>
  generalize hv:aj vs x=va at dx
  cases dx with |arr _ _ _ _ b' _ q hq hb h0 h1=>exact .same I (key hv) (.arr _ _ _ _ b' _ q hq hb h0 h1) hs
 case ea e r o=>
  generalize hv:aj vs x=va at dx
  cases dx with |ea _ _ _ b o' cs h1 h2 h3 h4=>exact .same I (key hv) (.ea e r _ b o' cs h1 h2 h3 h4) hs
 case gp g o=>
  generalize hv:aj vs x=va at dx
  cases dx with |gp _ _=>exact .same I (key hv) (.gp g _) hs
 case ga=>
  generalize hv:aj vs x=va at dx
  cases dx with |ga _ _ _ _ _ h0 h1=>exact .same I (key hv) (.ga _ _ _ _ _ h0 h1) hs
 case fn g a b=>
  generalize hv:aj vs x=va at dx
  cases dx with
  |fn _ _ _ va vb ha hb hda hdb=>exact .same I (v:=.func (.func g) ⟨va⟩ ⟨vb⟩) (by simp only [af,hv]) (.fn g a b va vb ha hb hda hdb) hs
 case op w=>
  generalize hv:aj vs x=va at dx
  cases dx with
  |op _ hw=>
   refine .same I (v:=w) ?_ (.op w hw) hs
   unfold Ef at hw
   split at hw
   ·simp only [af,hv]
   ·simp only [af,hv]
   ·cases hw
 all_goals exact hs.elim
theorem OW (hE:bM E) (I:aE E B ρ ec h) (d:DL E h (ak B ρ ec.env) ρ ts vs) {x:Operand} (hs:dr P E (.qp x) ts ec K):Gv P E B ρ ec h (.qp x) vs K:=by
 have dx:=D.bV d x
 simp only [dr] at hs
 have key:∀{p:Option Addr} {n c:Nat},aj vs x= .slice p n c->af P vs h (.qp x)=some (.int .i64 n,h):=fun hv=>by simp only [af,hv]
 split at hs
 ·rename_i e l hx
  rw [hx] at dx
  obtain ⟨q,rv,e1,hs1,hr,hm,_,_⟩:=kq hE dx
  refine .same I (key e1) (x:=.v (.int .i64 (l.length:Int))) ?_ (vX hs hm)
  rw [hs1.len,hr.len];exact .v _
 ·rename_i id cB hx
  rw [hx] at dx
  split at hs
  ·rename_i v e l hg
   obtain ⟨s,hf⟩:=aB hg
   obtain ⟨hb,a2⟩:=ai.1 hs
   have hv:=Nat.eq_of_beq_eq_true hb
   subst hv
   obtain ⟨q,rows,g1,g2,g3,g4,g5⟩:=oe I hf dx
   refine .same I (key g2) (x:=.v (.int .i64 (l.length:Int))) ?_ (vX a2 g5)
   rw [g3.MP.len,g4.len];exact .v _
  ·rename_i v e l hg
   obtain ⟨s,hf⟩:=aB hg
   obtain ⟨hb,a2⟩:=ai.1 hs
   have hv:=Nat.eq_of_beq_eq_true hb
   subst hv
   obtain ⟨q,rv,e1,hs1,hr,hm,_,_⟩:=kq hE (Eg I hf dx)
   refine .same I (key e1) (x:=.v (.int .i64 (l.length:Int))) ?_ (vX a2 hm)
   rw [hs1.len,hr.len];exact .v _
  ·exact hs.elim
 ·rename_i p n c hx
  rw [hx] at dx
  generalize hv:aj vs x=va at dx
  cases dx
  exact .same I (key hv) (.v _) hs
 ·exact hs.elim
end Go.Ev
namespace Go.Ev
open Go
variable {T:TypeId->Type} {P:Program} {E:gR T} {B:Nat->Prop} {ρ ρ' ρ'':Loc} {ec ec' ec'':EC T} {h h' h'':H} {ts:List (X T)} {vs:List Value} {K:X T->EC T->Prop} {O:Nat->Prop}
theorem uS {w v:Value} (d:D (T:=T) E h O ρ (.v w) v):v=w:=by cases d;rfl
theorem N8 (I:aE E B ρ ec h) (d:DL E h (ak B ρ ec.env) ρ ts vs) {op:BinOp} {x y:Operand} (hs:dr P E (.lp op x y) ts ec K):Gv P E B ρ ec h (.lp op x y) vs K:=by
 have dx:=D.bV d x
 have dy:=D.bV d y
 simp only [dr] at hs
 split at hs
 ·rename_i k a k' b hx hy
  rw [hx] at dx
  rw [hy] at dy
  obtain ⟨h1,v,h2,h3⟩:=zm hs
  refine .same I ?_ (.v v) h3
  simp only [af,nh dx,nh dy]
  rw [if_pos (by rcases h1 with h1 |h1 |h1<;>simp [h1]),h2];rfl
 ·exact hs.elim
theorem Ij (d:DL E h O ρ ts vs) {o:Oper} (hp:fW (.gen o)=true) (hc:(o.op.operands.toList.all fun x=>(bV ts x).cv.isSome)=true):af P vs h (.gen o)=af P (ts.map fun x=>x.cv.getD undef) h (.gen o):=by
 refine wE hp fun x hx=>?_
 rw [List.all_eq_true] at hc
 obtain ⟨w,hw⟩:=Option.isSome_iff_exists.1 (hc x hx)
 have h1:=mE hw (D.bV d x)
 rw [h1]
 cases x with
 |tmp t=>
  show w=(ts.map fun x=>x.cv.getD undef).getD t undef
  simp only [bV,List.getD_eq_getElem?_getD] at hw
  rw [List.getD_eq_getElem?_getD,List.getElem?_map]
  cases ht:ts[t]? with
  |none=>rw [ht] at hw;simp [X.cv] at hw
  |some y=>rw [ht] at hw;simp only [Option.getD_some] at hw;simp [hw]
 |const v=>exact h1.symm
 |global g=>simp [bV,X.cv] at hw
 |func f=>simp [bV,X.cv] at hw
theorem Ik {o:Oper} {gk:GK} {sh:AF} {K:Value->Prop} (hg:lD P o=gk) (hs:gQ o.op gk sh vs K):fW (.gen o)=true:=by
 show (match o.op with | .select _ _=>false |_=>true)=true
 split
 ·rename_i he
  subst hg
  unfold lD at hs
  rw [he] at hs
  simp [gQ] at hs
 ·rfl
theorem OX (I:aE E B ρ ec h) (d:DL E h (ak B ρ ec.env) ρ ts vs) {o:Oper} (hs:dr P E (.gen o) ts ec K):Gv P E B ρ ec h (.gen o) vs K:=by
 simp only [dr] at hs
 obtain ⟨hc,hs⟩:=ai.1 hs
 split at hs
 ·rename_i len size t x i hg ho
  split at hs
  ·rename_i cs k n hx hi
   have dx:=D.bV d x
   have di:=D.bV d i
   rw [hx] at dx
   rw [hi] at di
   obtain ⟨hl,a0,a1,a2⟩:=ai.1 hs
   have hl:=Nat.eq_of_beq_eq_true hl
   generalize hv:aj vs x=va at dx
   cases dx with
   |agg _ us hlen hd=>
    obtain ⟨y,v,g1,g2,g3,g4⟩:=vY (E:=E) (h:=h) (ρ:=ρ) (O:=ak B ρ ec.env) (vs:=us) ⟨hlen,hd⟩ (by omega) a2
    have hsg:gQ o.op (lD P o) (.one (.at .val)) vs (fun w=>w=v):=by
     rw [hg,ho]
     simp only [gQ,hv,nh di]
     exact ai.2 ⟨g2,a0,a1,v,g1,rfl⟩
    obtain ⟨w,e1,e2⟩:=tC (h:=h) hsg
    subst e2
    exact .same I e1 g3 g4
  ·exact hs.elim
 ·obtain ⟨v,h1,h2⟩:=tC (h:=h) hs
  exact .same I (by rw [Ij d (Ik rfl hs) hc];exact h1) (.xc v) h2
theorem mF {d:Nat} {dl:DL E h O ρ ts vs} {o:Option Operand} {K:Int->Prop} (hs:pe ts d o K):∃n:Int,K n/\(0<=n->bound vs d o=some n.toNat):=by
 cases o with
 |none=>exact ⟨d,hs,fun _=>rfl⟩
 |some x=>
  simp only [pe] at hs
  split at hs
  ·rename_i k n hx
   have dx:=D.bV dl x
   rw [hx] at dx
   refine ⟨n,hs,fun h0=>?_⟩
   simp only [bound,nh dx]
   rw [if_pos h0]
  ·exact hs.elim
theorem Kn (_hE:bM E) {e:TypeId} {l:List (T e)} {q:SV} {rv:List (List Value)} (hs:xJ h q (E.sz e) rv) (hr:iz E h O ρ e l rv) (hm:l.length<=maxLen) (ho:∀b o,q.p=some ⟨b,o,none⟩->rv≠[]->¬O b) {b o lo hi sk:Nat} {a:Addr} (hq:q.p=some ⟨b,o,none⟩)
  (ha:a=⟨b,o+lo * E.sz e,none⟩\/lo=hi/\a=⟨b,o,none⟩) (h1:lo<=hi) (h2:hi<=l.length):D E h O ρ (.ro e ((l.take hi).drop lo)) (.slice (some a) (hi - lo) sk):=by
 have hlen:((l.take hi).drop lo).length=hi - lo:=by rw [List.length_drop,List.length_take];omega
 have hlen2:((rv.take hi).drop lo).length=hi - lo:=by rw [List.length_drop,List.length_take,hr.len];omega
 have hget:∀{α:Type} (m:List α) (i:Nat) (x:α),((m.take hi).drop lo)[i]?=some x->m[lo+i]?=some x/\lo+i < hi:=fun m i x hx=>by
  rw [List.getElem?_drop] at hx
  have hlt:lo+i < hi:=by
   rcases Nat.lt_or_ge (lo+i) hi with g |g
   ·exact g
   ·rw [List.getElem?_take_eq_none g] at hx;cases hx
  rw [List.getElem?_take_of_lt hlt] at hx
  exact ⟨hx,hlt⟩
 have hall:∀r∈(rv.take hi).drop lo,r.length=E.sz e:=fun r hx=>hs.all r (List.mem_of_mem_take (List.mem_of_mem_drop hx))
 refine .ro e _ ⟨some a,hi - lo,sk⟩ ((rv.take hi).drop lo) ⟨hlen2.symm,hall,fun hp=>?_⟩ (hlen2.trans hlen.symm) (by rw [hlen];omega) (.inr ?_) (fun b' o' e1 hne=>?_) fun i x r g1 g2=>?_
 ·have hne:lo≠hi:=by omega
  rcases ha with ha |⟨ha,_⟩
  ·obtain ⟨b',o',cs,e1,e2,e3,e4⟩:=hs.lay (by rw [hr.len];omega)
   rw [hq] at e1;cases e1
   have hb1:lo * E.sz e+((rv.take hi).drop lo).length * E.sz e<=rv.length * E.sz e:=by
    rw [hlen2,← Nat.add_mul]
    exact Nat.mul_le_mul_right _ (by rw [hr.len];omega)
   refine ⟨b,o+lo * E.sz e,cs,by rw [ha],e2,by omega,fun i r hi'=>?_⟩
   obtain ⟨g,_⟩:=hget rv i r hi'
   have:=e4 _ _ g
   rw [Nat.add_mul,← Nat.add_assoc] at this;exact this
  ·exact absurd ha hne
 ·rcases ha with ha |⟨_,ha⟩<;>rw [ha]
  ·exact ⟨_,_,rfl⟩
  ·exact ⟨_,_,rfl⟩
 ·have hb:b'=b:=by
   simp only [Option.some.injEq] at e1
   rcases ha with ha |⟨_,ha⟩<;>rw [ha] at e1<;>cases e1<;>rfl
  subst hb
  refine ho b' o hq fun e0=>hne ?_
  rw [e0];simp
 ·obtain ⟨k1,_⟩:=hget l i x g1
  obtain ⟨k2,_⟩:=hget rv i r g2
  exact (hr.row _ x r k1 k2).2
theorem Ko (hE:bM E) (I:aE E B ρ ec h) (d:DL E h (ak B ρ ec.env) ρ ts vs) {size:Nat} {x:Operand} {lo hi:Option Operand} (hs:dr P E (.gI size x lo hi) ts ec K):Gv P E B ρ ec h (.gI size x lo hi) vs K:=by
 have dx:=D.bV d x
 simp only [dr] at hs
 split at hs
 ·rename_i hx
  rw [hx] at dx
  obtain ⟨l,hs,e1⟩:=mF (dl:=d) (d:=0) hs
  obtain ⟨u,hs,e2⟩:=mF (dl:=d) (d:=0) hs
  obtain ⟨rfl,rfl,a2⟩:=hs
  refine .same I ?_ (.v _) a2
  simp only [af,uS dx,e1 (by omega),e2 (by omega)];rfl
 ·rename_i hne
  cases hfz:fe ec (bV ts x) with
  |mk y ec1=>
   rw [hfz] at hs
   obtain ⟨s1,d1⟩:=uZ I dx hfz
   split at hs
   ·rename_i e l ec2 hh
    cases hh
    have hh:=ai.1 hs
    clear hs
    obtain ⟨hb,hs⟩:=hh
    have hb:=Nat.eq_of_beq_eq_true hb
    obtain ⟨a,hs,e1⟩:=mF (dl:=d) (d:=0) hs
    obtain ⟨b,hs,e2⟩:=mF (dl:=d) (d:=l.length) hs
    obtain ⟨a0,a1,a2,a3⟩:=hs
    obtain ⟨q,rv,g1,g2,g3,g4,g5,g6⟩:=kq hE d1
    have hqn:q.n=l.length:=by rw [g2.len,g3.len]
    rcases g5 with g5 |⟨b',o',g5⟩
    ·subst g5
     have hl0:l=[]:=List.length_eq_zero_iff.1 hqn.symm
     subst hl0
     have a2':b<=((0:Nat):Int):=a2
     have ea:a=0:=by omega
     have eb:b=0:=by omega
     subst ea;subst eb
     refine ⟨.slice none 0 0,h,ρ,_,_,?_,s1,?_,a3⟩
     ·simp only [af,g1,e1 (by omega)]
      have:=e2 (by omega)
      simp only [List.length_nil] at this
      rw [this];rfl
     ·simpa using d1.mv (Mv.refl _ _ _) |> fun _=>(g1▸d1)
    ·refine ⟨_,h,ρ,_,_,?_,s1,Kn hE g2 g3 g4 g6 (sk:=qs q.c a.toNat) g5 (.inl rfl) (by omega) (by omega),a3⟩
     rw [g5] at g1
     simp only [af,g1,e1 (by omega),hqn,e2 (by omega)]
     rw [if_pos ⟨by omega,by omega,trivial⟩,hb]
   ·exact hs.elim
end Go.Ev
namespace Go.Ev
open Go
variable {T:TypeId->Type} {P:Program} {E:gR T} {B:Nat->Prop} {ρ ρ' ρ'':Loc} {ec ec' ec'':EC T} {h h' h'':H} {ts:List (X T)} {vs:List Value} {K:X T->EC T->Prop} {O:Nat->Prop}
theorem LI (hE:bM E) (I:aE E B ρ ec h) (d:DL E h (ak B ρ ec.env) ρ ts vs) {size:Nat} {x mx:Operand} {lo hi:Option Operand} (hs:dr P E (.slice3 size x lo hi mx) ts ec K):Gv P E B ρ ec h (.slice3 size x lo hi mx) vs K:=by
 have dx:=D.bV d x
 simp only [dr] at hs
 cases hfz:fe ec (bV ts x) with
 |mk y ec1=>
  rw [hfz] at hs
  obtain ⟨s1,d1⟩:=uZ I dx hfz
  split at hs
  ·rename_i e l ec2 hh
   cases hh
   have hh:=ai.1 hs
   clear hs
   obtain ⟨hb,hs⟩:=hh
   have hb:=Nat.eq_of_beq_eq_true hb
   obtain ⟨a,hs,e1⟩:=mF (dl:=d) (d:=0) hs
   obtain ⟨b,hs,e2⟩:=mF (dl:=d) (d:=l.length) hs
   obtain ⟨m,hs,e3⟩:=mF (dl:=d) (d:=l.length) hs
   obtain ⟨c0,c1,c2,a0,a1,a2,a3⟩:=hs
   obtain ⟨q,rv,g1,g2,g3,g4,g5,g6⟩:=kq hE d1
   have hqn:q.n=l.length:=by rw [g2.len,g3.len]
   rcases g5 with g5 |⟨b',o',g5⟩
   ·subst g5
    have:l.length=0:=hqn.symm
    omega
   ·rw [g5] at g1
    refine ⟨_,h,ρ,_,_,?_,s1,Kn hE g2 g3 g4 g6 (sk:=2 * (m.toNat - a.toNat)+1) (a:=if m.toNat=a.toNat then ⟨b',o',none⟩ else ⟨b',o'+a.toNat * E.sz e,none⟩) (lo:=a.toNat) (hi:=b.toNat) g5 ?_ (by omega) (by omega),a3⟩
    ·simp only [af,g1,e1 (by omega),hqn,e2 (by omega),e3 (by omega)]
     rw [if_pos ⟨by omega,by omega,by omega,trivial⟩,hb]
    ·split
     ·rename_i hma
      exact .inr ⟨by omega,rfl⟩
     ·exact .inl rfl
  ·exact hs.elim
theorem FO (hE:bM E) (I:aE E B ρ ec h) (d:DL E h (ak B ρ ec.env) ρ ts vs) {e:TypeId} {bytes:Nat} {zero:List Value} {l c:Operand} (hs:dr P E (.makeSlice e bytes zero l c) ts ec K):Gv P E B ρ ec h (.makeSlice e bytes zero l c) vs K:=by
 have dl:=D.bV d l
 have dc:=D.bV d c
 simp only [dr] at hs
 split at hs
 ·rename_i k n k' m z hl hc hz
  rw [hl] at dl
  rw [hc] at dc
  obtain ⟨hb,a0,a1,a2,a3,a4⟩:=ai.1 hs
  have hb:=Nat.eq_of_beq_eq_true hb
  have hrep:(List.replicate n.toNat zero).flatten=cE zero n.toNat:=by
   induction n.toNat with
   |zero=>rfl
   |succ j ih=>rw [List.replicate_succ,List.flatten_cons,ih];rfl
  have hr:iz E h (ak B ρ ec.env) ρ e (List.replicate n.toNat z) (List.replicate n.toNat zero):=⟨by simp,fun r hr=>by rw [List.eq_of_mem_replicate hr];exact hb,fun i a r h1 h2=>by
   have e1:=List.eq_of_mem_replicate (List.mem_of_getElem? h1)
   have e2:=List.eq_of_mem_replicate (List.mem_of_getElem? h2)
   rw [e1,e2,hE.dec _ _ _ hz]
   exact q5 zero⟩
  have hnew:=I.GR hr (by simpa using a3) true
  rw [hrep,List.length_replicate] at hnew
  refine ⟨_,_,_,_,_,?_,hnew,u5,a4⟩
  simp only [af,nh dl,nh dc]
  rw [if_pos ⟨a0,a1,a2,a3⟩]
 ·exact hs.elim
theorem FP (hE:bM E) {e:TypeId} {f:Int->T e} {g:T e->Int} (hb:E.byte e=some (f,g)) (s:ByteArray):iz E h O ρ e (rowsOf s f) (s.data.toList.map fun b=>[.int .u8 b.toNat]):=by
 refine ⟨by simp [rowsOf],fun r hr=>?_,fun i a r g1 g2=>?_⟩
 ·obtain ⟨b,_,rfl⟩:=List.mem_map.1 hr
  rw [Cz hE hb];rfl
 ·simp only [rowsOf,List.getElem?_map,Option.map_eq_some_iff] at g1 g2
  obtain ⟨b,e1,rfl⟩:=g1
  obtain ⟨b',e2,rfl⟩:=g2
  rw [e1] at e2;cases e2
  rw [(hE.byte e f g hb).1]
  exact .cons (.v _) .nil
theorem zS {α β:Type} (l:List α) (f:α->β):(l.map fun b=>[f b]).flatten=l.map f:=by
 induction l with
 |nil=>rfl
 |cons b l ih=>rw [List.map_cons,List.map_cons,List.flatten_cons,ih];rfl
theorem Il (hE:bM E) (I:aE E B ρ ec h) (d:DL E h (ak B ρ ec.env) ρ ts vs) {e:TypeId} {x:Operand} (hs:dr P E (.gm e x) ts ec K):Gv P E B ρ ec h (.gm e x) vs K:=by
 have dx:=D.bV d x
 simp only [dr] at hs
 split at hs
 ·rename_i s f g hx hb
  rw [hx] at dx
  obtain ⟨_,a1,a2,a3⟩:=ai.1 hs
  have hr:=FP (h:=h) (O:=ak B ρ ec.env) (ρ:=ρ) hE hb s
  have hnew:=I.GR hr (by simpa [rowsOf] using a2) false
  rw [zS] at hnew
  simp only [List.length_map,Array.length_toList] at hnew
  refine ⟨_,_,_,_,_,?_,hnew,u5,a3⟩
  simp only [af,uS dx]
  rw [if_pos a2];rfl
 ·exact hs.elim
theorem oh:∀l:List Int,cK (l.map (Value.int .u8))=some (l.map fun n=>UInt8.ofNat n.toNat)
 | []=>rfl
 |n :: r=>by simp only [List.map_cons,cK,oh r,Option.map_some]
theorem Im (hE:bM E) (I:aE E B ρ ec h) (d:DL E h (ak B ρ ec.env) ρ ts vs) {x:Operand} (hs:dr P E (.fK x) ts ec K):Gv P E B ρ ec h (.fK x) vs K:=by
 have dx:=D.bV d x
 simp only [dr] at hs
 cases hfz:fe ec (bV ts x) with
 |mk y ec1=>
  rw [hfz] at hs
  obtain ⟨s1,d1⟩:=uZ I dx hfz
  split at hs
  ·rename_i e l ec2 hh
   cases hh
   split at hs
   ·rename_i f g hb
    obtain ⟨q,rv,g1,g2,g3,_⟩:=kq hE d1
    have hsrc:=g2.src
    rw [Cz hE hb] at hsrc
    have hfl:rv.flatten=(l.map g).map (Value.int .u8):=by
     have hrow:∀(l:List (T e)) (rv:List (List Value)),iz E h (ak B ρ ec1.env) ρ e l rv->rv.flatten=(l.map g).map (Value.int .u8):=by
      intro l
      induction l with
      |nil=>intro rv hr;rw [List.length_eq_zero_iff.1 hr.len];rfl
      |cons a l ih=>
       intro rv hr
       cases rv with
       |nil=>have:=hr.len;simp at this
       |cons r rv=>
        have h0:=hr.row 0 a r rfl rfl
        rw [(hE.byte e f g hb).2] at h0
        obtain ⟨w,us,e1,d2,d3⟩:=h0.cM
        have e2:us=[]:=List.length_eq_zero_iff.1 d3.1.symm
        rw [List.flatten_cons,ih rv ⟨by simpa using hr.len,fun x hx=>hr.sz x (List.mem_cons_of_mem _ hx),fun i x y k1 k2=>hr.row (i+1) x y (by simpa using k1) (by simpa using k2)⟩,e1,e2,uS d2];rfl
     exact hrow l rv g3
    refine .same I ?_ (.v _) hs
    simp only [af,g1,ep,hsrc,Option.map_some,hfl,oh];rfl
   ·exact hs.elim
  ·rename_i c ec2 hh
   cases hh
   refine .same I ?_ (.v _) hs
   simp only [af,uS d1,ep,cg];rfl
  ·exact hs.elim
theorem Kq (I:aE E B ρ ec h) (hs:dr P E .makeMap ts ec K):Gv P E B ρ ec h .makeMap vs K:=by
 simp only [dr] at hs
 exact ⟨_,_,_,_,_,rfl,I.alloc (.mp []) ⟨some ⟨h.next,0,none⟩,1,0⟩ 0 (.map []) rfl (by omega) fun _=>⟨⟨some ⟨h.next,0,none⟩,1,0⟩,h.next,b9 _ _ _,rfl,by rw [H.bx];omega,H.aH _ _⟩,.mp _ _ _ (b9 _ _ _) rfl,hs⟩
theorem Eh {w:Value} {K:Value->Prop} (hs:Ox w K):∃v,K v:=by
 unfold Ox at hs
 split at hs
 ·obtain ⟨z,hz⟩:=hs;exact ⟨_,hz⟩
 ·obtain ⟨z,hz⟩:=hs;exact ⟨_,hz⟩
 ·obtain ⟨z,hz⟩:=hs;exact ⟨_,hz⟩
 ·exact hs.elim
theorem BF:∀{l:List Value} {K:List Value->Prop},M6 l K->∃vs,K vs
 | [],_,hs=>⟨[],hs⟩
 |w :: r,K,hs=>by
  obtain ⟨v,hv⟩:=Eh hs
  obtain ⟨vs,h2⟩:=BF hv
  exact ⟨_,h2⟩
theorem Kr {w:Value} {K:Value->Prop} (hs:OY w K):∃v,K v:=by
 unfold OY at hs
 split at hs
 ·obtain ⟨vs,h1⟩:=BF hs;exact ⟨_,h1⟩
 ·exact Eh hs
theorem Mt (I:aE E B ρ ec h) {id:Nat} {es:List (Value × Value)} {v:Value} (hg:ec.get id=some (.mp es)) (d:D (T:=T) E h (ak B ρ ec.env) ρ (.mp id) v):∃b q s,v= .map (some b)/\h.get b=some (.map es)/\cW ec.env id=some (s,.mp es)/\ρ id=some (q,0)/\q.p=some ⟨b,0,none⟩/\b < h.next:=by
 obtain ⟨s,hf⟩:=aB hg
 obtain ⟨_,q,b,h1,h2,h3,h4⟩:=I.obj id s _ hf
 cases d with
 |mp _ b' q' hq hb=>
  rw [h1] at hq;cases hq
  rw [h2] at hb;cases hb
  exact ⟨b,q,s,rfl,h4,hf,h1,h2,h3⟩
theorem LJ (I:aE E B ρ ec h) (d:DL E h (ak B ρ ec.env) ρ ts vs) {kt:TypeId} {zero:Value} {ok:Bool} {m k:Operand} (hs:dr P E (.lookup kt zero ok m k) ts ec K):Gv P E B ρ ec h (.lookup kt zero ok m k) vs K:=by
 have dm:=D.bV d m
 have dk:=D.bV d k
 simp only [dr] at hs
 split at hs
 ·rename_i id key hm hk
  rw [hm] at dm
  have hkv:=mE hk dk
  split at hs
  ·rename_i es hg
   obtain ⟨w,b,h1,h2⟩:=Kr hs
   obtain ⟨bb,q,s,g1,g2,_⟩:=Mt I hg dm
   have hmap:h.mS (aj vs m)=some es:=by rw [g1];simp only [H.mS,g2]
   cases ok with
   |true=>
    refine .same I (v:=.tuple ⟨[w,.bool b]⟩) ?_ (.gD _ [w,.bool b] rfl ?_) h2
    ·simp only [af,hmap,hkv,h1,Option.map_some];rfl
    ·exact (DL.cons (.xc w) (.cons (.v (.bool b)) .nil)).2
   |false=>
    refine .same I (v:=w) ?_ (.xc w) h2
    simp only [af,hmap,hkv,h1,Option.map_some];rfl
  ·exact hs.elim
 ·exact hs.elim
theorem FQ (I:aE E B ρ ec h) (d:DL E h (ak B ρ ec.env) ρ ts vs) {kt:TypeId} {m k v:Operand} (hs:dr P E (.mapUpdate kt m k v) ts ec K):Gv P E B ρ ec h (.mapUpdate kt m k v) vs K:=by
 have dm:=D.bV d m
 have dk:=D.bV d k
 have dv:=D.bV d v
 simp only [dr] at hs
 split at hs
 ·rename_i id key val hm hk hv
  rw [hm] at dm
  have hkv:=mE hk dk
  have hvv:=mE hv dv
  split at hs
  ·rename_i es hg
   obtain ⟨es',h1,h2⟩:=hs
   obtain ⟨b,q,s,g1,g2,g3,g4,g5,g6⟩:=Mt I hg dm
   refine ⟨undef,_,_,_,_,?_,I.B9 (o':=.mp es') (blk:=.map es') g3 rfl g4 g5 fun _=>⟨q,b,g4,g5,g6,H.an _ _ _⟩,.v undef,h2⟩
   simp only [af,g1,g2,hkv,hvv,h1,Option.map_some]
  ·exact hs.elim
 ·exact hs.elim
theorem LL (I:aE E B ρ ec h) (d:DL E h (ak B ρ ec.env) ρ ts vs) {ty:TypeId} {ok:Bool} {zero:Value} {x:Operand} (hs:dr P E (.assert ty ok zero x) ts ec K):Gv P E B ρ ec h (.assert ty ok zero x) vs K:=by
 have dx:=D.bV d x
 simp only [dr] at hs
 cases hx:bV ts x<;>rw [hx] at hs dx<;>simp only at hs
 case o9 t y=>
  generalize hv:aj vs x=va at dx
  cases dx with
  |o9 _ _ w hd=>
   cases hb:Nat.beq t ty with
   |true=>
    have ht:=Nat.eq_of_beq_eq_true hb
    rw [hb] at hs
    cases ok with
    |true=>
     refine .same I (v:=.tuple ⟨[w,.bool true]⟩) ?_ (.gD _ [w,.bool true] rfl (DL.cons hd (.cons (.v (.bool true)) .nil)).2) hs
     simp only [af,hv,oE,if_pos ht];rfl
    |false=>
     refine .same I (v:=w) ?_ hd hs
     simp only [af,hv,oE,if_pos ht];rfl
   |false=>
    have ht:¬t=ty:=fun e=>by rw [e,Nat.beq_refl] at hb;cases hb
    rw [hb] at hs
    cases ok with
    |true=>
     refine .same I (v:=.tuple ⟨[zero,.bool false]⟩) ?_ (.gD _ [zero,.bool false] rfl (DL.cons (.xc zero) (.cons (.v (.bool false)) .nil)).2) hs
     simp only [af,hv,oE,if_neg ht];rfl
    |false=>exact hs.elim
 all_goals exact hs.elim
theorem M7 (I:aE E B ρ ec h) (d:DL E h (ak B ρ ec.env) ρ ts vs) {kind:Nat} {neg:Bool} {x y:Operand} (hs:dr P E (.nK kind neg x y) ts ec K):Gv P E B ρ ec h (.nK kind neg x y) vs K:=by
 have dx:=D.bV d x
 have dy:=D.bV d y
 simp only [dr] at hs
 generalize hvx:aj vs x=vx at dx
 generalize hvy:aj vs y=vy at dy
 split at hs
 all_goals first
  |exact hs.elim
  |(rename_i hx hy
    rw [hx] at dx
    rw [hy] at dy
    cases dx<;>cases dy
    all_goals (refine .same I ?_ (.v _) hs)
    all_goals first
     |(simp only [af,hvx,hvy];done)
     |(simp only [af,hvx,hvy];rfl)
     |(rename_i hw;unfold Ef at hw;split at hw<;>first |(simp only [af,hvx,hvy];done) |cases hw))
theorem LM (I:aE E B ρ ec h) (d:DL E h (ak B ρ ec.env) ρ ts vs) {n len:Nat} {x i:Operand} (hs:dr P E (.qq n len x i) ts ec K):Gv P E B ρ ec h (.qq n len x i) vs K:=by
 have dx:=D.bV d x
 have di:=D.bV d i
 simp only [dr] at hs
 generalize hv:aj vs x=va at dx
 split at hs
 ·rename_i cs kk k hx hi
  rw [hx] at dx
  rw [hi] at di
  obtain ⟨hlen,h0,h1,hp⟩:=ai.1 hs
  have hlen:=Nat.eq_of_beq_eq_true hlen
  have hki:=uS di
  cases dx with
  |agg _ us hl hd=>
   obtain ⟨j,rfl⟩:=Int.eq_ofNat_of_zero_le h0
   have hj:j < len:=by omega
   have hmul:j * n+n<=us.length:=by
    rw [← hl,hlen,← Nat.succ_mul]
    exact Nat.mul_le_mul_right n hj
   have dsub:DL E h (ak B ρ ec.env) ρ ((cs.drop (j * n)).take n) ((us.drop (j * n)).take n):=DL.take (DL.drop ⟨hl,hd⟩ _) _
   refine .same I (v:=.agg ((us.drop (j * n)).take n).toArray) ?_ (.agg _ _ dsub.1 dsub.2) (tM (k:=j) hp (Nat.zero_le _) (by omega))
   simp only [af,hv,hki]
   rw [if_pos ⟨h0,h1,by simpa using hmul⟩]
   simp
 ·exact hs.elim
theorem Io (hE:bM E) (I:aE E B ρ ec h) (d:DL E h (ak B ρ ec.env) ρ ts vs) {op:j8} (hs:dr P E op ts ec K):Gv P E B ρ ec h op vs K:=by
 cases op with
 |move x=>exact .same I rfl (.bV d x) hs
 |pick c a b=>
  simp only [dr] at hs
  have dc:=D.bV d c
  split at hs
  ·rename_i t hc
   rw [hc] at dc
   rcases gu hs with ⟨rfl,h1⟩ |⟨rfl,h1⟩
   ·exact .same I (by simp only [af,uS dc];rfl) (.bV d a) h1
   ·exact .same I (by simp only [af,uS dc];rfl) (.bV d b) h1
  ·exact hs.elim
 |alloc e z=>exact M8 I hs
 |box e n x=>exact OZ I d hs
 |build z ps=>exact M9 I d hs
 |buildSlice e n s z ps=>exact Ei hE I d hs
 |load agg n a=>exact N9 hE I d hs
 |store n a x=>exact Na hE I d hs
 |nilCheck x=>exact Ii I d hs
 |lp op x y=>exact N8 I d hs
 |gen o=>exact OX I d hs
 |fieldAddr o x=>exact FN I d hs
 |field a n o x=>exact M5 I d hs
 |qq n l x i=>exact LM I d hs
 |qo n x i=>exact M4 hE I d hs
 |gF l n x i=>exact LH I d hs
 |gI n x lo hi=>exact Ko hE I d hs
 |slice3 n x lo hi m=>exact LI hE I d hs
 |oC f a b=>
  have da:=DL.LN d a
  have db:=DL.LN d b
  refine .same I (v:=.func (.func f) ⟨a.map (aj vs)⟩ ⟨b.map (aj vs)⟩) ?_ (.fn f _ _ _ _ da.1 db.1 da.2 db.2) hs
  simp only [af]
 |mR t x=>exact .same I rfl (.o9 t _ _ (.bV d x)) hs
 |extract x i=>
  simp only [dr] at hs
  have dx:=D.bV d x
  generalize hv:aj vs x=va at dx
  cases hx:bV ts x<;>rw [hx] at hs dx<;>simp only at hs
  case gD l=>
   cases dx with
   |gD _ us hl hd=>
    split at hs
    ·rename_i y hy
     have hi:i < us.length:=by rw [← hl];exact (List.getElem?_eq_some_iff.1 hy).1
     refine .same I ?_ (hd i y _ hy (List.getElem?_eq_getElem hi)) hs
     simp only [af,hv,List.getElem?_eq_getElem hi,Option.map_some]
    ·exact hs.elim
  all_goals exact hs.elim
 |qp x=>exact OW hE I d hs
 |nK k n x y=>exact M7 I d hs
 |append e s b x y=>exact LO hE I d hs
 |makeSlice e b z l c=>exact FO hE I d hs
 |gm e x=>exact Il hE I d hs
 |fK x=>exact Im hE I d hs
 |makeMap=>exact Kq I hs
 |lookup kt z ok m k=>exact LJ I d hs
 |mapUpdate kt m k v=>exact FQ I d hs
 |assert t ok z x=>exact LL I d hs
 |kB l=>
  cases l with
  |nil=>exact False.elim hs
  |cons x r=>
   cases r with
   |nil=>exact .same I rfl (.bV d x) hs
   |cons _ _=>exact False.elim hs
 |indexByte s c=>
  simp only [dr] at hs
  have ds:=D.bV d s
  have dc:=D.bV d c
  split at hs
  ·rename_i b n hs' hc
   rw [hs'] at ds
   rw [hc] at dc
   exact .same I (by simp only [af,uS ds,uS dc]) (.v _) (bY hs)
  ·exact hs.elim
 |_=>exact False.elim hs
end Go.Ev
namespace Go.Ev
open Go
variable {T:TypeId->Type} {P:Program} {E:gR T} {B B':Nat->Prop} {ρ ρ' ρ'':Loc} {ec ec' ec'':EC T} {h h' h'':H} {O O':Nat->Prop}
theorem u6 (mi:Nat->Option Nat) (mo:Nat->Nat->X T):∀l:List (X T),X.tN mi mo l=l.map (X.kN mi mo)
 | []=>rfl
 |x :: r=>by rw [X.tN,u6 mi mo r];rfl
theorem om:∀l:List (X T),X.pg l=l.any X.jJ
 | []=>rfl
 |x :: r=>by rw [X.pg,om r];rfl
theorem CA {mi:Nat->Option Nat} {mo:Nat->Nat->X T} {x:X T} (hr:x.row=true):x.kN mi mo=x:=by
 cases x<;>first |rfl |cases hr
theorem D.kN (hE:bM E) {mi:Nat->Option Nat} {mo:Nat->Nat->X T}
  (hI:∀id k q,mi id=some k->ρ id=some (q,0)->ρ' k=some (q,0)) (hM:∀id cB w,D E h O ρ (.os id cB) w->D E h O' ρ' (mo id cB) w)
  {x:X T} {w:Value} (d:D E h O ρ x w) (hO:(∀b,O' b->O b)\/x.jJ=false):D E h O' ρ' (x.kN mi mo) w:=by
 induction d with
 |v w=>exact .v w
 |op w hw=>exact .op w hw
 |ro e l q rows hs hl hm hq0 ho hr ih=>
  rcases hO with hO |hO
  ·refine .ro e l q rows hs hl hm hq0 (fun b o hq hne hO'=>ho b o hq hne (hO b hO')) fun i a r h1 h2 j x w h3 h4=>?_
   have:=ih i a r h1 h2 j x w h3 h4 (.inl hO)
   rwa [CA (hE.row _ _ _ (List.mem_of_getElem? h3))] at this
  ·simp [X.jJ] at hO
 |os id cB n q q0 hq hv hw=>exact hM id cB _ (.os id cB n q q0 hq hv hw)
 |ptr id off b q hq hb=>
  simp only [X.kN]
  cases hi:mi id with
  |none=>exact .bad _
  |some k=>exact .ptr k off b q (hI id k q hi hq) hb
 |arr id base size len b i q hq hb h0 h1=>
  simp only [X.kN]
  cases hi:mi id with
  |none=>exact .bad _
  |some k=>exact .arr k base size len b i q (hI id k q hi hq) hb h0 h1
 |ea e r off b o cs hlay hlen ho hr ih=>
  rcases hO with hO |hO
  ·refine .ea e r off b o cs hlay hlen (fun h3=>ho (hO b h3)) fun j x w h3 h4=>?_
   have:=ih j x w h3 h4 (.inl hO)
   rwa [CA (hE.row _ _ _ (List.mem_of_getElem? h3))] at this
  ·simp [X.jJ] at hO
 |oa id cB n e i off q b o hq hv hw=>exact .bad _
 |gp g off=>exact .gp g off
 |ga g base size len i h0 h1=>exact .ga g base size len i h0 h1
 |agg l vs hl hd ih=>
  simp only [X.kN,u6]
  refine .agg _ vs (by simpa using hl) fun j x w h1 h2=>?_
  rw [List.getElem?_map,Option.map_eq_some_iff] at h1
  obtain ⟨y,h1,rfl⟩:=h1
  refine ih j y w h1 h2 ?_
  rcases hO with hO |hO
  ·exact .inl hO
  ·simp only [X.jJ,om,List.any_eq_false] at hO
   exact .inr (by simpa using hO y (List.mem_of_getElem? h1))
 |gD l vs hl hd ih=>
  simp only [X.kN,u6]
  refine .gD _ vs (by simpa using hl) fun j x w h1 h2=>?_
  rw [List.getElem?_map,Option.map_eq_some_iff] at h1
  obtain ⟨y,h1,rfl⟩:=h1
  refine ih j y w h1 h2 ?_
  rcases hO with hO |hO
  ·exact .inl hO
  ·simp only [X.jJ,om,List.any_eq_false] at hO
   exact .inr (by simpa using hO y (List.mem_of_getElem? h1))
 |fn g a b va vb ha hb hda hdb iha ihb=>
  simp only [X.kN,u6]
  have hO2:(∀b,O' b->O b)\/X.pg a=false/\X.pg b=false:=by
   rcases hO with hO |hO
   ·exact .inl hO
   ·exact .inr (by simpa [X.jJ] using hO)
  refine .fn g _ _ va vb (by simpa using ha) (by simpa using hb) (fun j x w h1 h2=>?_) fun j x w h1 h2=>?_
  ·rw [List.getElem?_map,Option.map_eq_some_iff] at h1
   obtain ⟨y,h1,rfl⟩:=h1
   refine iha j y w h1 h2 ?_
   rcases hO2 with hO |⟨hO,_⟩
   ·exact .inl hO
   ·rw [om,List.any_eq_false] at hO
    exact .inr (by simpa using hO y (List.mem_of_getElem? h1))
  ·rw [List.getElem?_map,Option.map_eq_some_iff] at h1
   obtain ⟨y,h1,rfl⟩:=h1
   refine ihb j y w h1 h2 ?_
   rcases hO2 with hO |⟨_,hO⟩
   ·exact .inl hO
   ·rw [om,List.any_eq_false] at hO
    exact .inr (by simpa using hO y (List.mem_of_getElem? h1))
 |o9 t x w hd ih=>
  simp only [X.kN]
  exact .o9 t _ w (ih (by rcases hO with hO |hO;exact .inl hO;exact .inr (by simpa [X.jJ] using hO)))
 |mp id b q hq hb=>
  simp only [X.kN]
  cases hi:mi id with
  |none=>exact .bad _
  |some k=>exact .mp k b q (hI id k q hi hq) hb
 |ab id e r w b hw hb hr=>
  rcases hO with hO |hO
  ·have hr':∀h2 O2,J7 h O' h2 O2->E.ab e r w b h2 O2:=fun h2 O2 hf=>hr h2 O2 (J7.trans ⟨Nat.le_refl _,fun _ _ _=>rfl,fun c _ hc=>hO c hc⟩ hf)
   cases id with
   |none=>
    simp only [X.kN]
    cases b with
    |none=>exact .ab none e r w none hw trivial hr'
    |some c=>exact hb.elim
   |some i=>
    simp only [X.kN]
    cases hi:mi i with
    |none=>exact .bad _
    |some k=>
     cases b with
     |none=>exact hb.elim
     |some c=>
      obtain ⟨q,h1,h2⟩:=hb
      exact .ab (some k) e r w (some c) hw ⟨q,hI i k q hi h1,h2⟩ hr'
  ·simp [X.jJ] at hO
 |bad w=>exact .bad w
theorem DL.kN (hE:bM E) {mi:Nat->Option Nat} {mo:Nat->Nat->X T}
  (hI:∀id k q,mi id=some k->ρ id=some (q,0)->ρ' k=some (q,0)) (hM:∀id cB w,D E h O ρ (.os id cB) w->D E h O' ρ' (mo id cB) w)
  (hO:∀b,O' b->O b) {l:List (X T)} {vs:List Value} (d:DL E h O ρ l vs):DL E h O' ρ' (X.tN mi mo l) vs:=by
 rw [u6]
 refine ⟨by simpa using d.1,fun j x w h1 h2=>?_⟩
 rw [List.getElem?_map,Option.map_eq_some_iff] at h1
 obtain ⟨y,h1,rfl⟩:=h1
 exact (d.2 j y w h1 h2).kN hE hI hM (.inl hO)
theorem D.sub (hO:∀b,O' b->O b) {x:X T} {w:Value} (d:D E h O ρ x w):D E h O' ρ x w:=
 d.mv ⟨Nat.le_refl _,fun _ _ _=>rfl,fun b _ hb=>hO b hb,fun _id q n hq=>⟨q,n,hq,Nat.le_refl _,fun _=>rfl,fun e=>e⟩⟩
theorem DL.sub (hO:∀b,O' b->O b) {l:List (X T)} {vs:List Value} (d:DL E h O ρ l vs):DL E h O' ρ l vs:=⟨d.1,fun j x w h1 h2=>(d.2 j x w h1 h2).sub hO⟩
theorem D.gN {x:X T} {w:Value} (hE:bM E) (d:D E h O ρ x w) (hr:x.row=true) (hO:∀b,O' b->O b):D E h O' ρ' x w:=by
 have:=d.kN (ρ':=ρ') (O':=O') hE (mi:=fun _=>none) (mo:=fun _ _=>.bad) (fun _ _ _ h=>by cases h) (fun _ _ _ _=>.bad _) (.inl hO)
 rwa [CA hr] at this
theorem lU.kN (hE:bM E) {mi:Nat->Option Nat} {mo:Nat->Nat->X T}
  (hI:∀id k q,mi id=some k->ρ id=some (q,0)->ρ' k=some (q,0)) (hM:∀id cB w,D E h O ρ (.os id cB) w->D E h O' ρ' (mo id cB) w) (hO:∀b,O' b->O b)
  {id k n:Nat} {o:Ob T} {q:SV} (ho:lU E h O ρ id o) (hn:0 < n) (hq:ρ id=some (q,o.vn)) (hk:ρ' k=some (q,((o.kN mi mo).cB n).vn)):lU E h O' ρ' k ((o.kN mi mo).cB n):=by
 cases o with
 |box cs=>
  obtain ⟨q',b,vs,t,e,r,h1,h2,h3,h4,h5⟩:=ho
  rw [h1] at hq;cases hq
  exact ⟨q,b,vs,t,e,r,hk,h2,h3,h4,h5.kN hE hI hM hO⟩
 |os v e l=>
  obtain ⟨q',rows,h1,h0,h2,h3,h4,h5⟩:=ho
  rw [h1] at hq;cases hq
  refine ⟨q,rows,hk,hn,h2,h3,h4,fun i a r g1 g2=>⟨(h5 i a r g1 g2).1,fun j x w g3 g4=>((h5 i a r g1 g2).2 j x w g3 g4).gN hE (hE.row _ _ _ (List.mem_of_getElem? g3)) hO⟩⟩
 |mp es=>
  obtain ⟨q',b,h1,h2,h3,h4⟩:=ho
  rw [h1] at hq;cases hq
  exact ⟨q,b,hk,h2,h3,h4⟩
 |fz v e l=>
  obtain ⟨q',h1,h0,h2⟩:=ho
  rw [h1] at hq;cases hq
  exact ⟨q,hk,hn,h2.gN hE rfl hO⟩
 |fb cs=>
  obtain ⟨q',b,h1,h2,h3,h4,t,vs,e,r,h5,h6⟩:=ho
  rw [h1] at hq;cases hq
  exact ⟨q,b,hk,h2,h3,fun hb=>h4 (hO b hb),t,vs,e,r,h5,h6.kN hE hI hM hO⟩
theorem lU.keep {id:Nat} {o:Ob T} (ho:lU E h O ρ id o) (m:Mv h h' O O' ρ ρ') (hρ:∀q,ρ id=some (q,o.vn)->ρ' id=some (q,o.vn)) (hb:∀q b off,o.own=true->ρ id=some (q,o.vn)->q.p=some ⟨b,off,none⟩->h'.get b=h.get b):lU E h' O' ρ' id o:=by
 cases o with
 |box cs=>
  obtain ⟨q,b,vs,t,e,r,k1,k2,k3,k4,k5⟩:=ho
  exact ⟨q,b,vs,t,e,r,hρ q k1,k2,Nat.lt_of_lt_of_le k3 m.next,by rw [hb q b 0 rfl k1 k2];exact k4,k5.mv m⟩
 |os v e l=>
  obtain ⟨q,rows,k1,k0,k2,k3,k4,k5⟩:=ho
  refine ⟨q,rows,hρ q k1,k0,⟨k2.1,?_⟩,k3,k4,fun i a r h1 h2=>(k5 i a r h1 h2).mv m⟩
  rcases k2.2 with h1 |⟨b,t,h1,h2,h3⟩
  ·exact .inl h1
  ·exact .inr ⟨b,t,h1,Nat.lt_of_lt_of_le h2 m.next,by rw [hb q b 0 rfl k1 (by rw [h1])];exact h3⟩
 |mp es=>
  obtain ⟨q,b,k1,k2,k3,k4⟩:=ho
  exact ⟨q,b,hρ q k1,k2,Nat.lt_of_lt_of_le k3 m.next,by rw [hb q b 0 rfl k1 k2];exact k4⟩
 |fz v e l=>
  obtain ⟨q,k1,k0,k2⟩:=ho
  exact ⟨q,hρ q k1,k0,k2.mv m⟩
 |fb cs=>
  obtain ⟨q,b,k1,k2,k3⟩:=ho
  exact ⟨q,b,hρ q k1,k2,k3.mv m⟩
theorem Ej {l:List Nat} {n:Nat}:kI l n=true↔n∈l:=uM
theorem mG:∀{r acc:List Nat},acc.Nodup->(tO acc r).Nodup
 | [],_,h=>h
 |x :: r,acc,h=>by
  simp only [tO]
  cases hm:kI acc x with
  |true=>exact mG h
  |false=>
   refine mG (List.nodup_append.2 ⟨h,by simp,fun a ha b hb=>?_⟩)
   simp only [List.mem_singleton] at hb
   subst hb
   rintro rfl
   rw [Ej.2 ha] at hm;cases hm
theorem lM {env:Env T}:∀{f:Nat} {acc:List Nat} {i:Nat},acc.Nodup->(nD env f acc i).Nodup
 | 0,_,_,h=>h
 |f+1,acc,i,h=>by
  simp only [nD]
  split
  ·exact h
  ·split
   ·exact lM (mG h)
   ·exact lM h
theorem vZ:∀{L:List Nat} {d k0 k:Nat},dL L d k0=some k->k0<=k/\L[k - k0]?=some d
 | [],_,_,_,h=>by cases h
 |x :: r,d,k0,k,h=>by
  simp only [dL] at h
  cases hb:Nat.beq x d with
  |true=>
   rw [hb] at h
   simp only [cond_true,Option.some.injEq] at h
   subst h
   exact ⟨Nat.le_refl _,by rw [Nat.sub_self,Nat.eq_of_beq_eq_true hb];rfl⟩
  |false=>
   rw [hb] at h
   obtain ⟨h1,h2⟩:=vZ (show dL r d (k0+1)=some k from h)
   refine ⟨by omega,?_⟩
   have:k - k0=(k - (k0+1))+1:=by omega
   rw [this];exact h2
theorem eR {L:List Nat} {d k:Nat} (h:dL L d 0=some k):L[k]?=some d:=(vZ h).2
theorem rR:∀{L:List Nat} {d k0 k:Nat},L.Nodup->L[k]?=some d->dL L d k0=some (k0+k)
 | [],_,_,_,_,h=>by simp at h
 |x :: r,d,k0,0,_,h=>by
  simp only [List.getElem?_cons_zero,Option.some.injEq] at h
  subst h
  simp only [dL,Nat.beq_refl,cond_true,Nat.add_zero]
 |x :: r,d,k0,k+1,hn,h=>by
  simp only [List.getElem?_cons_succ] at h
  have hd:d∈r:=List.mem_of_getElem? h
  have hx:Nat.beq x d=false:=by
   cases hb:Nat.beq x d with
   |false=>rfl
   |true=>
    rw [Nat.eq_of_beq_eq_true hb] at hn
    exact absurd hd (List.nodup_cons.1 hn).1
  simp only [dL,hx,cond_false]
  rw [rR (List.nodup_cons.1 hn).2 h]
  congr 1;omega
theorem v5:∀{L:List Nat} {d k0:Nat},dL L d k0=none->d ∉ L
 | [],_,_,_=>by simp
 |x :: r,d,k0,h=>by
  simp only [dL] at h
  cases hb:Nat.beq x d with
  |true=>rw [hb] at h;cases h
  |false=>
   rw [hb] at h
   have h1:=v5 (show dL r d (k0+1)=none from h)
   intro hm
   rcases List.mem_cons.1 hm with rfl |hm
   ·rw [Nat.beq_refl] at hb;cases hb
   ·exact h1 hm
theorem v7:∀{l:List (Ob T)} {k0 id:Nat},cW (xj k0 l) id=if k0<=id then (l[id - k0]?).map fun o=>(0,o) else none
 | [],k0,id=>by simp [xj,cW]
 |o :: r,k0,id=>by
  rw [xj,gx,v7]
  by_cases h1:k0=id
  ·subst h1;simp
  ·rw [if_neg h1]
   by_cases h2:k0<=id
   ·rw [if_pos h2,if_pos (by omega)]
    have:id - k0=(id - (k0+1))+1:=by omega
    rw [this];rfl
   ·rw [if_neg h2,if_neg (by omega)]
theorem zT:∀(a b:Env T) (id:Nat),cW (a++b) id=match cW a id with |some x=>some x |none=>cW b id
 | [],_,_=>rfl
 |(t,x) :: r,b,id=>by
  rw [List.cons_append,gx,gx,zT r b id]
  split<;>rfl
theorem zU:∀{l:List (Ob T)} {out:List (Ch T)} {k0 id:Nat},cW (pq k0 l out) id=if k0<=id then (match l[id - k0]? with
  |some o=>(match bU out id with | .same=>some (0,o) | .gP o'=>some (0,o') | .gone=>none)
  |none=>none) else none
 | [],out,k0,id=>by simp [pq,cW]
 |o :: r,out,k0,id=>by
  have step:cW (pq k0 (o :: r) out) id=if k0=id then (match bU out k0 with | .same=>some (0,o) | .gP o'=>some (0,o') | .gone=>cW (pq (k0+1) r out) id) else cW (pq (k0+1) r out) id:=by
   simp only [pq]
   cases hc:bU out k0 with
   |same=>simp only [List.cons_append,List.nil_append];rw [gx]
   |gP o'=>simp only [List.cons_append,List.nil_append];rw [gx]
   |gone=>simp only [List.nil_append];split<;>rfl
  rw [step,zU]
  by_cases h1:k0=id
  ·subst h1
   simp only [Nat.le_refl,if_true,Nat.sub_self,List.getElem?_cons_zero]
   rw [if_neg (by omega)]
  ·rw [if_neg h1]
   by_cases h2:k0<=id
   ·rw [if_pos h2,if_pos (by omega)]
    have:id - k0=(id - (k0+1))+1:=by omega
    rw [this];rfl
   ·rw [if_neg h2,if_neg (by omega)]
theorem gy {ec:EC T} {L:List Nat}:∀{M:List Nat} {l:List (Ob T)},Ks ec L M=some l->l.length=M.length/\∀(k id:Nat),M[k]?=some id->∃o,ec.get id=some o/\l[k]?=some ((o.kN (fun i=>dL L i 0) (BG ec L)).cB 1)
 | [],l,h=>by
   simp only [Ks,Option.some.injEq] at h
   subst h
   exact ⟨rfl,fun k id h=>by simp at h⟩
 |x :: r,l,h=>by
  simp only [Ks] at h
  split at h
  ·rename_i o l' h1 h2
   cases h
   obtain ⟨g1,g2⟩:=gy h2
   refine ⟨by simp [g1],fun k id hk=>?_⟩
   cases k with
   |zero=>simp at hk;subst hk;exact ⟨o,h1,rfl⟩
   |succ k=>simp at hk;obtain ⟨o',g3,g4⟩:=g2 k id hk;exact ⟨o',g3,by simpa using g4⟩
  ·cases h
end Go.Ev
