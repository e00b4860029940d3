/- The evaluator over a small code, and that what it finds of a call holds of the machine, part 3. -/
import Derived.Test.YtcajalekkffcjaaDoorEv2
namespace Go.Ev
open Go Go.RowKit
theorem Trie.qG {β:Type} (p:List Bool):(Trie.leaf:Trie β).get p=none:=by cases p<;>rfl
theorem Trie.an {β:Type} (x:β):∀(p:List Bool) (t:Trie β),(t.set x p).get p=some x
 | [],.leaf=>rfl
 | [],.node _ _ _=>rfl
 |true :: p,.leaf=>Trie.an x p _
 |false :: p,.leaf=>Trie.an x p _
 |true :: p,.node l _ _=>Trie.an x p l
 |false :: p,.node _ _ r=>Trie.an x p r
theorem Trie.ah {β:Type} (x:β):∀(p q:List Bool) (t:Trie β),p≠q->(t.set x p).get q=t.get q
 | [],[],_,h=>absurd rfl h
 | [],_ :: _,.leaf,_=>by simp [Trie.set,Trie.get];split<;>simp
 | [],_ :: _,.node _ _ _,_=>rfl
 |b :: p,[],.leaf,_=>by cases b<;>rfl
 |b :: p,[],.node _ _ _,_=>by cases b<;>rfl
 |b :: p,c :: q,.leaf,h=>by
  cases b<;>cases c<;>simp only [Trie.set,Trie.get]
  ·rw [Trie.ah x p q _ (fun e=>h (by rw [e])),Trie.qG]
  ·rw [Trie.ah x p q _ (fun e=>h (by rw [e])),Trie.qG]
 |b :: p,c :: q,.node l v r,h=>by
  cases b<;>cases c<;>simp only [Trie.set,Trie.get]
  ·exact Trie.ah x p q _ (fun e=>h (by rw [e]))
  ·exact Trie.ah x p q _ (fun e=>h (by rw [e]))
theorem Bq:∀(f n:Nat),n<=f->path f n=path n n:=by
 intro f
 induction f using Nat.strongRecOn with
 |_ f ih=>
  intro n hn
  cases n with
  |zero=>cases f<;>rfl
  |succ m=>
   cases f with
   |zero=>omega
   |succ f=>
    simp only [path]
    rw [ih f (by omega) (m / 2) (by omega)]
    by_cases h:f=m
    ·subst h;rw [ih f (by omega) (f / 2) (by omega)]
    ·rw [ih m (by omega) (m / 2) (by omega)]
theorem yQ:∀(n m:Nat),path n n=path m m->n=m:=by
 intro n
 induction n using Nat.strongRecOn with
 |_ n ih=>
  intro m h
  cases n with
  |zero=>cases m with
   |zero=>rfl
   |succ m=>simp [path] at h
  |succ n=>cases m with
   |zero=>simp [path] at h
   |succ m=>
    simp only [path,List.cons.injEq] at h
    obtain ⟨h1,h2⟩:=h
    rw [Bq n (n / 2) (by omega),Bq m (m / 2) (by omega)] at h2
    have h3:=ih (n / 2) (by omega) (m / 2) h2
    have h4:(n % 2=0)↔(m % 2=0):=by
     rw [← Nat.beq_eq,← Nat.beq_eq,h1]
    omega
theorem H.an (h:H) (i:Nat) (b:eo):(h.set i b).get i=some b:=Trie.an _ _ _
theorem H.ah (h:H) {i j:Nat} (b:eo) (hne:i≠j):(h.set i b).get j=h.get j:=
 Trie.ah _ _ _ _ (fun e=>hne (yQ _ _ e))
theorem H.aH (h:H) (b:eo):(h.alloc b).get h.next=some b:=Trie.an _ _ _
theorem H.aI (h:H) {j:Nat} (b:eo) (hne:j≠h.next):(h.alloc b).get j=h.get j:=
 Trie.ah _ _ _ _ (fun e=>hne (yQ _ _ e).symm)
theorem H.ey (h:H) (i:Nat) (b:eo):(h.set i b).next=h.next:=rfl
theorem H.bx (h:H) (b:eo):(h.alloc b).next=h.next+1:=rfl
abbrev bz:=Nat->Option (Addr × Nat)
def bz.le (ρ ρ':bz):Prop:=∀i x,ρ i=some x->ρ' i=some x
def bz.lN (ρ:bz) (i:Nat) (x:Addr × Nat):bz:=fun j=>if j=i then some x else ρ j
theorem bz.le_refl (ρ:bz):ρ.le ρ:=fun _ _ h=>h
theorem bz.le_trans {a b c:bz} (h:a.le b) (k:b.le c):a.le c:=fun i x hx=>k i x (h i x hx)
theorem bz.aY (ρ:bz) (i:Nat) (x:Addr × Nat):ρ.lN i x i=some x:=by simp [bz.lN]
theorem bz.iO (ρ:bz) {i j:Nat} (x:Addr × Nat) (h:j≠i):ρ.lN i x j=ρ j:=by simp [bz.lN,h]
theorem bz.eM {ρ:bz} {i:Nat} (x:Addr × Nat) (h:ρ i=none):ρ.le (ρ.lN i x):=by
 intro j y hy
 by_cases e:j=i
 ·subst e;rw [h] at hy;cases hy
 ·rw [bz.iO ρ x e];exact hy
mutual
inductive Rv (ρ:bz):Value->Value->Prop where
 |bool (b:Bool):Rv ρ (.bool b) (.bool b)
 |int (k:IntKind) (n:Int):Rv ρ (.int k n) (.int k n)
 |string (s:ByteArray):Rv ρ (.string s) (.string s)
 |Fk:Rv ρ (.pointer none) (.pointer none)
 |ptr (i off B O c:Nat) (h:ρ i=some (⟨B,O,none⟩,c)):Rv ρ (.pointer (some ⟨i,off,none⟩)) (.pointer (some ⟨B,O+off,none⟩))
 |AE (l c:Nat):Rv ρ (.slice none l c) (.slice none l c)
 |slice (i off len skip B O c A:Nat) (h:ρ i=some (⟨B,O,none⟩,c)) (hl:len<=fL c skip) (hA:A=O+off\/fL c skip=0):
   Rv ρ (.slice (some ⟨i,off,none⟩) len skip) (.slice (some ⟨B,A,none⟩) len (fL c skip))
 |MJ:Rv ρ (.map none) (.map none)
 |map (i B O c:Nat) (h:ρ i=some (⟨B,O,none⟩,c)):Rv ρ (.map (some i)) (.map (some B))
 |nilFunc:Rv ρ .nilFunc .nilFunc
 |func (f:FuncId) (a a' b b':Array Value) (ha:RL ρ a.toList a'.toList) (hb:RL ρ b.toList b'.toList):
   Rv ρ (.func (.func f) a b) (.func (.func f) a' b')
 |yield (i B O c:Nat) (h:ρ i=some (⟨B,O,none⟩,c)):Rv ρ (.func (.yield i) #[] #[]) (.func (.yield B) #[] #[])
 |nilIface:Rv ρ .nilIface .nilIface
 |iface (t:TypeId) (v u:Value) (h:Rv ρ v u):Rv ρ (.iface t v) (.iface t u)
 |agg (a b:Array Value) (h:RL ρ a.toList b.toList):Rv ρ (.agg a) (.agg b)
 |tuple (a b:Array Value) (h:RL ρ a.toList b.toList):Rv ρ (.tuple a) (.tuple b)
inductive RL (ρ:bz):List Value->List Value->Prop where
 |nil:RL ρ [] []
 |cons {v u:Value} {l m:List Value} (h:Rv ρ v u) (t:RL ρ l m):RL ρ (v :: l) (u :: m)
end
theorem Rv.l9 {ρ:bz} (i off len B O c:Nat) (h:ρ i=some (⟨B,O,none⟩,c)) (hl:len<=c):
  Rv ρ (.slice (some ⟨i,off,none⟩) len 0) (.slice (some ⟨B,O+off,none⟩) len c):=Rv.slice i off len 0 B O c _ h hl (.inl rfl)
mutual
theorem Rv.mono {ρ ρ':bz} (hle:ρ.le ρ'):∀{v u:Value},Rv ρ v u->Rv ρ' v u
 |_,_,.bool b=>.bool b
 |_,_,.int k n=>.int k n
 |_,_,.string s=>.string s
 |_,_,.Fk=>.Fk
 |_,_,.ptr i off B O c h=>.ptr i off B O c (hle _ _ h)
 |_,_,.AE l c=>.AE l c
 |_,_,.slice i off len skip B O c A h hl hA=>.slice i off len skip B O c A (hle _ _ h) hl hA
 |_,_,.MJ=>.MJ
 |_,_,.map i B O c h=>.map i B O c (hle _ _ h)
 |_,_,.nilFunc=>.nilFunc
 |_,_,.func f a a' b b' ha hb=>.func f a a' b b' (RL.mono hle ha) (RL.mono hle hb)
 |_,_,.yield i B O c h=>.yield i B O c (hle _ _ h)
 |_,_,.nilIface=>.nilIface
 |_,_,.iface t v u h=>.iface t v u (Rv.mono hle h)
 |_,_,.agg a b h=>.agg a b (RL.mono hle h)
 |_,_,.tuple a b h=>.tuple a b (RL.mono hle h)
theorem RL.mono {ρ ρ':bz} (hle:ρ.le ρ'):∀{l m:List Value},RL ρ l m->RL ρ' l m
 |_,_,.nil=>.nil
 |_,_,.cons h t=>.cons (Rv.mono hle h) (RL.mono hle t)
end
section
variable {ρ:bz}
theorem RL.length {l m:List Value} (h:RL ρ l m):l.length=m.length:=by
 induction l generalizing m with
 |nil=>cases h;rfl
 |cons v l ih=>cases h with |cons h t=>simp [ih t]
theorem RL.append {l m l' m':List Value} (h:RL ρ l m) (h':RL ρ l' m'):RL ρ (l++l') (m++m'):=by
 induction l generalizing m with
 |nil=>cases h;exact h'
 |cons v l ih=>cases h with |cons h t=>exact .cons h (ih t)
theorem RL.take {l m:List Value} (h:RL ρ l m) (n:Nat):RL ρ (l.take n) (m.take n):=by
 induction l generalizing m n with
 |nil=>cases h;simp;exact .nil
 |cons v l ih=>cases h with |cons h t=>cases n with
  |zero=>exact .nil
  |succ n=>exact .cons h (ih t n)
theorem RL.drop {l m:List Value} (h:RL ρ l m) (n:Nat):RL ρ (l.drop n) (m.drop n):=by
 induction l generalizing m n with
 |nil=>cases h;simp;exact .nil
 |cons v l ih=>cases h with |cons h t=>cases n with
  |zero=>exact .cons h t
  |succ n=>exact ih t n
theorem RL.get {l m:List Value} (h:RL ρ l m) (i:Nat) {v:Value} (hv:l[i]?=some v):∃u,m[i]?=some u/\Rv ρ v u:=by
 induction l generalizing m i with
 |nil=>simp at hv
 |cons x l ih=>cases h with |cons h t=>cases i with
  |zero=>simp at hv;subst hv;exact ⟨_,rfl,h⟩
  |succ i=>simp at hv;simpa using ih t i hv
theorem RL.set {l m:List Value} (h:RL ρ l m) (i:Nat) {v u:Value} (hv:Rv ρ v u):RL ρ (l.set i v) (m.set i u):=by
 induction l generalizing m i with
 |nil=>cases h;exact .nil
 |cons x l ih=>cases h with |cons h t=>cases i with
  |zero=>exact .cons hv t
  |succ i=>exact .cons h (ih t i)
theorem Rv.undef:Rv ρ undef undef:=.tuple #[] #[] .nil
theorem RL.getD {l m:List Value} (h:RL ρ l m) (i:Nat):Rv ρ (l.getD i Go.undef) (m.getD i Go.undef):=by
 cases hv:l[i]? with
 |some v=>
  obtain ⟨u,hu,hr⟩:=h.get i hv
  simpa [List.getD,hv,hu] using hr
 |none=>
  have:m[i]?=none:=by
   rw [List.getElem?_eq_none_iff] at hv ⊢
   rw [← h.length];exact hv
  simpa [List.getD,hv,this] using Rv.undef
theorem RL.replicate (n:Nat):RL ρ (List.replicate n Go.undef) (List.replicate n Go.undef):=by
 induction n with
 |zero=>exact .nil
 |succ n ih=>exact .cons Rv.undef ih
theorem kf {v u:Value} (hs:aS v=true) (h:Rv ρ v u):u=v:=by
 cases h<;>first |rfl |simp [aS] at hs
theorem bX {v:Value} (hs:aS v=true):Rv ρ v v:=by
 cases v with
 |pointer a=>cases a with
  |none=>exact .Fk
  |some a=>simp [aS] at hs
 |slice a l c=>cases a with
  |none=>exact .AE l c
  |some a=>simp [aS] at hs
 |map a=>cases a with
  |none=>exact .MJ
  |some a=>simp [aS] at hs
 |bool b=>exact .bool b
 |int k n=>exact .int k n
 |string s=>exact .string s
 |nilFunc=>exact .nilFunc
 |nilIface=>exact .nilIface
 |_=>simp [aS] at hs
theorem oX {p:Value->Bool} (hp:∀{v u:Value},p v=true->Rv ρ v u->u=v) {l m:List Value} (hs:l.all p=true) (h:RL ρ l m):m=l:=by
 induction l generalizing m with
 |nil=>cases h;rfl
 |cons v l ih=>
  simp only [List.all_cons,Bool.and_eq_true] at hs
  cases h with |cons h t=>rw [hp hs.1 h,ih hs.2 t]
theorem cN {p:Value->Bool} (hp:∀{v:Value},p v=true->Rv ρ v v) {l:List Value} (hs:l.all p=true):RL ρ l l:=by
 induction l with
 |nil=>exact .nil
 |cons v l ih=>
  simp only [List.all_cons,Bool.and_eq_true] at hs
  exact .cons (hp hs.1) (ih hs.2)
theorem qH {a b:Array Value} (h:b.toList=a.toList):b=a:=by
 cases a;cases b;simp at h;rw [h]
theorem yd {v u:Value} (hs:dD v=true) (h:Rv ρ v u):u=v:=by
 cases h with
 |agg a b h=>simp only [dD] at hs;rw [qH (oX kf hs h)]
 |_=>first |rfl |simp [dD,aS] at hs
theorem rJ {v:Value} (hs:dD v=true):Rv ρ v v:=by
 cases v with
 |agg a=>simp only [dD] at hs;exact .agg a a (cN bX hs)
 |_=>exact bX (by simpa [dD] using hs)
theorem nW {v u:Value} (hs:ay v=true) (h:Rv ρ v u):u=v:=by
 cases h with
 |tuple a b h=>simp only [ay] at hs;rw [qH (oX yd hs h)]
 |func f a a' b b' ha hb=>
  simp only [ay,Bool.and_eq_true] at hs
  rw [qH (oX kf hs.1 ha),qH (oX kf hs.2 hb)]
 |iface t v u h=>simp only [ay] at hs;rw [yd hs h]
 |agg a b h=>exact yd (by simpa [ay] using hs) (.agg a b h)
 |yield=>simp [ay,dD,aS] at hs
 |_=>first |rfl |simp [ay,dD,aS] at hs
theorem kG {v:Value} (hs:ay v=true):Rv ρ v v:=by
 cases v with
 |tuple a=>simp only [ay] at hs;exact .tuple a a (cN rJ hs)
 |iface t v=>simp only [ay] at hs;exact .iface t v v (rJ hs)
 |func fn a b=>cases fn with
  |func f=>
   simp only [ay,Bool.and_eq_true] at hs
   exact .func f a a b b (cN bX hs.1) (cN bX hs.2)
  |_=>simp [ay,dD,aS] at hs
 |_=>exact rJ (by simpa [ay] using hs)
theorem Rv.one {v u:Value} (h:Rv ρ v u):u.oneCell'=v.oneCell':=by cases h<;>rfl
theorem RL.JB {l m:List Value} (h:RL ρ l m) (hl:l.all (·.oneCell')=true):∀u∈m,u.oneCell'=true:=by
 induction l generalizing m with
 |nil=>cases h;simp
 |cons v l ih=>
  simp only [List.all_cons,Bool.and_eq_true] at hl
  cases h with |cons h t=>
   intro u hu
   rcases List.mem_cons.1 hu with rfl |hu
   ·rw [h.one];exact hl.1
   ·exact ih t hl.2 u hu
theorem Rv.cells {v u:Value} (h:Rv ρ v u):RL ρ (aX v) u.cells.toList:=by
 cases h<;>first |exact .cons (by constructor<;>assumption) .nil |assumption
end
def eo.live:eo->Bool
 | .dead=>false
 |_=>true
def eo.own:eo->Bool
 | .cells .. | .loop .. | .CN | .map _ | .iter ..=>true
 |_=>false
def Gi:Option (Option Nat)->Option Code
 |none=>none
 |some none=>some .ret
 |some (some id)=>some (.exit id)
inductive RE (ρ:bz):List (Value × Value)->List MapEntry->Prop where
 |nil:RE ρ [] []
 |cons {k v:Value} {e:MapEntry} {l:List (Value × Value)} {m:List MapEntry} (hk:e.key=k) (hc:ay k=true) (hv:Rv ρ v e.val) (t:RE ρ l m):RE ρ ((k,v) :: l) (e :: m)
theorem RE.mono {ρ ρ':bz} (hle:ρ.le ρ'):∀{l:List (Value × Value)} {m:List MapEntry},RE ρ l m->RE ρ' l m
 |_,_,.nil=>.nil
 |_,_,.cons hk hc hv t=>.cons hk hc (hv.mono hle) (t.mono hle)
theorem zc (c:Nat):fL c 0=c:=rfl
theorem rK (c n:Nat):fL c (2 * n+1)=n:=by
 unfold fL
 rw [if_neg (by omega)]
 omega
theorem Cm {c sk l:Nat} (h:l<=fL c sk):fL c (qs sk l)=fL c sk - l:=by
 unfold fL qs at *
 by_cases e:sk % 2=0
 ·rw [if_pos e,if_pos e,if_pos (by omega)];omega
 ·rw [if_neg e] at h
  rw [if_neg e,if_neg e,if_neg (by omega)];omega
variable (P:Program)
def ze (w:World) (B:Nat) (cur:Array Value) (e:TypeId):Prop:=∃f,w.heap[B]?=some (.cells cur e f)/\(f=(0,0)\/cur.size<=f.1)
theorem ze.lt {w:World} {B:Nat} {cur:Array Value} {e:TypeId} (h:ze w B cur e):B < w.heap.size:=by
 obtain ⟨f,h,_⟩:=h;exact (Array.getElem?_eq_some_iff.1 h).1
theorem ze.same {w w':World} {B:Nat} {cur:Array Value} {e:TypeId} (h:ze w B cur e) (hs:w'.heap[B]?=w.heap[B]?):ze w' B cur e:=by
 obtain ⟨f,h,h2⟩:=h;exact ⟨f,hs.trans h,h2⟩
theorem ze.new {w:World} {B:Nat} {cur:Array Value} {e:TypeId} (h:w.heap[B]?=some (.cells cur e)):ze w B cur e:=⟨(0,0),h,.inl rfl⟩
def tq (ρ:bz) (w:World) (i:Nat):eo->Prop
 | .cells tight cs e rows=>∃B O c cur size,ρ i=some (⟨B,O,none⟩,c)/\ze w B cur e/\RL ρ cs ((cur.toList.drop O).take cs.length)/\
   bl P e=some size/\cs.length=rows * size/\cur.size=O+c * size/\rows<=c/\c<=maxLen/\(tight=true->c=rows/\O=0)
 | .ro cs=>∃B O c ds,ρ i=some (⟨B,O,none⟩,c)/\B < w.heap.size/\RL ρ cs ds/\∀j u,ds[j]?=some u->w.cell? ⟨B,O+j,none⟩=some u
 | .loop st pend ts ps assign body=>∃B c L,ρ i=some (⟨B,0,none⟩,c)/\w.heap[B]?=some (.loop L)/\L.state=st/\L.pending=Gi pend/\
   RL ρ ts L.tmps.toList/\L.params.toList=ps/\cl P L.assign=assign/\cl P L.body=body
 | .CN=>∃B c,ρ i=some (⟨B,0,none⟩,c)/\w.heap[B]?=some (.deferred (some []))
 | .map es=>∃B c arr clock,ρ i=some (⟨B,0,none⟩,c)/\w.heap[B]?=some (.map arr clock)/\RE ρ es arr.toList
 | .iter s pos=>∃B c,ρ i=some (⟨B,0,none⟩,c)/\w.heap[B]?=some (.stringIter s pos)
 | .dead=>True
structure bW (ρ:bz) (N:Nat) (w0:World) (h:H) (w:World):Prop where
 below:Below N w0 w
 size:N<=w.heap.size
 fresh:∀i,h.next<=i->ρ i=none
 top:∀i,h.next<=i->h.get i=none
 hole:∀i,P.globals.size<=i->h.get i=none->ρ i=none
 blk:∀i b,h.get i=some b->tq P ρ w i b
 y7:∀i j b b' x y,h.get i=some b->h.get j=some b'->i≠j->b.own=true->b'.live=true->ρ i=some x->ρ j=some y->x.1.block≠y.1.block
 above:∀i b x,h.get i=some b->b.own=true->ρ i=some x->N<=x.1.block
 dU:∀g,g < P.globals.size->∃c,ρ g=some (⟨g,0,none⟩,c)
variable {P} {ρ ρ':bz} {N:Nat} {w0 w w':World} {h:H}
theorem tq.mono {i:Nat} {b:eo} (hle:ρ.le ρ') (hb:tq P ρ w i b):tq P ρ' w i b:=by
 cases b with
 |cells tight cs e rows=>
  obtain ⟨B,O,c,cur,size,h1,h2,h3,h4⟩:=hb
  exact ⟨B,O,c,cur,size,hle _ _ h1,h2,h3.mono hle,h4⟩
 |ro cs=>
  obtain ⟨B,O,c,ds,h1,h2,h3,h4⟩:=hb
  exact ⟨B,O,c,ds,hle _ _ h1,h2,h3.mono hle,h4⟩
 |loop st pend ts ps assign body=>
  obtain ⟨B,c,L,h1,h2,h3,h4,h5,h6⟩:=hb
  exact ⟨B,c,L,hle _ _ h1,h2,h3,h4,h5.mono hle,h6⟩
 |CN=>
  obtain ⟨B,c,h1,h2⟩:=hb
  exact ⟨B,c,hle _ _ h1,h2⟩
 |map es=>
  obtain ⟨B,c,arr,clock,h1,h2,h3⟩:=hb
  exact ⟨B,c,arr,clock,hle _ _ h1,h2,h3.mono hle⟩
 |iter s pos=>
  obtain ⟨B,c,h1,h2⟩:=hb
  exact ⟨B,c,hle _ _ h1,h2⟩
 |dead=>trivial
theorem tq.DH {i:Nat} {b:eo} (hb:tq P ρ w i b) (hl:b.live=true):∃x,ρ i=some x/\x.1.block < w.heap.size:=by
 cases b with
 |cells tight cs e rows=>
  obtain ⟨B,O,c,cur,size,h1,h2,_⟩:=hb
  exact ⟨_,h1,h2.lt⟩
 |ro cs=>
  obtain ⟨B,O,c,ds,h1,h2,_⟩:=hb
  exact ⟨_,h1,h2⟩
 |loop st pend ts ps assign body=>
  obtain ⟨B,c,L,h1,h2,_⟩:=hb
  exact ⟨_,h1,(Array.getElem?_eq_some_iff.1 h2).1⟩
 |CN=>
  obtain ⟨B,c,h1,h2⟩:=hb
  exact ⟨_,h1,(Array.getElem?_eq_some_iff.1 h2).1⟩
 |map es=>
  obtain ⟨B,c,arr,clock,h1,h2,_⟩:=hb
  exact ⟨_,h1,(Array.getElem?_eq_some_iff.1 h2).1⟩
 |iter s pos=>
  obtain ⟨B,c,h1,h2⟩:=hb
  exact ⟨_,h1,(Array.getElem?_eq_some_iff.1 h2).1⟩
 |dead=>cases hl
theorem tq.y6 {i:Nat} {b:eo} (hb:tq P ρ w i b) (hs:w.heap.size<=w'.heap.size)
  (hx:∀x,b.live=true->ρ i=some x->w'.heap[x.1.block]?=w.heap[x.1.block]?):tq P ρ w' i b:=by
 cases b with
 |cells tight cs e rows=>
  obtain ⟨B,O,c,cur,size,h1,h2,h3⟩:=hb
  exact ⟨B,O,c,cur,size,h1,h2.same (hx _ rfl h1),h3⟩
 |ro cs=>
  obtain ⟨B,O,c,ds,h1,h2,h3,h4⟩:=hb
  refine ⟨B,O,c,ds,h1,by omega,h3,fun j u hu=>?_⟩
  rw [World.cell?_of_block (w:=w) (a:=⟨B,O+j,none⟩) (hx _ rfl h1)]
  exact h4 j u hu
 |loop st pend ts ps assign body=>
  obtain ⟨B,c,L,h1,h2,h3⟩:=hb
  exact ⟨B,c,L,h1,(hx _ rfl h1).trans h2,h3⟩
 |CN=>
  obtain ⟨B,c,h1,h2⟩:=hb
  exact ⟨B,c,h1,(hx _ rfl h1).trans h2⟩
 |map es=>
  obtain ⟨B,c,arr,clock,h1,h2,h3⟩:=hb
  exact ⟨B,c,arr,clock,h1,(hx _ rfl h1).trans h2,h3⟩
 |iter s pos=>
  obtain ⟨B,c,h1,h2⟩:=hb
  exact ⟨B,c,h1,(hx _ rfl h1).trans h2⟩
 |dead=>trivial
theorem bW.JC (R:bW P ρ N w0 h w) (b:eo) (a:Addr) (c:Nat) (hb:Below N w w')
  (hoth:∀k,k < w.heap.size->k≠a.block->w'.heap[k]?=w.heap[k]?)
  (hnot:∀j b' x,h.get j=some b'->b'.live=true->ρ j=some x->x.1.block≠a.block)
  (habove:b.own=true->N<=a.block)
  (hnew:tq P (ρ.lN h.next (a,c)) w' h.next b):
  bW P (ρ.lN h.next (a,c)) N w0 (h.alloc b) w':=by
 have hfr:=R.fresh h.next (Nat.le_refl _)
 have hle:=bz.eM (a,c) hfr
 refine ⟨R.below.trans hb,Nat.le_trans R.size hb.size,?_,?_,?_,?_,?_,?_,?_⟩
 ·intro i hi
  rw [H.bx] at hi
  rw [bz.iO ρ _ (by omega)]
  exact R.fresh i (by omega)
 ·intro i hi
  rw [H.bx] at hi
  rw [H.aI h b (by omega)]
  exact R.top i (by omega)
 ·intro i hi hg
  by_cases e:i=h.next
  ·subst e;rw [H.aH] at hg;cases hg
  ·rw [H.aI h b e] at hg
   rw [bz.iO ρ _ e]
   exact R.hole i hi hg
 ·intro i b' hg
  by_cases e:i=h.next
  ·subst e
   rw [H.aH] at hg
   cases hg
   exact hnew
  ·rw [H.aI h b e] at hg
   refine ((R.blk i b' hg).y6 hb.size fun x hl hx=>?_).mono hle
   obtain ⟨x',hx',hlt⟩:=(R.blk i b' hg).DH hl
   rw [hx] at hx';cases hx'
   exact hoth _ hlt (hnot i b' x hg hl hx)
 ·intro i j b1 b2 x y h1 h2 hne ho hl hx hy
  by_cases ei:i=h.next
  ·subst ei
   have ej:j≠h.next:=fun e=>hne e.symm
   rw [H.aI h b ej] at h2
   rw [bz.iO ρ _ ej] at hy
   rw [bz.aY] at hx
   cases hx
   exact (hnot j b2 y h2 hl hy).symm
  ·rw [H.aI h b ei] at h1
   rw [bz.iO ρ _ ei] at hx
   by_cases ej:j=h.next
   ·subst ej
    rw [bz.aY] at hy
    cases hy
    exact hnot i b1 x h1 (by cases b1<;>simp_all [eo.own,eo.live]) hx
   ·rw [H.aI h b ej] at h2
    rw [bz.iO ρ _ ej] at hy
    exact R.y7 i j b1 b2 x y h1 h2 hne ho hl hx hy
 ·intro i b1 x h1 ho hx
  by_cases ei:i=h.next
  ·subst ei
   rw [H.aH] at h1
   cases h1
   rw [bz.aY] at hx
   cases hx
   exact habove ho
  ·rw [H.aI h b ei] at h1
   rw [bz.iO ρ _ ei] at hx
   exact R.above i b1 x h1 ho hx
 ·intro g hg
  obtain ⟨c',hc'⟩:=R.dU g hg
  exact ⟨c',hle _ _ hc'⟩
theorem bW.alloc (R:bW P ρ N w0 h w) (b:eo) (c:Nat) (o:Obj)
  (hnew:tq P (ρ.lN h.next (⟨w.heap.size,0,none⟩,c)) (w.alloc o) h.next b):
  bW P (ρ.lN h.next (⟨w.heap.size,0,none⟩,c)) N w0 (h.alloc b) (w.alloc o):=by
 refine R.JC b ⟨w.heap.size,0,none⟩ c ((Below.refl N w).alloc R.size o) (fun k hk _=>Below.heap_alloc w o k hk) ?_ (fun _=>R.size) hnew
 intro j b' x hg hl hx
 obtain ⟨x',hx',hlt⟩:=(R.blk j b' hg).DH hl
 rw [hx] at hx';cases hx'
 exact Nat.ne_of_lt hlt
theorem bW.update (R:bW P ρ N w0 h w) {i:Nat} {b:eo} (hg:h.get i=some b) (ho:b.own=true) (b':eo) {x:Addr × Nat} (hx:ρ i=some x)
  (hb:Below N w w') (hoth:∀k,k < w.heap.size->k≠x.1.block->w'.heap[k]?=w.heap[k]?) (hnew:tq P ρ w' i b'):
  bW P ρ N w0 (h.set i b') w':=by
 have hlive:b.live=true:=by cases b<;>simp_all [eo.own,eo.live]
 refine ⟨R.below.trans hb,Nat.le_trans R.size hb.size,fun j hj=>R.fresh j hj,?_,?_,?_,?_,?_,R.dU⟩
 ·intro j hj
  have hne:i≠j:=fun e=>by subst e;have:=R.top i hj;rw [hg] at this;cases this
  rw [H.ah h b' hne];exact R.top j hj
 ·intro j hj hn
  by_cases e:j=i
  ·subst e;rw [H.an] at hn;cases hn
  ·rw [H.ah h b' (Ne.symm e)] at hn
   exact R.hole j hj hn
 ·intro j b1 h1
  by_cases e:j=i
  ·subst e;rw [H.an] at h1;cases h1;exact hnew
  ·rw [H.ah h b' (Ne.symm e)] at h1
   refine (R.blk j b1 h1).y6 hb.size fun y hl hy=>?_
   obtain ⟨y',hy',hlt⟩:=(R.blk j b1 h1).DH hl
   rw [hy] at hy';cases hy'
   exact hoth _ hlt (R.y7 i j b b1 x y hg h1 (Ne.symm e) ho hl hx hy).symm
 ·intro j k b1 b2 y z h1 h2 hne ho1 hl2 hy hz
  by_cases ej:j=i
  ·subst ej
   have ek:k≠j:=Ne.symm hne
   rw [H.ah h b' (Ne.symm ek)] at h2
   exact R.y7 j k b b2 y z hg h2 hne ho hl2 hy hz
  ·rw [H.ah h b' (Ne.symm ej)] at h1
   by_cases ek:k=i
   ·subst ek
    exact R.y7 j k b1 b y z h1 hg hne ho1 hlive hy hz
   ·rw [H.ah h b' (Ne.symm ek)] at h2
    exact R.y7 j k b1 b2 y z h1 h2 hne ho1 hl2 hy hz
 ·intro j b1 y h1 ho1 hy
  by_cases ej:j=i
  ·subst ej;exact R.above j b y hg ho hy
  ·rw [H.ah h b' (Ne.symm ej)] at h1
   exact R.above j b1 y h1 ho1 hy
theorem bW.kill (R:bW P ρ N w0 h w) {i:Nat} {b:eo} (hg:h.get i=some b) (ho:b.own=true):bW P ρ N w0 (h.set i .dead) w:=by
 obtain ⟨x,hx,_⟩:=(R.blk i b hg).DH (by cases b<;>simp_all [eo.own,eo.live])
 exact R.update hg ho .dead hx (Below.refl N w) (fun _ _ _=>rfl) trivial
theorem bW.drew (R:bW P ρ N w0 h w):bW P ρ N w0 h w.drew:=
 ⟨R.below.drew,R.size,R.fresh,R.top,R.hole,fun i b hg=>(R.blk i b hg).y6 (Nat.le_refl _) (fun _ _ _=>rfl),R.y7,R.above,R.dU⟩
theorem bW.Ld (R:bW P ρ N w0 h w) {r:Nat} (hr:h.get r=none) (hρ:ρ r=none) (hlt:r < h.next) (b:eo) (a:Addr) (c:Nat) (hb:Below N w w')
  (hoth:∀k,k < w.heap.size->k≠a.block->w'.heap[k]?=w.heap[k]?)
  (hnot:∀j b' x,h.get j=some b'->b'.live=true->ρ j=some x->x.1.block≠a.block)
  (habove:b.own=true->N<=a.block)
  (hnew:tq P (ρ.lN r (a,c)) w' r b):
  bW P (ρ.lN r (a,c)) N w0 (h.set r b) w':=by
 have hle:=bz.eM (a,c) hρ
 refine ⟨R.below.trans hb,Nat.le_trans R.size hb.size,?_,?_,?_,?_,?_,?_,?_⟩
 ·intro i hi
  have hi':h.next<=i:=hi
  rw [bz.iO ρ _ (by omega)]
  exact R.fresh i hi'
 ·intro i hi
  have hi':h.next<=i:=hi
  rw [H.ah h b (by omega)]
  exact R.top i hi'
 ·intro i hi hg
  by_cases e:i=r
  ·subst e;rw [H.an] at hg;cases hg
  ·rw [H.ah h b (Ne.symm e)] at hg
   rw [bz.iO ρ _ e]
   exact R.hole i hi hg
 ·intro i b' hg
  by_cases e:i=r
  ·subst e
   rw [H.an] at hg
   cases hg
   exact hnew
  ·rw [H.ah h b (Ne.symm e)] at hg
   refine ((R.blk i b' hg).y6 hb.size fun x hl hx=>?_).mono hle
   obtain ⟨x',hx',hlt⟩:=(R.blk i b' hg).DH hl
   rw [hx] at hx';cases hx'
   exact hoth _ hlt (hnot i b' x hg hl hx)
 ·intro i j b1 b2 x y h1 h2 hne ho hl hx hy
  by_cases ei:i=r
  ·subst ei
   have ej:j≠i:=fun e=>hne e.symm
   rw [H.ah h b (Ne.symm ej)] at h2
   rw [bz.iO ρ _ ej] at hy
   rw [bz.aY] at hx
   cases hx
   exact (hnot j b2 y h2 hl hy).symm
  ·rw [H.ah h b (Ne.symm ei)] at h1
   rw [bz.iO ρ _ ei] at hx
   by_cases ej:j=r
   ·subst ej
    rw [bz.aY] at hy
    cases hy
    exact hnot i b1 x h1 (by cases b1<;>simp_all [eo.own,eo.live]) hx
   ·rw [H.ah h b (Ne.symm ej)] at h2
    rw [bz.iO ρ _ ej] at hy
    exact R.y7 i j b1 b2 x y h1 h2 hne ho hl hx hy
 ·intro i b1 x h1 ho hx
  by_cases ei:i=r
  ·subst ei
   rw [H.an] at h1
   cases h1
   rw [bz.aY] at hx
   cases hx
   exact habove ho
  ·rw [H.ah h b (Ne.symm ei)] at h1
   rw [bz.iO ρ _ ei] at hx
   exact R.above i b1 x h1 ho hx
 ·intro g hg
  obtain ⟨c',hc'⟩:=R.dU g hg
  exact ⟨c',hle _ _ hc'⟩
theorem bW.Le (R:bW P ρ N w0 h w) {r:Nat} (hr:h.get r=none) (hρ:ρ r=none) (hlt:r < h.next) (b:eo) (c:Nat) (o:Obj)
  (hnew:tq P (ρ.lN r (⟨w.heap.size,0,none⟩,c)) (w.alloc o) r b):
  bW P (ρ.lN r (⟨w.heap.size,0,none⟩,c)) N w0 (h.set r b) (w.alloc o):=by
 refine R.Ld hr hρ hlt b ⟨w.heap.size,0,none⟩ c ((Below.refl N w).alloc R.size o) (fun k hk _=>Below.heap_alloc w o k hk) ?_ (fun _=>R.size) hnew
 intro j b' x hg hl hx
 obtain ⟨x',hx',hlt⟩:=(R.blk j b' hg).DH hl
 rw [hx] at hx';cases hx'
 exact Nat.ne_of_lt hlt
theorem bW.congr (R:bW P ρ N w0 h w) {h':H} (hn:h'.next=h.next) (hg:∀i,h'.get i=h.get i):bW P ρ N w0 h' w:=
 ⟨R.below,R.size,fun i hi=>R.fresh i (by omega),fun i hi=>by rw [hg];exact R.top i (by omega),fun i hi hn=>R.hole i hi (by rw [← hg];exact hn),
  fun i b h1=>R.blk i b (by rw [← hg];exact h1),fun i j b b' x y h1 h2=>R.y7 i j b b' x y (by rw [← hg];exact h1) (by rw [← hg];exact h2),
  fun i b x h1=>R.above i b x (by rw [← hg];exact h1),R.dU⟩
theorem bW.reserve (R:bW P ρ N w0 h w) (n:Nat):bW P ρ N w0 {next:=h.next+n,t:=h.t} w:=
 ⟨R.below,R.size,fun i hi=>R.fresh i (by have:h.next+n<=i:=hi;omega),fun i hi=>R.top i (by have:h.next+n<=i:=hi;omega),R.hole,R.blk,R.y7,R.above,R.dU⟩
end Go.Ev
