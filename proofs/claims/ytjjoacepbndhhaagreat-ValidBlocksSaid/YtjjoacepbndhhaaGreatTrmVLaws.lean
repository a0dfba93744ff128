import Derived.Test.YtjjoacepbndhhaaGreatTrmPlain
import Derived.Test.YtjjoacepbndhhaaGreatTrmG1a
set_option linter.unusedVariables false
set_option linter.unusedSimpArgs false
namespace Go.Trm.V
abbrev FT:=List Int×List Int×Unit
abbrev Blk:=Int×List Int×List Int×Int×Bool×Unit
abbrev Ins:=Int×Int×Int×Int×List Int×Unit
abbrev Ctx:=List FT×List Int×List (Int×Bool×Unit)×List (Int×Bool×Int×Unit)×List (Int×Bool×Int×Unit)×Int×Int×Int×Int×Bool×Unit
abbrev CK:=Ctx×List Int×List Int×List Blk×Unit
abbrev VS:=List Int×List Blk
abbrev Rz (α:Type):=Except Int (α×VS)
abbrev M (α:Type):=VS→Rz α
def bind {α β:Type} (f:M α) (g:α→M β):M β:=λv=>match f v with
 | .error e => .error e
 | .ok q=>g q.1 q.2
def ret {α:Type} (a:α):M α:=λv => .ok (a,v)
def fails {α:Type} (e:Int):M α:=λ_ => .error e
def want (b:Bool) (e:Int):M Unit:=λv=>if b=true then .ok ((),v) else .error e
def has (n many:Int):M Unit:=want (decide (0≤n∧n<many)) 7
def pop (t:Int):M Int:=λv=>match v.2 with
 |[] => .error 9
 |b::_=>if (v.1.length:Int)=b.2.2.2.1 then (if b.2.2.2.2.1=true then .ok (0,v) else .error 6) else match v.1 with
  |[] => .error 9
  |x::s=>if x=t∨x=0∨t=0 then .ok (x,(s,v.2)) else .error 6
def popsR:List Int→M (List Int)
 |[]=>ret []
 |t::ts=>bind (pop t) λx=>bind (popsR ts) λxs=>ret (x::xs)
def pops (l:List Int):M (List Int):=bind (popsR l.reverse) λxs=>ret xs.reverse
def push (l:List Int):M Unit:=λv => .ok ((),(l.reverse++v.1,v.2))
def does (l r:List Int):M Unit:=bind (pops l) λ_=>push r
def enter (op:Int) (l r:List Int):M Unit:=λv => .ok ((),(l.reverse++v.1,(op,l,r,(v.1.length:Int),false,())::v.2))
def leave:M Blk:=λv=>match v.2 with
 |[] => .error 9
 |b::_=>bind (pops b.2.2.1) (λ_ v=>if (v.1.length:Int)=b.2.2.2.1 then .ok (b,(v.1,v.2.tail)) else .error 6) v
def dead:M Unit:=λv=>match v.2 with
 |[] => .error 9
 |b::o => .ok ((),(v.1.drop (v.1.length-b.2.2.2.1.toNat),(b.1,b.2.1,b.2.2.1,b.2.2.2.1,true,())::o))
def lab (b:Blk):List Int:=if b.1=3 then b.2.1 else b.2.2.1
def label (n:Int):M (List Int):=λv=>if 0≤n∧n<v.2.length then .ok (lab (v.2.getD n.toNat (0,[],[],0,false,())),v) else .error 7
def zrHa (c:Ctx) (t:Int):Option FT :=
 if t = -64 then some ([],[],()) else if t = -1 then some ([],[127],()) else if t = -2 then some ([],[126],())
 else if 0≤t∧t<c.1.length then some (c.1.getD t.toNat ([],[],())) else none
def typeT (c:Ctx) (f:Int):Option FT :=
 if 0≤f∧f<c.2.1.length then
  (if 0≤c.2.1.getD f.toNat 0∧c.2.1.getD f.toNat 0<c.1.length then some (c.1.getD (c.2.1.getD f.toNat 0).toNat ([],[],())) else none)
 else none
def block (c:Ctx) (x:Ins):M Unit:=match zrHa c x.2.1 with
 |none=>fails 7
 |some t=>bind (if x.1=4 then bind (pop 127) (λ_=>ret ()) else ret ()) λ_=>bind (pops t.1) λ_=>enter x.1 t.1 t.2.1
def zMba:List Int→M Unit
 |[]=>ret ()
 |n::l=>bind (label n) λ_=>zMba l
def zoea (k:Nat):List Int→M Unit
 |[]=>ret ()
 |n::l=>bind (label n) λt=>bind (want (t.length==k) 6) λ_=>bind (pops t) λr=>bind (push r) λ_=>zoea k l
def table (x:Ins):M Unit:=bind (label x.2.1) λlast=>bind (zMba x.2.2.2.2.1) λ_=>bind (pop 127) λ_=>bind (zoea last.length x.2.2.2.2.1) λ_=>bind (pops last) λ_=>dead
def retn:M Unit:=λv=>match v.2.getLast? with
 |none => .error 9
 |some b=>bind (pops b.2.2.1) (λ_=>dead) v
def ctl (c:Ctx) (x:Ins):Option (M Unit) :=
 if x.1=0 then some dead
 else if x.1=1 then some (ret ())
 else if x.1=2∨x.1=3∨x.1=4 then some (block c x)
 else if x.1=5 then some (bind leave λb=>enter 5 b.2.1 b.2.2.1)
 else if x.1=11 then some (bind leave λb=>bind (want (decide (b.1≠4∨b.2.1=b.2.2.1)) 6) λ_=>push b.2.2.1)
 else if x.1=12 then some (bind (label x.2.1) λl=>bind (pops l) λ_=>dead)
 else if x.1=13 then some (bind (label x.2.1) λl=>bind (pop 127) λ_=>does l l)
 else if x.1=14 then some (table x)
 else if x.1=15 then some retn
 else if x.1=16 then some (match typeT c x.2.1 with
  |none=>fails 7
  |some t=>does t.1 t.2.1)
 else if x.1=17 then some (bind (has x.2.1 c.1.length) λ_=>bind (has x.2.2.1 c.2.2.2.1.length) λ_=>bind (pop 127) λ_=>does (c.1.getD x.2.1.toNat ([],[],())).1 (c.1.getD x.2.1.toNat ([],[],())).2.1)
 else none
def vari (c:Ctx) (l:List Int) (x:Ins):Option (M Unit) :=
 if x.1=26 then some (bind (pop 0) λ_=>ret ())
 else if x.1=27 then some (bind (pop 127) λ_=>bind (pop 0) λa=>bind (pop a) λb=>push [maxI a b])
 else if x.1=32 then some (bind (has x.2.1 l.length) λ_=>push [l.getD x.2.1.toNat 0])
 else if x.1=33 then some (bind (has x.2.1 l.length) λ_=>bind (pop (l.getD x.2.1.toNat 0)) λ_=>ret ())
 else if x.1=34 then some (bind (has x.2.1 l.length) λ_=>bind (pop (l.getD x.2.1.toNat 0)) λ_=>push [l.getD x.2.1.toNat 0])
 else if x.1=35 then some (bind (has x.2.1 c.2.2.1.length) λ_=>push [(c.2.2.1.getD x.2.1.toNat (0,false,())).1])
 else if x.1=36 then some (bind (has x.2.1 c.2.2.1.length) λ_=>bind (want (c.2.2.1.getD x.2.1.toNat (0,false,())).2.1 5) λ_=>bind (pop (c.2.2.1.getD x.2.1.toNat (0,false,())).1) λ_=>ret ())
 else if x.1=65 then some (push [127])
 else if x.1=66 then some (push [126])
 else none
def zRxa (c:Ctx) (n:Int):M Unit:=bind (want c.2.2.2.2.2.2.2.2.2.1 7) λ_=>has n c.2.2.2.2.2.2.2.2.1
def three:List Int:=[127,127,127]
def memo (acc:Int→Option (Int×Int×Bool)) (c:Ctx) (x:Ins):Option (M Unit):=match acc x.1 with
 |some a=>some (bind (has 0 c.2.2.2.2.1.length) λ_=>bind (want (decide (0≤x.2.1∧x.2.1≤3)&&decide (shlI .i64 1 x.2.1≤a.2.1)) 5) λ_=>if a.2.2=true then does [127,a.1] [] else does [127] [a.1])
 |none =>
  if x.1=63 then some (bind (has 0 c.2.2.2.2.1.length) λ_=>push [127])
  else if x.1=64 then some (bind (has 0 c.2.2.2.2.1.length) λ_=>does [127] [127])
  else if x.1=264 then some (bind (has 0 c.2.2.2.2.1.length) λ_=>bind (zRxa c x.2.1) λ_=>bind (pops three) λ_=>ret ())
  else if x.1=266 then some (bind (has 0 c.2.2.2.2.1.length) λ_=>bind (pops three) λ_=>ret ())
  else if x.1=267 then some (bind (has 0 c.2.2.2.2.1.length) λ_=>bind (pops three) λ_=>ret ())
  else if x.1=265 then some (zRxa c x.2.1)
  else if x.1=268 then some (bind (has x.2.1 c.2.2.2.2.2.2.2.1) λ_=>bind (has x.2.2.1 c.2.2.2.1.length) λ_=>bind (pops three) λ_=>ret ())
  else if x.1=270 then some (bind (has x.2.1 c.2.2.2.1.length) λ_=>bind (has x.2.2.1 c.2.2.2.1.length) λ_=>bind (pops three) λ_=>ret ())
  else if x.1=269 then some (has x.2.1 c.2.2.2.2.2.2.2.1)
  else none
def instr (acc:Int→Option (Int×Int×Bool)) (typ:Int→Option (List Int×Int)) (c:Ctx) (l:List Int) (x:Ins):M Unit:=match ctl c x with
 |some m=>m
 |none=>match vari c l x with
  |some m=>m
  |none=>match memo acc c x with
   |some m=>m
   |none=>match typ x.1 with
    |some t=>does t.1 [t.2]
    |none=>fails 2
def run (acc:Int→Option (Int×Int×Bool)) (typ:Int→Option (List Int×Int)) (c:Ctx) (l:List Int):List Ins→M Unit
 |[]=>ret ()
 |x::xs=>bind (instr acc typ c l x) λ_=>run acc typ c l xs
inductive Nx|bad|over|go (n:List Bool)
def nest (n:List Bool) (x:Ins):Nx :=
 if x.1=2∨x.1=3∨x.1=4 then (if 64≤n.length then .bad else .go (decide (x.1=4)::n))
 else if x.1=5 then (match n with
  |true::n => .go (false::n)
  |_ => .bad)
 else if x.1=11 then (match n with
  |[] => .over
  |_::n => .go n)
 else .go n
def zBba (zCaa:Ins→Bool):List Ins→List Bool→Bool
 |[],_=>false
 |x::xs,n=>if zCaa x=true then (match nest n x with
  | .bad=>false
  | .over=>xs.isEmpty
  | .go n=>zBba zCaa xs n) else false
def zFra (zCaa:Ins→Bool) (l:List Ins):Bool:=decide (l.length≤2000)&&zBba zCaa l []
def body (zCaa:Ins→Bool) (acc:Int→Option (Int×Int×Bool)) (typ:Int→Option (List Int×Int)) (c:Ctx) (f:Int×List Int×List Ins×Unit):Int :=
 if f.1<0∨(c.1.length:Int)≤f.1 then 2 else if zFra zCaa f.2.2.1=true then
  (match run acc typ c ((c.1.getD f.1.toNat ([],[],())).1++f.2.1) f.2.2.1 ([],[(2,[],(c.1.getD f.1.toNat ([],[],())).2.1,0,false,())]) with
  | .ok _=>0
  | .error e=>e)
 else 2
end Go.Trm.V
namespace Go.Trm.V
def wf:List Blk→Int→Prop
 |[],_=>True
 |b::o,n=>0≤b.2.2.2.1∧b.2.2.2.1≤n∧wf o b.2.2.2.1
theorem wf_le:∀ {o:List Blk} {n m:Int},wf o n→n≤m→wf o m
 |[],_,_,_,_=>trivial
 |_::_,_,_,⟨h1,h2,h3⟩,h=>⟨h1,Int.le_trans h2 h,h3⟩
structure Inv (B S:Nat) (v:VS):Prop where
 wf:wf v.2 v.1.length
 len:v.1.length≤S
 blk:∀b∈v.2,b.2.1.length≤B∧b.2.2.1.length≤B
theorem znga {α β:Type} {f:M α} {g:α→M β} {v:VS} {q:β×VS} (h:bind f g v = .ok q):∃a v1,f v = .ok (a,v1)∧g a v1 = .ok q:=by
 unfold bind at h;cases hf:f v with
 |error e=>rw[hf]at h; cases h
 |ok p=>obtain ⟨a,v1⟩:=p; rw[hf]at h; exact ⟨a,v1,rfl,h⟩
def Step {α:Type} (B:Nat) (d:Nat) (f:M α) (φ:VS→α→VS→Prop):Prop:=∀S v a v',Inv B S v→f v = .ok (a,v')→Inv B (S+d) v'∧φ v a v'
theorem zC2a {B S S':Nat} {v:VS} (h:Inv B S v) (hs:S≤S'):Inv B S' v:=⟨h.wf,Nat.le_trans h.len hs,h.blk⟩
theorem Step.ret {α:Type} {B:Nat} {a:α} {φ:VS→α→VS→Prop} (h:∀v,φ v a v):Step B 0 (ret a) φ:=by
 intro S v b v' hi e;cases e;exact ⟨hi,h v⟩
theorem Step.mono {α:Type} {B d d':Nat} {f:M α} {φ ψ:VS→α→VS→Prop} (h:Step B d f φ) (hd:d≤d') (k:∀v a v',φ v a v'→ψ v a v'):Step B d' f ψ:=by
 intro S v a v' hi e;obtain ⟨h1,h2⟩:=h S v a v' hi e;exact ⟨zC2a h1 (by omega),k _ _ _ h2⟩
theorem Step.bind {α β:Type} {B d d':Nat} {f:M α} {g:α→M β} {φ:VS→α→VS→Prop} {ψ χ:VS→β→VS→Prop} (h:Step B d f φ) (k:∀a,(∃v v',φ v a v')→Step B d' (g a) ψ) (hc:∀v a v1 b v2,φ v a v1→ψ v1 b v2→χ v b v2):Step B (d+d') (bind f g) χ:=by
 intro S v b v2 hi e;obtain ⟨a,v1,e1,e2⟩:=znga e;obtain ⟨h1,h2⟩:=h S v a v1 hi e1;obtain ⟨h3,h4⟩:=k a ⟨v,v1,h2⟩ _ v1 b v2 h1 e2;exact ⟨zC2a h3 (by omega),hc _ _ _ _ _ h2 h4⟩
theorem Step.want {B:Nat} {b:Bool} {e:Int}:Step B 0 (want b e) (λv _ v'=>v'=v):=by
 intro S v a v' hi h;unfold V.want at h;split at h
 ·cases h; exact ⟨hi,rfl⟩
 ·cases h
theorem Step.has {B:Nat} {n m:Int}:Step B 0 (has n m) (λv _ v'=>v'=v):=Step.want
theorem Step.fails {α:Type} {B d:Nat} {e:Int} {φ:VS→α→VS→Prop}:Step B d (fails e) φ:=by
 intro S v a v' hi h; cases h
abbrev same {α:Type}:VS→α→VS→Prop:=λv _ v'=>v'.2=v.2
theorem Step.pop {B:Nat} {t:Int}:Step B 0 (pop t) same:=by
 intro S v a v' hi h;unfold V.pop at h;split at h
 ·cases h
 ·rename_i b o ho;split at h
  ·split at h
   ·cases h; exact ⟨hi,rfl⟩
   ·cases h
  ·rename_i hne;split at h
   ·cases h
   ·rename_i x s hs;split at h
    ·cases h;refine ⟨⟨?_,?_,hi.blk⟩,rfl⟩
     ·have h1:=hi.wf;rw[ho]at h1 ⊢;rw[hs]at h1 hne;simp only[List.length_cons]at h1 hne;exact ⟨h1.1,by have:=h1.2.1; show b.2.2.2.1≤(s.length:Int); omega,h1.2.2⟩
     ·have:=hi.len; rw[hs]at this; simp only[List.length_cons]at this; show s.length≤S; omega
    ·cases h
theorem Step.popsR {B:Nat}:∀(l:List Int),Step B 0 (popsR l) (λv r v'=>v'.2=v.2∧r.length=l.length)
 |[]=>Step.ret λ_=>⟨rfl,rfl⟩
 |t::ts=>by
  intro S v r v' hi e;obtain ⟨x,v1,e1,e2⟩:=znga e;obtain ⟨xs,v2,e3,e4⟩:=znga e2;cases e4;obtain ⟨h1,h2⟩:=Step.pop S v x v1 hi e1;obtain ⟨h3,h4,h5⟩:=Step.popsR ts _ v1 xs v' h1 e3;exact ⟨h3,h4.trans h2,by simp[h5]⟩
theorem Step.pops {B:Nat} (l:List Int):Step B 0 (pops l) (λv r v'=>v'.2=v.2∧r.length=l.length):=by
 intro S v r v' hi e;obtain ⟨xs,v2,e3,e4⟩:=znga e;cases e4;obtain ⟨h3,h4,h5⟩:=Step.popsR l.reverse S v xs v' hi e3;exact ⟨h3,h4,by simp[h5]⟩
theorem Step.push {B:Nat} (l:List Int):Step B l.length (push l) same:=by
 intro S v r v' hi e;cases e;refine ⟨⟨wf_le hi.wf ?_,?_,hi.blk⟩,rfl⟩
 ·simp only[List.length_append,List.length_reverse]; omega
 ·have:=hi.len; simp only[List.length_append,List.length_reverse]; omega
theorem Step.does {B:Nat} (l r:List Int):Step B r.length (does l r) same :=
 ((Step.pops l).bind (λ_ _=>Step.push r) (λ_ _ _ _ _ h1 h2=>h2.trans h1.1)).mono (by omega) λ_ _ _ h=>h
theorem Step.enter {B:Nat} {op:Int} {l r:List Int} (hl:l.length≤B) (hr:r.length≤B):Step B B (enter op l r) (λv _ v'=>v'.2.length=v.2.length+1):=by
 intro S v u v' hi e;cases e;refine ⟨⟨⟨?_,?_,?_⟩,?_,?_⟩,by simp⟩
 ·show 0≤(v.1.length:Int); omega
 ·show (v.1.length:Int)≤_; simp only[List.length_append,List.length_reverse]; omega
 ·exact hi.wf
 ·have:=hi.len; simp only[List.length_append,List.length_reverse]; omega
 ·intro b hb;rcases List.mem_cons.1 hb with hb|hb
  ·subst hb; exact ⟨hl,hr⟩
  ·exact hi.blk b hb
theorem Step.leave {B:Nat}:Step B 0 leave (λv b v'=>v'.2.length+1=v.2.length∧b.2.1.length≤B∧b.2.2.1.length≤B∧v.2.head?=some b):=by
 intro S v b v' hi e;unfold V.leave at e;split at e
 ·cases e
 ·rename_i b0 o ho;obtain ⟨xs,v1,e1,e2⟩:=znga e;obtain ⟨h1,h2,_⟩:=Step.pops b0.2.2.1 S v xs v1 hi e1;split at e2
  ·rename_i hh;cases e2;have hb:=hi.blk b (by rw[ho]; exact List.mem_cons_self);have h3:=h1.wf;rw[h2,ho]at h3;refine ⟨⟨?_,h1.len,?_⟩,?_,hb.1,hb.2,by rw[ho]; rfl⟩
   ·rw[h2,ho];show wf o v1.1.length;exact wf_le h3.2.2 h3.2.1
   ·intro b' hb';rw[h2,ho]at hb';exact hi.blk b' (by rw[ho]; exact List.mem_cons_of_mem _ hb')
   ·rw[h2,ho]; simp
  ·cases e2
abbrev many {α:Type}:VS→α→VS→Prop:=λv _ v'=>v'.2.length=v.2.length
theorem Step.dead {B:Nat}:Step B 0 dead many:=by
 intro S v u v' hi e;unfold V.dead at e;split at e
 ·cases e
 ·rename_i b o ho;cases e;have h:=hi.wf;rw[ho]at h;have hlen:(v.1.drop (v.1.length-b.2.2.2.1.toNat)).length=b.2.2.2.1.toNat:=by
   have:=h.1; have:=h.2.1; simp only[List.length_drop]; omega
  refine ⟨⟨⟨h.1,?_,h.2.2⟩,?_,?_⟩,?_⟩
  ·rw[hlen]; show b.2.2.2.1≤_; have:=h.1; omega
  ·have:=hi.len; have:=h.1; have:=h.2.1; rw[hlen]; omega
  ·intro b' hb';rcases List.mem_cons.1 hb' with hb'|hb'
   ·subst hb'; exact hi.blk b (by rw[ho]; exact List.mem_cons_self)
   ·exact hi.blk b' (by rw[ho]; exact List.mem_cons_of_mem _ hb')
  ·show (_::o).length=v.2.length; rw[ho]; simp
theorem zi3a {B:Nat} {b:Blk} (h:b.2.1.length≤B∧b.2.2.1.length≤B):(lab b).length≤B:=by
 unfold lab; split
 ·exact h.1
 ·exact h.2
theorem Step.label {B:Nat} {n:Int}:Step B 0 (label n) (λv r v'=>v'=v∧r.length≤B):=by
 intro S v r v' hi e;unfold V.label at e;split at e
 ·rename_i h;cases e;refine ⟨hi,rfl,zi3a (hi.blk _ ?_)⟩;rw[List.getD_eq_getElem?_getD,List.getElem?_eq_getElem (by omega)];exact List.getElem_mem _
 ·cases e
theorem Step.labelsEach {B:Nat}:∀l:List Int,Step B 0 (zMba l) (λv _ v'=>v'=v)
 |[]=>Step.ret λ_=>rfl
 |n::l=>(Step.label.bind (λ_ _=>Step.labelsEach l) (λ_ _ _ _ _ h1 h2=>h2.trans h1.1)).mono (by omega) λ_ _ _ h=>h
theorem Step.popsEach {B k:Nat}:∀l:List Int,Step B (l.length*B) (zoea k l) same
 |[]=>(Step.ret (φ:=same) λ_=>rfl).mono (by simp) λ_ _ _ h=>h
 |n::l=>by
  refine ((Step.label.bind (d':=B+l.length*B) (ψ:=same) (χ:=same) (λt ht=>?_) (λ_ _ _ _ _ h1 h2=>by rw[same,h2,h1.1])).mono (by simp only[List.length_cons,Nat.add_mul]; omega) λ_ _ _ h=>h);obtain ⟨_,_,_,ht⟩:=ht;refine (Step.want.bind (d':=B+l.length*B) (ψ:=same) (χ:=same) (λ_ _=>?_) (λ_ _ _ _ _ h1 h2=>by rw[same,h2,h1])).mono (by omega) λ_ _ _ h=>h
  refine ((Step.pops t).bind (d':=B+l.length*B) (ψ:=same) (χ:=same) (λr hr=>?_) (λ_ _ _ _ _ h1 h2=>by rw[same,h2,h1.1])).mono (by omega) λ_ _ _ h=>h
  obtain ⟨_,_,_,hr⟩:=hr;exact ((Step.push r).bind (d':=l.length*B) (χ:=same) (λ_ _=>Step.popsEach l) (λ_ _ _ _ _ h1 h2=>by rw[same,h2,h1])).mono (by omega) λ_ _ _ h=>h
theorem Step.table {B:Nat} {x:Ins} (hx:x.2.2.2.2.1.length≤64):Step B (64*B) (table x) many:=by
 have h64:x.2.2.2.2.1.length*B≤64*B:=Nat.mul_le_mul_right _ hx;refine (Step.label.bind (d':=64*B) (ψ:=many) (χ:=many) (λlast _=>?_) (λ_ _ _ _ _ h1 h2=>by rw[many,h2,h1.1])).mono (by omega) λ_ _ _ h=>h
 refine ((Step.labelsEach _).bind (d':=64*B) (ψ:=many) (χ:=many) (λ_ _=>?_) (λ_ _ _ _ _ h1 h2=>by rw[many,h2,h1])).mono (by omega) λ_ _ _ h=>h
 refine (Step.pop.bind (d':=64*B) (ψ:=many) (χ:=many) (λ_ _=>?_) (λ_ _ _ _ _ h1 h2=>by rw[many,h2,h1])).mono (by omega) λ_ _ _ h=>h
 refine ((Step.popsEach _).bind (d':=0) (ψ:=many) (χ:=many) (λ_ _=>?_) (λ_ _ _ _ _ h1 h2=>by rw[many,h2,h1])).mono (by omega) λ_ _ _ h=>h
 exact ((Step.pops last).bind (d':=0) (χ:=many) (λ_ _=>Step.dead) (λ_ _ _ _ _ h1 h2=>by rw[many,h2,h1.1])).mono (by omega) λ_ _ _ h=>h
def CtxOk (B:Nat) (c:Ctx):Prop:=∀t∈c.1,t.1.length≤B∧t.2.1.length≤B
theorem zQwa {B:Nat} {c:Ctx} (h:CtxOk B c) (i:Nat):(c.1.getD i ([],[],())).1.length≤B∧(c.1.getD i ([],[],())).2.1.length≤B:=by
 by_cases hi:i<c.1.length
 ·have:=h (c.1.getD i ([],[],())) (by rw[List.getD_eq_getElem?_getD,List.getElem?_eq_getElem hi]; exact List.getElem_mem _);exact this
 ·rw[List.getD_eq_getElem?_getD,List.getElem?_eq_none (by omega)]; simp
theorem zhWa {B:Nat} {c:Ctx} (hB:1≤B) (h:CtxOk B c) {t:Int} {u:FT} (e:zrHa c t=some u):u.1.length≤B∧u.2.1.length≤B:=by
 unfold zrHa at e;split at e
 ·cases e; simp
 split at e
 ·cases e; simpa using hB
 split at e
 ·cases e; simpa using hB
 split at e
 ·cases e; exact zQwa h _
 ·cases e
theorem zfXa {B:Nat} {c:Ctx} (h:CtxOk B c) {t:Int} {u:FT} (e:typeT c t=some u):u.1.length≤B∧u.2.1.length≤B:=by
 unfold typeT at e;split at e
 ·split at e
  ·cases e; exact zQwa h _
  ·cases e
 ·cases e
def cnt (x:Ins) (n m:Nat):Prop:=if x.1=2∨x.1=3∨x.1=4 then m=n+1 else if x.1=11 then m+1=n else m=n
theorem zt1a {x:Ins} {n:Nat} (h1:¬(x.1=2∨x.1=3∨x.1=4)) (h2:x.1≠11) {m:Nat} (h:m=n):cnt x n m:=by unfold cnt; rw[if_neg h1,if_neg h2]; exact h
theorem Step.block {B:Nat} {c:Ctx} {x:Ins} (hB:1≤B) (h:CtxOk B c):Step B B (block c x) (λv _ v'=>v'.2.length=v.2.length+1):=by
 unfold V.block;split
 ·exact Step.fails
 ·rename_i t ht;obtain ⟨h1,h2⟩:=zhWa hB h ht;refine (Step.bind (d:=0) (φ:=same) (d':=B) (ψ:=λv _ v'=>v'.2.length=v.2.length+1) (χ:=λv _ v'=>v'.2.length=v.2.length+1) ?_ (λ_ _=>?_) (λ_ _ _ _ _ h1 h2=>by rw[h2,h1])).mono (by omega) λ_ _ _ h=>h
  ·split
   ·exact (Step.pop.bind (d':=0) (ψ:=same) (χ:=same) (λ_ _=>Step.ret λ_=>rfl) (λ_ _ _ _ _ h1 h2=>h2.trans h1))
   ·exact Step.ret λ_=>rfl
  ·exact ((Step.pops t.1).bind (λ_ _=>Step.enter h1 h2) (λ_ _ _ _ _ h1 h2=>by rw[h2,h1.1])).mono (by omega) λ_ _ _ h=>h
theorem Step.retn {B:Nat}:Step B 0 retn many:=by
 intro S v u v' hi e;unfold V.retn at e;split at e
 ·cases e
 ·obtain ⟨xs,v1,e1,e2⟩:=znga e;obtain ⟨h1,h2,_⟩:=Step.pops _ S v xs v1 hi e1;obtain ⟨h3,h4⟩:=Step.dead _ v1 u v' h1 e2;exact ⟨h3,by rw[many,h4,h2]⟩
theorem zfea {α:Type} {B d:Nat} {f:M α} (h:Step B d f same):Step B d f many:=h.mono (Nat.le_refl _) λ_ _ _ e=>by rw[many,e]
theorem zIha {α:Type} {B d:Nat} {f:M α} (h:Step B d f (λv _ v'=>v'=v)):Step B d f same:=h.mono (Nat.le_refl _) λ_ _ _ e=>by rw[same,e]
theorem Step.seq {α β:Type} {B d d' e:Nat} {f:M α} {g:α→M β} (h:Step B d f same) (k:∀a,Step B d' (g a) many) (he:d+d'≤e):Step B e (V.bind f g) many :=
 (h.bind (λa _=>k a) (λ_ _ _ _ _ h1 h2=>by rw[many,h2,h1])).mono he λ_ _ _ h=>h
abbrev G (B:Nat):Nat:=66*B+8
theorem Step.pop3 {B:Nat}:Step B 0 (V.bind (V.pops three) λ_=>V.ret ()) many:=((Step.pops three).bind (d':=0) (ψ:=same) (χ:=many) (λ_ _=>Step.ret λ_=>rfl) (λ_ _ _ _ _ h1 h2=>by rw[many,h2,h1.1]))
theorem Step.instr {B:Nat} {acc:Int→Option (Int×Int×Bool)} {typ:Int→Option (List Int×Int)} {c:Ctx} {l:List Int} {x:Ins} (hB:1≤B) (h:CtxOk B c) (hx:x.2.2.2.2.1.length≤64):Step B (G B) (V.instr acc typ c l x) (λv _ v'=>cnt x v.2.length v'.2.length):=by
 have key:∀ {m:M Unit} {d:Nat},¬(x.1=2∨x.1=3∨x.1=4)→x.1≠11→d≤G B→Step B d m many→Step B (G B) m (λv _ v'=>cnt x v.2.length v'.2.length):=λh1 h2 h3 hm=>hm.mono h3 λ_ _ _ e=>zt1a h1 h2 e
 have lab2:∀ {n:Int},Step B 0 (V.label n) same:=fun {n}=>Step.label.mono (Nat.le_refl _) λ_ _ _ h=>by rw[same,h.1]
 unfold V.instr;split
 ·rename_i m hm;unfold ctl at hm;by_cases h0:x.1=0
  ·rw[if_pos h0]at hm; cases hm; exact key (by omega) (by omega) (Nat.zero_le _) Step.dead
  rw[if_neg h0]at hm;by_cases h1:x.1=1
  ·rw[if_pos h1]at hm; cases hm; exact key (by omega) (by omega) (Nat.zero_le _) (Step.ret λ_=>rfl)
  rw[if_neg h1]at hm;by_cases h2:x.1=2∨x.1=3∨x.1=4
  ·rw[if_pos h2]at hm; cases hm;exact (Step.block hB h).mono (by unfold G; omega) λ_ _ _ e=>by unfold cnt; rw[if_pos h2]; exact e
  rw[if_neg h2]at hm;by_cases h5:x.1=5
  ·rw[if_pos h5]at hm; cases hm;exact key (by omega) (by omega) (d:=B) (by unfold G; omega) ((Step.leave.bind (d':=B) (ψ:=λv _ v'=>v'.2.length=v.2.length+1) (χ:=many) (λb hb=>by
    obtain ⟨_,_,_,hb1,hb2,_⟩:=hb;exact Step.enter hb1 hb2) (λ_ _ _ _ _ h1 h2=>by rw[many,h2,h1.1])).mono (by omega) λ_ _ _ h=>h)
  rw[if_neg h5]at hm;by_cases h11:x.1=11
  ·rw[if_pos h11]at hm; cases hm;refine (Step.leave.bind (d':=B) (ψ:=same) (χ:=λv _ v'=>v'.2.length+1=v.2.length) (λb hb=>?_) (λ_ _ _ _ _ h1 h2=>by rw[h2,h1.1])).mono (by unfold G; omega) λ_ _ _ e=>by unfold cnt; rw[if_neg h2,if_pos h11]; exact e
   obtain ⟨_,_,_,hb1,hb2,_⟩:=hb;exact (Step.want.bind (d':=b.2.2.1.length) (ψ:=same) (χ:=same) (λ_ _=>Step.push _) (λ_ _ _ _ _ h1 h2=>by rw[same,h2,h1])).mono (by omega) λ_ _ _ h=>h
  rw[if_neg h11]at hm;by_cases h12:x.1=12
  ·rw[if_pos h12]at hm; cases hm;exact key h2 h11 (Nat.zero_le _) (lab2.seq (d':=0) (λa=>((Step.pops a).bind (d':=0) (χ:=many) (λ_ _=>Step.dead) (λ_ _ _ _ _ h1 h2=>by rw[many,h2,h1.1]))) (Nat.le_refl _))
  rw[if_neg h12]at hm;by_cases h13:x.1=13
  ·rw[if_pos h13]at hm; cases hm;refine key h2 h11 (d:=B) (by unfold G; omega) ((Step.label.bind (d':=B) (ψ:=many) (χ:=many) (λa ha=>?_) (λ_ _ _ _ _ h1 h2=>by rw[many,h2,h1.1])).mono (by omega) λ_ _ _ h=>h);obtain ⟨_,_,_,ha⟩:=ha;exact Step.pop.seq (λ_=>zfea (Step.does a a)) (by omega)
  rw[if_neg h13]at hm;by_cases h14:x.1=14
  ·rw[if_pos h14]at hm; cases hm;exact key h2 h11 (d:=64*B) (by unfold G; omega) (Step.table hx)
  rw[if_neg h14]at hm;by_cases h15:x.1=15
  ·rw[if_pos h15]at hm; cases hm;exact key h2 h11 (Nat.zero_le _) Step.retn
  rw[if_neg h15]at hm;by_cases h16:x.1=16
  ·rw[if_pos h16]at hm; cases hm;refine key h2 h11 (d:=B) (by unfold G; omega) ?_;split
   ·exact Step.fails
   ·rename_i t ht;exact (zfea (Step.does _ _)).mono (zfXa h ht).2 λ_ _ _ h=>h
  rw[if_neg h16]at hm;by_cases h17:x.1=17
  ·rw[if_pos h17]at hm; cases hm;exact key h2 h11 (d:=B) (by unfold G; omega) ((zIha Step.has).seq (d':=B) (λ_=>(zIha Step.has).seq (d':=B) (λ_=>Step.pop.seq (d':=B) (λ_=>(zfea (Step.does _ _)).mono (zQwa h _).2 λ_ _ _ h=>h) (by omega)) (by omega)) (by omega))
  ·rw[if_neg h17]at hm; cases hm
 ·rename_i hc;have hno:¬(x.1=2∨x.1=3∨x.1=4)∧x.1≠11:=by
   unfold ctl at hc;refine ⟨λhx2=>?_,λhx11=>?_⟩
   ·rw[if_neg (by omega),if_neg (by omega),if_pos hx2]at hc; cases hc
   ·rw[if_neg (by omega),if_neg (by omega),if_neg (by omega),if_neg (by omega),if_pos hx11]at hc; cases hc
  refine key hno.1 hno.2 (d:=8) (by unfold G; omega) ?_;split
  ·rename_i m hm;unfold vari at hm
   repeat' (split at hm)
   all_goals first|(cases hm; done)|(cases hm)
   ·exact (Step.pop.seq (d':=0) (λ_=>Step.ret λ_=>rfl) (by omega))
   ·exact (Step.pop.seq (d':=1) (λ_=>Step.pop.seq (d':=1) (λ_=>Step.pop.seq (d':=1) (λ_=>zfea (Step.push _)) (by omega)) (by omega)) (by omega))
   ·exact ((zIha Step.has).seq (d':=1) (λ_=>zfea (Step.push _)) (by omega))
   ·exact ((zIha Step.has).seq (d':=0) (λ_=>Step.pop.seq (d':=0) (λ_=>Step.ret λ_=>rfl) (by omega)) (by omega))
   ·exact ((zIha Step.has).seq (d':=1) (λ_=>Step.pop.seq (d':=1) (λ_=>zfea (Step.push _)) (by omega)) (by omega))
   ·exact ((zIha Step.has).seq (d':=1) (λ_=>zfea (Step.push _)) (by omega))
   ·exact ((zIha Step.has).seq (d':=0) (λ_=>(zIha Step.want).seq (d':=0) (λ_=>Step.pop.seq (d':=0) (λ_=>Step.ret λ_=>rfl) (by omega)) (by omega)) (by omega))
   ·exact (zfea (Step.push _)).mono (by simp) λ_ _ _ h=>h
   ·exact (zfea (Step.push _)).mono (by simp) λ_ _ _ h=>h
  ·split
   ·rename_i m hm;have hseg:∀n,Step B 0 (V.zRxa c n) same:=λn=>((zIha Step.want).bind (d':=0) (ψ:=same) (χ:=same) (λ_ _=>zIha Step.has) (λ_ _ _ _ _ h1 h2=>h2.trans h1))
    unfold memo at hm;split at hm
    ·cases hm;refine ((zIha Step.has).seq (d':=1) (λ_=>(zIha Step.want).seq (d':=1) (λ_=>?_) (by omega)) (by omega));split
     ·exact (zfea (Step.does _ _)).mono (by simp) λ_ _ _ h=>h
     ·exact (zfea (Step.does _ _)).mono (by simp) λ_ _ _ h=>h
    ·repeat' (split at hm)
     all_goals first|(cases hm; done)|(cases hm)
     ·exact ((zIha Step.has).seq (d':=1) (λ_=>zfea (Step.push _)) (by omega))
     ·exact ((zIha Step.has).seq (d':=1) (λ_=>zfea (Step.does _ _)) (by omega))
     ·exact ((zIha Step.has).seq (d':=0) (λ_=>(hseg _).seq (d':=0) (λ_=>Step.pop3) (by omega)) (by omega))
     ·exact ((zIha Step.has).seq (d':=0) (λ_=>Step.pop3) (by omega))
     ·exact ((zIha Step.has).seq (d':=0) (λ_=>Step.pop3) (by omega))
     ·exact (zfea (hseg _)).mono (by omega) λ_ _ _ h=>h
     ·exact ((zIha Step.has).seq (d':=0) (λ_=>(zIha Step.has).seq (d':=0) (λ_=>Step.pop3) (by omega)) (by omega))
     ·exact ((zIha Step.has).seq (d':=0) (λ_=>(zIha Step.has).seq (d':=0) (λ_=>Step.pop3) (by omega)) (by omega))
     ·exact (zfea (zIha Step.has)).mono (by omega) λ_ _ _ h=>h
   ·split
    ·exact (zfea (Step.does _ _)).mono (by simp) λ_ _ _ h=>h
    ·exact Step.fails
end Go.Trm.V
namespace Go.Trm.V
open Go.Trm.G1
def emb (c:Ctx) (l:List Int) (v:VS):CK:=(c,(l,(v.1.reverse,(v.2.reverse,()))))
theorem zhza {α:Type} (l:List α) (i:Nat) (d:α) (h:i<l.length):l.drop i=l.getD i d::l.drop (i+1):=by
 rw[List.drop_eq_getElem_cons h,List.getD_eq_getElem?_getD,List.getElem?_eq_getElem h]; rfl
section
variable {R:Type} {c:Ctx} {l:List Int}
def Runs (c:Ctx) (l:List Int) {α:Type} (p:(α→CK→Option R)→(Int→CK→Option R)→Option R) (r:Rz α):Prop:=∀K Kp,match r with
 | .ok q=>p K Kp=K q.1 (emb c l q.2)
 | .error e=>∃k,p K Kp=Kp e k
theorem Runs.ok {α:Type} {p:(α→CK→Option R)→(Int→CK→Option R)→Option R} {r:Rz α} {a:α} {v:VS} (h:Runs c l p r) (e:r = .ok (a,v)) (K:α→CK→Option R) (Kp:Int→CK→Option R):p K Kp=K a (emb c l v):=by
 have:=h K Kp;rw[e]at this;exact this
theorem Runs.err {α:Type} {p:(α→CK→Option R)→(Int→CK→Option R)→Option R} {r:Rz α} {e:Int} (h:Runs c l p r) (he:r = .error e) (K:α→CK→Option R) (Kp:Int→CK→Option R):∃k,p K Kp=Kp e k:=by
 have:=h K Kp;rw[he]at this;exact this
theorem Runs.bind {α β:Type} {p:(α→CK→Option R)→(Int→CK→Option R)→Option R} {q:α→CK→(β→CK→Option R)→(Int→CK→Option R)→Option R} {f:M α} {g:α→M β} {v:VS} (h:Runs c l p (f v))
  (k:∀a v1,f v = .ok (a,v1)→Runs c l (q a (emb c l v1)) (g a v1)):Runs c l (λK Kp=>p (λa s=>q a s K Kp) (λe s=>Kp e s)) (V.bind f g v):=by
 intro K Kp;unfold V.bind;cases hf:f v with
 |error e=>exact h.err hf _ _
 |ok z =>
  obtain ⟨a,v1⟩:=z;have h1:=h.ok hf (λa s=>q a s K Kp) (λe s=>Kp e s);have h2:=k a v1 hf K Kp;simp only;cases hg:g a v1 with
  |error e =>
   rw[hg]at h2;obtain ⟨k2,h2⟩:=h2;exact ⟨k2,h1.trans h2⟩
  |ok z2=>rw[hg]at h2; exact h1.trans h2
theorem Runs.mk {α:Type} {p:(α→CK→Option R)→(Int→CK→Option R)→Option R} {a:α} {v:VS} (h:∀K Kp,p K Kp=K a (emb c l v)):Runs c l p (.ok (a,v)):=h
theorem Runs.mkE {α:Type} {p:(α→CK→Option R)→(Int→CK→Option R)→Option R} {e:Int} (h:∀K Kp,∃k,p K Kp=Kp e k):Runs c l p (.error e):=h
theorem zhKa (b:Bool) (e:Int) (K:Option R) (Kp:Int→Option R):zraa b e K Kp=if b=true then K else Kp e:=by cases b<;>rfl
theorem zH2a (n m:Int) (K:Option R) (Kp:Int→Option R):zLaa n m K Kp=if 0≤n∧n<m then K else Kp 7:=by
 unfold zLaa;simp only[zDaa,zhKa];by_cases h1:0≤n
 ·rw[if_pos h1];by_cases h2:n<m
  ·rw[decide_eq_true h2,if_pos rfl,if_pos ⟨h1,h2⟩]
  ·rw[decide_eq_false h2,if_neg (by simp),if_neg (λh=>h2 h.2)]
 ·rw[if_neg h1,if_neg (by simp),if_neg (λh=>h1 h.1)]
theorem ztXa (v:VS) (xs:List Int) (h:v.1.length+xs.length≤most) (K:CK→Option R):ziaa (emb c l v) xs K=K (emb c l (xs.reverse++v.1,v.2)):=by
 unfold ziaa emb;simp only[zDaa,List.length_reverse];rw[if_pos h];simp
theorem zvVa (v:VS) (op:Int) (a b:List Int) (h:v.1.length+a.length≤most) (h2:v.2.length<most) (K:CK→Option R):ztaa (emb c l v) op a b K=K (emb c l (a.reverse++v.1,(op,a,b,(v.1.length:Int),false,())::v.2)):=by
 unfold ztaa;simp only[zKaa];unfold emb;simp only[zDaa,List.length_reverse,List.length_set,List.length_replicate];rw[if_pos (by omega)];have:=ztXa (R:=R) (c:=c) (l:=l) (v.1,(op,a,b,(v.1.length:Int),false,())::v.2) a h (λb4=>K b4);unfold emb at this;rw[←this]
 congr 3
 simp[List.replicate]
theorem zk0a (b:Blk) (o:List Blk) (d:Blk) (ho:o.length<4294967296):IntKind.i64.wrap ((((b::o).reverse.length:Nat):Int)-1)=(o.length:Int)∧(b::o).reverse.getD o.length d=b∧inB (o.length:Int) (b::o).reverse.length=true:=by
 refine ⟨?_,?_,?_⟩
 ·rw[w_i64 (by simp only[List.length_reverse,List.length_cons]; omega)];simp
 ·rw[List.reverse_cons,List.getD_eq_getElem?_getD,List.getElem?_append_right (by simp)];simp
 ·unfold inB;simp; omega
theorem popR (v:VS) {B S:Nat} (hi:Inv B S v) (hS:S≤most) (ho:v.2.length<4294967296) (hne:v.2≠[]) (t:Int):Runs (R:=R) c l (zhaa (emb c l v) t) (pop t v):=by
 have hm:most=4294967296:=rfl;obtain ⟨s,o⟩:=v;cases o with
 |nil=>exact absurd rfl hne
 |cons b o =>
  simp only[List.length_cons]at ho;obtain ⟨t1,t2,t3⟩:=zk0a b o (0,[],[],0,false,()) (by omega);have hl:=hi.len;have hw:=hi.wf;simp only at hl hw;unfold pop;simp only;have hun:∀K Kp,zhaa (R:=R) (emb c l (s,b::o)) t K Kp=if (s.length:Int)=b.2.2.2.1 then (if b.2.2.2.2.1=true then K 0 (emb c l (s,b::o)) else Kp 6 (emb c l (s,b::o))) else
    (let n:=IntKind.i64.wrap ((s.length:Int)-1); if 0≤n∧n<s.length then (let x:=s.reverse.getD n.toNat 0; if 0≤(0:Int)∧0≤n∧n≤s.length then (let s':=(c,(l,(rng s.reverse 0 n,((b::o).reverse,())))); if x=t then K x s' else if x=0 then K x s' else if t=0 then K x s' else Kp 6 s') else none) else none):=by
   intro K Kp;unfold zhaa;simp only[zKaa];unfold emb;simp only[t1,Int.toNat_natCast];rw[t3,cond_true,t2];simp only[znCa,zkda,znza,zhKa,List.length_reverse,if_true,beq_iff_eq]
  by_cases h1:(s.length:Int)=b.2.2.2.1
  ·rw[if_pos h1];by_cases h2:b.2.2.2.2.1=true
   ·rw[if_pos h2];refine Runs.mk λK Kp=>?_
    rw[hun,if_pos h1,if_pos h2]
   ·rw[if_neg h2];refine Runs.mkE λK Kp=>⟨emb c l (s,b::o),?_⟩
    rw[hun,if_pos h1,if_neg h2]
  ·rw[if_neg h1];cases s with
   |nil =>
    simp only[List.length_nil]at h1 hw;have:=hw.1;have:=hw.2.1;exact absurd (by omega) h1
   |cons x s =>
    simp only[List.length_cons]at hl;have hn:IntKind.i64.wrap (((x::s).length:Int)-1)=(s.length:Int):=by rw[w_i64 (by simp only[List.length_cons]; omega)]; simp
    have hx:(x::s).reverse.getD s.length 0=x:=by
     rw[List.reverse_cons,List.getD_eq_getElem?_getD,List.getElem?_append_right (by simp)];simp
    have hr:rng (x::s).reverse 0 (s.length:Int)=s.reverse:=by
     unfold rng;simp
    have hun2:∀K Kp,zhaa (R:=R) (emb c l (x::s,b::o)) t K Kp=if x=t then K x (emb c l (s,b::o)) else if x=0 then K x (emb c l (s,b::o)) else if t=0 then K x (emb c l (s,b::o)) else Kp 6 (emb c l (s,b::o)):=by
     intro K Kp;rw[hun,if_neg h1];simp only[hn,Int.toNat_natCast,hx,hr];rw[if_pos (by simp only[List.length_cons]; omega),if_pos (by simp only[List.length_cons]; omega)];rfl
    simp only;by_cases g:x=t∨x=0∨t=0
    ·rw[if_pos g];refine Runs.mk λK Kp=>?_
     rw[hun2];split
     ·rfl
     ·split
      ·rfl
      ·rw[if_pos (by omega)]
    ·rw[if_neg g];refine Runs.mkE λK Kp=>⟨emb c l (s,b::o),?_⟩
     rw[hun2,if_neg (by omega),if_neg (by omega),if_neg (by omega)]
structure Go (B S:Nat) (v:VS):Prop where
 inv:Inv B S v
 le:S≤most
 op:v.2.length<4294967296
 ne:v.2≠[]
theorem Go.of {B S S':Nat} {v v':VS} (h:Go B S v) (hi:Inv B S' v') (hs:S'≤most) (ho:v'.2.length=v.2.length):Go B S' v':=⟨hi,hs,by rw[ho]; exact h.op,λhc=>by
 have h1:=h.ne;rw[hc]at ho;exact h1 (List.eq_nil_of_length_eq_zero ho.symm)⟩
theorem popG {B S:Nat} {v:VS} (h:Go B S v) (t:Int):Runs (R:=R) c l (zhaa (emb c l v) t) (pop t v):=popR v h.inv h.le h.op h.ne t
theorem zNYa {B S:Nat} (kp:Int→CK→Option R) (kx:List Int→CK→Option R) (ts:List Int) (hl:ts.length≤most):∀(n:Nat) (m:Nat) (out:List Int) (v:VS),n≤m→n≤ts.length→out.length=ts.length→Go B S v →
  (match popsR (ts.take n).reverse v with
   | .ok q=>loopN (zFaa kp kx) (m+1) ⟨ts,out,(n:Int)-1,emb c l v⟩=kx (q.1.reverse++out.drop n) (emb c l q.2)
   | .error e=>∃k,loopN (zFaa kp kx) (m+1) ⟨ts,out,(n:Int)-1,emb c l v⟩=kp e k):=by
 have hm:most=4294967296:=rfl;intro n
 induction n with
 |zero =>
  intro m out v h1 h2 h3 h4;simp only[List.take_zero,List.reverse_nil,popsR,ret];rw[zaaa];unfold zFaa;simp only[zDaa];rw[if_neg (by omega)];simp
 |succ n ih =>
  intro m out v h1 h2 h3 h4;obtain ⟨m,rfl⟩:∃k,m=k+1:=⟨m-1,by omega⟩
  have htk:(ts.take (n+1)).reverse=ts.getD n 0::(ts.take n).reverse:=by
   rw[List.take_succ_eq_append_getElem (by omega),List.reverse_append,List.getD_eq_getElem?_getD,List.getElem?_eq_getElem (by omega)];rfl
  rw[htk];show (match V.bind (pop (ts.getD n 0)) (λx=>V.bind (popsR (ts.take n).reverse) λxs=>ret (x::xs)) v with | .ok q=>_ | .error e=>_);have hp:=popG (R:=R) (c:=c) (l:=l) h4 (ts.getD n 0);have hstep:∀(rec:zfba→Option R),zFaa kp kx rec ⟨ts,out,((n+1:Nat):Int)-1,emb c l v⟩=zhaa (emb c l v) (ts.getD n 0) (λr3 b4=>rec ⟨ts,List.set out n r3,(n:Int)-1,b4⟩) (λy6 b7=>kp y6 b7):=by
   intro rec;unfold zFaa;have hin:0≤(n:Int)∧(n:Int)<(out.length:Int):=by omega
   have hin2:0≤(n:Int)∧(n:Int)<(ts.length:Int):=by omega
   have hge:(n:Int)≥0:=by omega
   simp only[zDaa,zkda,show ((n+1:Nat):Int)-1=(n:Int) by omega];rw[if_pos hge,if_pos hin2];simp only[if_pos hin,Int.toNat_natCast];rw[w_i64 (by omega)]
  rw[zaaa,hstep];unfold V.bind;cases hv:pop (ts.getD n 0) v with
  |error e=>exact hp.err hv _ _
  |ok q =>
   obtain ⟨x,v1⟩:=q;simp only;rw[hp.ok hv];obtain ⟨i1,i2⟩:=Step.pop S v x v1 h4.inv hv;have h4':Go B S v1:=h4.of i1 h4.le (by rw[i2]);have:=ih m (out.set n x) v1 (by omega) (by omega) (by simpa using h3) h4';cases hq:popsR (ts.take n).reverse v1 with
   |error e=>rw[hq]at this; exact this
   |ok q2 =>
    obtain ⟨xs,v2⟩:=q2;rw[hq]at this;simp only at this;simp only[ret];rw[this]
    congr 1
    rw[List.reverse_cons,List.append_assoc]
    congr 1
    rw[zhza (out.set n x) n 0 (by simp; omega)];have e1:(out.set n x).getD n 0=x:=by rw[List.getD_eq_getElem?_getD,List.getElem?_set_self (by omega)]; rfl
    have e2:(out.set n x).drop (n+1)=out.drop (n+1):=by rw[List.drop_set_of_lt (by omega)]
    rw[e1,e2];rfl
theorem popsG {B S:Nat} {v:VS} (h:Go B S v) (ts:List Int) (hl:ts.length≤most):Runs (R:=R) c l (zcaa (emb c l v) ts) (pops ts v):=by
 have hm:most=4294967296:=rfl;intro K Kp;have hun:zcaa (emb c l v) ts K Kp=loopN (zFaa (λy6 w5=>Kp y6 w5) (λw7 w8=>K w7 w8)) zpaa ⟨ts,List.replicate ts.length 0,(ts.length:Int)-1,emb c l v⟩:=by
  unfold zcaa;simp only[znza];rw[if_pos (by omega),w_i64 (by omega),Int.toNat_natCast]
 obtain ⟨m,hf⟩:=zZva (ts.length+1) (by omega);have:=zNYa (R:=R) (c:=c) (l:=l) (λy6 w5=>Kp y6 w5) (λw7 w8=>K w7 w8) ts hl ts.length (m+ts.length) (List.replicate ts.length 0) v (by omega) (Nat.le_refl _) (by simp) h;rw[List.take_length]at this;have hun':zcaa (emb c l v) ts K Kp=loopN (zFaa (λy6 w5=>Kp y6 w5) (λw7 w8=>K w7 w8)) (m+ts.length+1) ⟨ts,List.replicate ts.length 0,(ts.length:Int)-1,emb c l v⟩:=by
  rw[hun,hf];rfl
 unfold pops V.bind;cases hq:popsR ts.reverse v with
 |error e =>
  rw[hq]at this;obtain ⟨k,this⟩:=this;exact ⟨k,hun'.trans this⟩
 |ok q =>
  rw[hq]at this;simp only at this;simp only[ret];refine hun'.trans (this.trans ?_);simp
end
end Go.Trm.V
namespace Go.Trm.V
open Go.Trm.G1
section
variable {R:Type} {c:Ctx} {l:List Int}
theorem Runs.congr {α:Type} {p q:(α→CK→Option R)→(Int→CK→Option R)→Option R} {r:Rz α} (h:∀K Kp,p K Kp=q K Kp) (hq:Runs c l q r):Runs c l p r:=by
 have e:p=q:=funext λK=>funext λKp=>h K Kp
 rw[e];exact hq
theorem zkXa {α:Type} (b:α) (o:List α):rng (b::o).reverse 0 (o.length:Int)=o.reverse:=by
 unfold rng;simp
theorem zy2a {B S:Nat} {v:VS} (h:Go B S v) (hB:B≤most):Runs (R:=R) c l (zyaa (emb c l v)) (leave v):=by
 have hm:most=4294967296:=rfl;obtain ⟨s,o⟩:=v;cases o with
 |nil=>exact absurd rfl h.ne
 |cons b o =>
  have hop:=h.op;simp only[List.length_cons]at hop;obtain ⟨t1,t2,t3⟩:=zk0a b o (0,[],[],0,false,()) (by omega);have hb:=(h.inv.blk b (List.mem_cons_self ..)).2;have hp:=popsG (R:=R) (c:=c) (l:=l) h b.2.2.1 (by omega);refine Runs.congr (q:=λK Kp=>zcaa (emb c l (s,b::o)) b.2.2.1 (λa s=>(λ(_:List Int) (b5:CK) (K:Blk→CK→Option R) (Kp:Int→CK→Option R)=>if ((b5.2.2.1.length:Int)=b.2.2.2.1) then (if (0:Int)≤0∧0≤IntKind.i64.wrap ((b5.2.2.2.1.length:Int)-1)∧IntKind.i64.wrap ((b5.2.2.2.1.length:Int)-1)≤b5.2.2.2.1.length then K b (b5.1,(b5.2.1,(b5.2.2.1,(rng b5.2.2.2.1 0 (IntKind.i64.wrap ((b5.2.2.2.1.length:Int)-1)),b5.2.2.2.2)))) else none) else Kp 6 b5) a s K Kp) (λe s=>Kp e s)) ?_ ?_
  ·intro K Kp;unfold zyaa;simp only[zKaa];have e0:(emb c l (s,b::o)).2.2.2.1=(b::o).reverse:=rfl;simp only[e0,t1,Int.toNat_natCast];rw[t3,cond_true,t2];simp only[znza,zhKa,beq_iff_eq]
  ·show Runs c l _ (V.bind (pops b.2.2.1) (λ_ v=>if (v.1.length:Int)=b.2.2.2.1 then .ok (b,(v.1,v.2.tail)) else .error 6) (s,b::o));refine Runs.bind hp λa v1 hv=>?_
   obtain ⟨i1,i2,_⟩:=Step.pops b.2.2.1 S (s,b::o) a v1 h.inv hv;obtain ⟨s1,o1⟩:=v1;simp only at i2;subst i2;simp only;by_cases hc:(s1.length:Int)=b.2.2.2.1
   ·rw[if_pos hc];refine Runs.mk λK Kp=>?_
    have e1:(emb c l (s1,b::o)).2.2.1=s1.reverse:=rfl;have e2:(emb c l (s1,b::o)).2.2.2.1=(b::o).reverse:=rfl;have e3:((emb c l (s1,b::o)).2.2.1.length:Int)=b.2.2.2.1:=by rw[e1,List.length_reverse]; exact hc
    rw[if_pos e3,e2,t1,if_pos (by simp; omega),zkXa];rfl
   ·rw[if_neg hc];refine Runs.mkE λK Kp=>⟨emb c l (s1,b::o),?_⟩
    have e1:(emb c l (s1,b::o)).2.2.1=s1.reverse:=rfl;have e3:¬((emb c l (s1,b::o)).2.2.1.length:Int)=b.2.2.2.1:=by rw[e1,List.length_reverse]; exact hc
    rw[if_neg e3]
theorem deadG {B S:Nat} {v:VS} (h:Go B S v):∃v',dead v = .ok ((),v')∧∀K:CK→Option R,zwaa (emb c l v) K=K (emb c l v'):=by
 have hm:most=4294967296:=rfl;obtain ⟨s,o⟩:=v;cases o with
 |nil=>exact absurd rfl h.ne
 |cons b o =>
  have hop:=h.op;have hw:=h.inv.wf;simp only[List.length_cons]at hop;simp only at hw;obtain ⟨t1,t2,t3⟩:=zk0a b o (0,[],[],0,false,()) (by omega);have w1:=hw.1;have w2:=hw.2.1;refine ⟨_,rfl,λK=>?_⟩;unfold zwaa;simp only[zKaa];have e0:(emb c l (s,b::o)).2.2.2.1=(b::o).reverse:=rfl;have e1:(emb c l (s,b::o)).2.2.1=s.reverse:=rfl;simp only[e0,e1,t1,Int.toNat_natCast];rw[t3,cond_true,t2,znza,if_pos (by simp only[List.length_reverse]; omega)];have e2:rng s.reverse 0 b.2.2.2.1=(s.drop (s.length-b.2.2.2.1.toNat)).reverse:=by
   unfold rng;simp[List.take_reverse]
  have e3:∀x:Blk,List.set (b::o).reverse o.length x=(x::o).reverse:=by
   intro x;rw[List.reverse_cons,List.set_append_right _ _ (by simp)];simp
  rw[e2,e3];rfl
theorem zh3a {B S:Nat} {v:VS} (h:Go B S v) (n:Int):Runs (R:=R) c l (znaa (emb c l v) n) (label n v):=by
 have hm:most=4294967296:=rfl;obtain ⟨s,o⟩:=v;have hop:=h.op;simp only at hop;have e0:(emb c l (s,o)).2.2.2.1=o.reverse:=rfl;have hun:∀K Kp,znaa (R:=R) (emb c l (s,o)) n K Kp=if 0≤n∧n<o.length then (if 0≤IntKind.i64.wrap (IntKind.i64.wrap ((o.length:Int)-1)-n)∧IntKind.i64.wrap (IntKind.i64.wrap ((o.length:Int)-1)-n)<o.length then K (lab (o.reverse.getD (IntKind.i64.wrap (IntKind.i64.wrap ((o.length:Int)-1)-n)).toNat (0,[],[],0,false,()))) (emb c l (s,o)) else none) else Kp 7 (emb c l (s,o)):=by
  intro K Kp;unfold znaa;have e1:∀(x:Blk) (K:List Int→Option R),zbga x K=K (lab x):=by
   intro x K;unfold zbga lab;simp only[znCa];split<;>rfl
  simp only[zKaa,e0,zhKa,e1,zDaa,zkda,List.length_reverse];by_cases h1:0≤n
  ·rw[if_pos (by omega)];by_cases h2:n<o.length
   ·rw[if_pos (decide_eq_true h2),if_pos (show 0≤n∧n<(o.length:Int) from ⟨h1,h2⟩)]
   ·rw[if_neg (by simpa using h2),if_neg (λh=>h2 h.2)]
  ·rw[if_neg (by omega),if_neg (by simp),if_neg (λh=>h1 h.1)]
 unfold label;simp only;by_cases hc:0≤n∧n<o.length
 ·rw[if_pos hc];refine Runs.mk λK Kp=>?_
  rw[hun,if_pos hc];have e2:IntKind.i64.wrap (IntKind.i64.wrap ((o.length:Int)-1)-n)=(o.length:Int)-1-n:=by rw[w_i64 (n:=(o.length:Int)-1) (by omega),w_i64 (by omega)]
  rw[e2,if_pos (by omega)];have e3:o.reverse.getD ((o.length:Int)-1-n).toNat (0,[],[],0,false,())=o.getD n.toNat (0,[],[],0,false,()):=by
   rw[List.getD_eq_getElem?_getD,List.getD_eq_getElem?_getD,List.getElem?_reverse (by omega)]
   congr 2
   omega
  rw[e3]
 ·rw[if_neg hc];refine Runs.mkE λK Kp=>⟨emb c l (s,o),?_⟩
  rw[hun,if_neg hc]
end
end Go.Trm.V
namespace Go.Trm.V
open Go.Trm.G1
section
variable {R:Type} {c:Ctx} {l:List Int} {B:Nat}
def Sim (R:Type) (c:Ctx) (l:List Int) (B d:Nat) {α:Type} (p:CK→(α→CK→Option R)→(Int→CK→Option R)→Option R) (f:M α):Prop:=∀S v,Go B S v→S+d≤most→Runs c l (p (emb c l v)) (f v)
def SimU (R:Type) (c:Ctx) (l:List Int) (B d:Nat) (p:CK→(CK→Option R)→(Int→CK→Option R)→Option R) (f:M Unit):Prop:=∀S v,Go B S v→S+d≤most→Runs c l (λ(K:Unit→CK→Option R) Kp=>p (emb c l v) (λs=>K () s) Kp) (f v)
theorem Sim.mono {d d':Nat} {α:Type} {p:CK→(α→CK→Option R)→(Int→CK→Option R)→Option R} {f:M α} (h:Sim R c l B d p f) (hd:d≤d'):Sim R c l B d' p f:=λS v g hs=>h S v g (by omega)
theorem SimU.mono {d d':Nat} {p:CK→(CK→Option R)→(Int→CK→Option R)→Option R} {f:M Unit} (h:SimU R c l B d p f) (hd:d≤d'):SimU R c l B d' p f:=λS v g hs=>h S v g (by omega)
theorem SimU.congr {d:Nat} {p q:CK→(CK→Option R)→(Int→CK→Option R)→Option R} {f:M Unit} (h:SimU R c l B d q f) (e:∀v K Kp,p (emb c l v) K Kp=q (emb c l v) K Kp):SimU R c l B d p f:=λS v g hs=>Runs.congr (λ_ _=>e v _ _) (h S v g hs)
theorem SimU.bindV {d d':Nat} {α:Type} {p:CK→(α→CK→Option R)→(Int→CK→Option R)→Option R} {f:M α} {q:α→CK→(CK→Option R)→(Int→CK→Option R)→Option R} {g:α→M Unit} {φ:VS→α→VS→Prop} (h:Sim R c l B d p f) (hs:Step B d f φ) (hφ:∀v a v',φ v a v'→v'.2.length=v.2.length)
  (k:∀v a v',φ v a v'→SimU R c l B d' (q a) (g a)):SimU R c l B (d+d') (λs K Kp=>p s (λa s=>q a s K Kp) (λe s=>Kp e s)) (bind f g):=by
 intro S v hg hd;refine Runs.bind (p:=p (emb c l v)) (q:=λa s K Kp=>q a s (λs=>K () s) Kp) (h S v hg (by omega)) λa v1 hv=>?_
 obtain ⟨i1,i2⟩:=hs S v a v1 hg.inv hv;exact k v a v1 i2 (S+d) v1 (hg.of i1 (by omega) (hφ _ _ _ i2)) (by omega)
theorem SimU.bindU {d d':Nat} {p:CK→(CK→Option R)→(Int→CK→Option R)→Option R} {f:M Unit} {q:CK→(CK→Option R)→(Int→CK→Option R)→Option R} {g:M Unit} {φ:VS→Unit→VS→Prop} (h:SimU R c l B d p f) (hs:Step B d f φ) (hφ:∀v a v',φ v a v'→v'.2.length=v.2.length)
  (k:∀v v',f v = .ok ((),v')→SimU R c l B d' q g):SimU R c l B (d+d') (λs K Kp=>p s (λs=>q s K Kp) (λe s=>Kp e s)) (bind f λ_=>g):=by
 intro S v hg hd;refine Runs.bind (p:=λK Kp=>p (emb c l v) (λs=>K () s) Kp) (q:=λ_ s K Kp=>q s (λs=>K () s) Kp) (h S v hg (by omega)) λa v1 hv=>?_
 obtain ⟨i1,i2⟩:=hs S v a v1 hg.inv hv;exact k v v1 hv (S+d) v1 (hg.of i1 (by omega) (hφ _ _ _ i2)) (by omega)
theorem SimU.ret:SimU R c l B 0 (λs K _=>K s) (V.ret ()):=λ_ _ _ _=>Runs.mk λ_ _=>rfl
theorem Sim.pop (t:Int):Sim R c l B 0 (λs K Kp=>zhaa s t K Kp) (V.pop t):=λ_ _ h _=>popG h t
theorem Sim.pops (ts:List Int) (hl:ts.length≤most):Sim R c l B 0 (λs K Kp=>zcaa s ts K Kp) (V.pops ts):=λ_ _ h _=>popsG h ts hl
theorem Sim.label (n:Int):Sim R c l B 0 (λs K Kp=>znaa s n K Kp) (V.label n):=λ_ _ h _=>zh3a h n
theorem SimU.push (xs:List Int):SimU R c l B xs.length (λs K _=>ziaa s xs K) (V.push xs):=λS v h hd=>Runs.mk λK Kp=>ztXa v xs (by have:=h.inv.len; omega) _
theorem SimU.dead:SimU R c l B 0 (λs K _=>zwaa s K) V.dead:=by
 intro S v h hd;obtain ⟨v',e,k⟩:=deadG (R:=R) (c:=c) (l:=l) h;rw[e];exact Runs.mk λK Kp=>k _
theorem SimU.enter (op:Int) (a b:List Int):SimU R c l B a.length (λs K _=>ztaa s op a b K) (V.enter op a b):=λS v h hd=>Runs.mk λK Kp=>zvVa v op a b (by have:=h.inv.len; omega) h.op _
theorem SimU.want (b:Bool) (e:Int):SimU R c l B 0 (λs K Kp=>zraa b e (K s) (λy=>Kp y s)) (V.want b e):=by
 intro S v h hd;unfold V.want;by_cases hb:b=true
 ·rw[if_pos hb];exact Runs.mk λK Kp=>by show zraa b e _ _=_; rw[zhKa,if_pos hb]
 ·rw[if_neg hb];exact Runs.mkE λK Kp=>⟨emb c l v,by show zraa b e _ _=_; rw[zhKa,if_neg hb]⟩
theorem SimU.has (n m:Int):SimU R c l B 0 (λs K Kp=>zLaa n m (K s) (λy=>Kp y s)) (V.has n m):=by
 intro S v h hd;unfold V.has V.want;by_cases hb:0≤n∧n<m
 ·rw[if_pos (decide_eq_true hb)];exact Runs.mk λK Kp=>by show zLaa n m _ _=_; rw[zH2a,if_pos hb]
 ·rw[if_neg (by simpa using hb)];exact Runs.mkE λK Kp=>⟨emb c l v,by show zLaa n m _ _=_; rw[zH2a,if_neg hb]⟩
theorem zk3a {n m:Int} {v v':VS} (h:has n m v = .ok ((),v')):0≤n∧n<m:=by
 unfold V.has V.want at h;split at h
 ·rename_i hb;exact of_decide_eq_true hb
 ·cases h
theorem zQ1a {b:Bool} {e:Int} {v v':VS} (h:want b e v = .ok ((),v')):b=true:=by
 unfold V.want at h;split at h
 ·assumption
 ·cases h
theorem SimU.guard {i:Int} {n D:Nat} {q:CK→(CK→Option R)→(Int→CK→Option R)→Option R} {g:M Unit} (h:0≤i∧i<n) (hU:SimU R c l B D q g):SimU R c l B D (λs K Kp=>cond (inB i n) (q s K Kp) none) g:=hU.congr λv K Kp=>by rw[zkda,if_pos h]
theorem zr0a {α:Type}:∀(v:VS) (a:α) (v':VS),same v a v'→v'.2.length=v.2.length:=λ_ _ _ h=>by rw[h]
theorem zo1a {α:Type}:∀(v:VS) (a:α) (v':VS),(λ(v:VS) (_:α) (v':VS)=>v'=v) v a v'→v'.2.length=v.2.length:=λ_ _ _ h=>by rw[h]
theorem zD0a:∀(ts:List Int) (v:VS) (a:List Int) (v':VS),(λv r v'=>v'.2=v.2∧r.length=ts.length) v a v'→v'.2.length=v.2.length:=λ_ _ _ _ h=>by rw[h.1]
theorem SimU.hasB {d':Nat} {n m:Int} {q:CK→(CK→Option R)→(Int→CK→Option R)→Option R} {g:M Unit} (k:0≤n∧n<m→SimU R c l B d' q g):SimU R c l B d' (λs K Kp=>zLaa n m (q s K Kp) (λy=>Kp y s)) (V.bind (V.has n m) λ_=>g):=(SimU.bindU (SimU.has n m) Step.has zo1a (λv v' h=>k (zk3a h))).mono (by omega)
theorem SimU.wantB {d':Nat} {b:Bool} {e:Int} {q:CK→(CK→Option R)→(Int→CK→Option R)→Option R} {g:M Unit} (k:b=true→SimU R c l B d' q g):SimU R c l B d' (λs K Kp=>zraa b e (q s K Kp) (λy=>Kp y s)) (V.bind (V.want b e) λ_=>g):=(SimU.bindU (SimU.want b e) Step.want zo1a (λv v' h=>k (zQ1a h))).mono (by omega)
theorem SimU.popB {d':Nat} {t:Int} {q:Int→CK→(CK→Option R)→(Int→CK→Option R)→Option R} {g:Int→M Unit} (k:∀a,SimU R c l B d' (q a) (g a)):SimU R c l B d' (λs K Kp=>zhaa s t (λa s=>q a s K Kp) (λe s=>Kp e s)) (V.bind (V.pop t) g):=(SimU.bindV (Sim.pop t) Step.pop zr0a (λ_ a _ _=>k a)).mono (by omega)
theorem SimU.popsB {d':Nat} {ts:List Int} (hl:ts.length≤most) {q:List Int→CK→(CK→Option R)→(Int→CK→Option R)→Option R} {g:List Int→M Unit} (k:∀a,a.length=ts.length→SimU R c l B d' (q a) (g a)):SimU R c l B d' (λs K Kp=>zcaa s ts (λa s=>q a s K Kp) (λe s=>Kp e s)) (V.bind (V.pops ts) g):=(SimU.bindV (Sim.pops ts hl) (Step.pops ts) (zD0a ts) (λ_ a _ h=>k a h.2)).mono (by omega)
theorem SimU.labelB {d':Nat} {n:Int} {q:List Int→CK→(CK→Option R)→(Int→CK→Option R)→Option R} {g:List Int→M Unit} (k:∀a,a.length≤B→SimU R c l B d' (q a) (g a)):SimU R c l B d' (λs K Kp=>znaa s n (λa s=>q a s K Kp) (λe s=>Kp e s)) (V.bind (V.label n) g):=(SimU.bindV (Sim.label n) Step.label (λ_ _ _ h=>by rw[h.1]) (λ_ a _ h=>k a h.2)).mono (by omega)
theorem SimU.does (a b:List Int) (ha:a.length≤most):SimU R c l B b.length (λs K Kp=>zlaa s a b K Kp) (V.does a b):=SimU.popsB ha (λ_ _=>SimU.push b)
end
end Go.Trm.V
namespace Go.Trm.V
open Go.Trm.G1
section
variable {R:Type} {c:Ctx} {l:List Int} {B:Nat}
theorem zt2a {X E:Type} (dflt:E) (Bd:(X→Option R)→X→Option R) (mkX:Int→CK→X) (P:E→CK→(CK→Option R)→(Int→CK→Option R)→Option R) (f:E→M Unit) (fs:List E→M Unit) (h0:fs []=ret ()) (h1:∀n ns,fs (n::ns)=bind (f n) λ_=>fs ns) (kp:Int→CK→Option R) (kx:CK→Option R) (ls:List E) (hl:ls.length≤most)
  (hB:∀rec (i:Int) s,Bd rec (mkX i s)=cond (decide (i<(ls.length:Int))) (cond (inB i ls.length) (P (ls.getD i.toNat dflt) s (λs=>rec (mkX (IntKind.i64.wrap (i+1)) s)) kp) none) (kx s))
  (Q:List E→VS→Prop) (hP:∀n rest v,Q (n::rest) v→Runs c l (λ(K:Unit→CK→Option R) Kp=>P n (emb c l v) (λs=>K () s) Kp) (f n v)∧∀v',f n v = .ok ((),v')→Q rest v') :
  ∀(rest:List E) (i m:Nat) (v:VS),ls.drop i=rest→i+rest.length=ls.length→rest.length≤m→Q rest v→(match fs rest v with
   | .ok q=>loopN Bd (m+1) (mkX i (emb c l v))=kx (emb c l q.2)
   | .error e=>∃k,loopN Bd (m+1) (mkX i (emb c l v))=kp e k):=by
 have hm:most=4294967296:=rfl;intro rest
 induction rest with
 |nil =>
  intro i m v hd hi h hq;rw[h0];simp only[ret,List.length_nil]at hi ⊢;rw[zaaa,hB,zDaa,if_neg (by omega)]
 |cons n ns ih =>
  intro i m v hd hi h hq;simp only[List.length_cons]at hi h;obtain ⟨m,rfl⟩:∃k,m=k+1:=⟨m-1,by omega⟩
  have hx:ls.getD i dflt=n∧ls.drop (i+1)=ns:=by
   rw[zhza ls i dflt (by omega)]at hd
   injection hd with a b
   exact ⟨a,b⟩
  have hst:loopN Bd (m+1+1) (mkX i (emb c l v))=P n (emb c l v) (λs=>loopN Bd (m+1) (mkX ((i+1:Nat):Int) s)) kp:=by
   rw[zaaa,hB,zDaa,if_pos (by omega),zkda,if_pos (by omega),Int.toNat_natCast,hx.1,w_i64 (by omega)];rfl
  obtain ⟨hr,hn⟩:=hP n ns v hq;rw[h1];unfold V.bind;cases hf:f n v with
  |error e =>
   obtain ⟨k,hk⟩:=hr.err hf (λ_ s=>loopN Bd (m+1) (mkX ((i+1:Nat):Int) s)) kp;exact ⟨k,hst.trans hk⟩
  |ok q =>
   obtain ⟨u,v1⟩:=q;have hk:=hr.ok hf (λ_ s=>loopN Bd (m+1) (mkX ((i+1:Nat):Int) s)) kp;have:=ih (i+1) m v1 hx.2 (by omega) (by omega) (hn v1 hf);simp only at this ⊢;cases hg:fs ns v1 with
   |error e =>
    rw[hg]at this;obtain ⟨k,ht⟩:=this;exact ⟨k,hst.trans (hk.trans ht)⟩
   |ok q2=>rw[hg]at this; exact hst.trans (hk.trans this)
theorem zR0a {X E:Type} (dflt:E) (Bd:(X→Option R)→X→Option R) (mkX:Int→CK→X) (P:E→CK→(CK→Option R)→(Int→CK→Option R)→Option R) (f:E→M Unit) (fs:List E→M Unit) (h0:fs []=ret ()) (h1:∀n ns,fs (n::ns)=bind (f n) λ_=>fs ns) (kp:Int→CK→Option R) (kx:CK→Option R) (ls:List E) (hl:ls.length≤most)
  (hB:∀rec (i:Int) s,Bd rec (mkX i s)=cond (decide (i<(ls.length:Int))) (cond (inB i ls.length) (P (ls.getD i.toNat dflt) s (λs=>rec (mkX (IntKind.i64.wrap (i+1)) s)) kp) none) (kx s))
  (Q:List E→VS→Prop) (hP:∀n rest v,Q (n::rest) v→Runs c l (λ(K:Unit→CK→Option R) Kp=>P n (emb c l v) (λs=>K () s) Kp) (f n v)∧∀v',f n v = .ok ((),v')→Q rest v')
  (v:VS) (hq:Q ls v):(match fs ls v with
   | .ok q=>loopN Bd zpaa (mkX 0 (emb c l v))=kx (emb c l q.2)
   | .error e=>∃k,loopN Bd zpaa (mkX 0 (emb c l v))=kp e k):=by
 have hm:most=4294967296:=rfl;obtain ⟨m,hf⟩:=zZva (ls.length+1) (by omega);have:=zt2a dflt Bd mkX P f fs h0 h1 kp kx ls hl hB Q hP ls 0 (m+ls.length) v rfl (by omega) (by omega) hq;have e:zpaa=m+ls.length+1:=by omega
 rw[e];exact this
theorem zV0a {d:Nat} {p:CK→(CK→Option R)→(Int→CK→Option R)→Option R} {f:M Unit} (h:∀S v,Go B S v→S+d≤most→∀K Kp,match f v with
   | .ok q=>p (emb c l v) K Kp=K (emb c l q.2)
   | .error e=>∃k,p (emb c l v) K Kp=Kp e k):SimU R c l B d p f:=by
 intro S v g hd K Kp;have:=h S v g hd (λs=>K () s) Kp;cases hf:f v with
 |error e=>rw[hf]at this; exact this
 |ok q=>rw[hf]at this; exact this
theorem tab3U (x:Ins) (r ls:List Int) (hl:ls.length≤most) (kx:Ins→List Int→CK→(CK→Option R)→(Int→CK→Option R)→Option R) {d:Nat} {g:M Unit} (hk:SimU R c l B d (kx x r) g) :
  SimU R c l B d (λs K Kp=>loopN (zRca (λy w=>Kp y w) (λa b s=>kx a b s K Kp)) zpaa ⟨x,r,ls,(ls.length:Int),0,s⟩) (bind (zMba ls) λ_=>g):=by
 refine zV0a λS v hg hd K Kp=>?_
 have:=zR0a (c:=c) (l:=l) (0:Int) (zRca (λy w=>Kp y w) (λa b s=>kx a b s K Kp)) (λi s=>⟨x,r,ls,(ls.length:Int),i,s⟩) (λn s K Kp=>znaa s n (λ_ s=>K s) Kp) (λn=>bind (label n) λ_=>ret ()) zMba rfl
  (λn ns=>by
   funext v
   show V.bind (label n) (λ_=>zMba ns) v=_;unfold V.bind V.ret;cases label n v<;>rfl) (λy w=>Kp y w) (λs=>kx x r s K Kp) ls hl (λrec i s=>rfl) (λ_ v=>Go B S v)
  (λn rest v hq=>⟨(SimU.labelB (d':=0) (λ_ _=>SimU.ret)) S v hq hq.le,λv' e=>by
   obtain ⟨a,v1,e1,e2⟩:=znga e;cases e2;obtain ⟨i1,i2,_⟩:=Step.label S v a _ hq.inv e1;rw[i2];exact hq⟩) v hg
 unfold V.bind;cases hf:zMba ls v with
 |error e=>rw[hf]at this; exact this
 |ok q =>
  obtain ⟨u,v1⟩:=q;rw[hf]at this;obtain ⟨_,i2⟩:=Step.labelsEach ls S v u v1 hg.inv hf;subst i2;have h2:=hk S v1 hg hd (λ_ s=>K s) Kp;simp only;cases hf2:g v1 with
  |error e =>
   rw[hf2]at h2;obtain ⟨k,h2⟩:=h2;exact ⟨k,this.trans h2⟩
  |ok q2=>rw[hf2]at h2; exact this.trans h2
theorem tab9U (r ls:List Int) (hl:ls.length≤most) (hB:B≤most) (kx:List Int→CK→(CK→Option R)→(Int→CK→Option R)→Option R) {d:Nat} {g:M Unit} (hk:SimU R c l B d (kx r) g) :
  SimU R c l B (ls.length*B+d) (λs K Kp=>loopN (zSba (λy w=>Kp y w) (λb s=>kx b s K Kp)) zpaa ⟨r,ls,(ls.length:Int),0,s⟩) (bind (zoea r.length ls) λ_=>g):=by
 refine zV0a λS v hg hd K Kp=>?_
 have hf1:∀n,SimU R c l B B (λs K Kp=>znaa s n (λt s=>zraa (((t.length:Nat):Int)==((r.length:Nat):Int)) 6 (zcaa s t (λa s=>ziaa s a (λs=>K s)) (λy w=>Kp y w)) (λy=>Kp y s)) (λy w=>Kp y w)) (bind (label n) λt=>bind (want (t.length==r.length) 6) λ_=>bind (pops t) λr=>push r):=by
  intro n;refine SimU.labelB λt ht=>?_
  have e:((t.length:Int)==(r.length:Int))=(t.length==r.length):=by
   rw[Bool.eq_iff_iff]; simp; omega
  rw[e];refine SimU.wantB λ_=>?_
  exact SimU.popsB (by omega) λa ha=>(SimU.push a).mono (by omega)
 have hs1:∀n,Step B B (bind (label n) λt=>bind (want (t.length==r.length) 6) λ_=>bind (pops t) λr=>push r) same:=by
  intro n;refine ((Step.label.bind (d':=B) (ψ:=same) (χ:=same) (λt ht=>?_) (λ_ _ _ _ _ h1 h2=>by rw[same,h2,h1.1])).mono (by omega) λ_ _ _ h=>h);obtain ⟨_,_,_,ht⟩:=ht;refine (Step.want.bind (d':=B) (ψ:=same) (χ:=same) (λ_ _=>?_) (λ_ _ _ _ _ h1 h2=>by rw[same,h2,h1])).mono (by omega) λ_ _ _ h=>h
  refine ((Step.pops t).bind (d':=B) (ψ:=same) (χ:=same) (λr hr=>?_) (λ_ _ _ _ _ h1 h2=>by rw[same,h2,h1.1])).mono (by omega) λ_ _ _ h=>h
  obtain ⟨_,_,_,hr⟩:=hr;exact (Step.push r).mono (by omega) λ_ _ _ h=>h
 have:=zR0a (c:=c) (l:=l) (0:Int) (zSba (λy w=>Kp y w) (λb s=>kx b s K Kp)) (λi s=>⟨r,ls,(ls.length:Int),i,s⟩) (λn s K Kp=>znaa s n (λt s=>zraa (((t.length:Nat):Int)==((r.length:Nat):Int)) 6 (zcaa s t (λa s=>ziaa s a (λs=>K s)) (λy w=>Kp y w)) (λy=>Kp y s)) (λy w=>Kp y w)) (λn=>bind (label n) λt=>bind (want (t.length==r.length) 6) λ_=>bind (pops t) λr=>push r) (zoea r.length) rfl
  (λn ns=>by
   funext v
   show V.bind (label n) (λt=>V.bind (want (t.length==r.length) 6) λ_=>V.bind (pops t) λq=>V.bind (push q) λ_=>zoea r.length ns) v=_;unfold V.bind;cases label n v with
   |error e=>rfl
   |ok q =>
    simp only;cases want (q.1.length==r.length) 6 q.2 with
    |error e=>rfl
    |ok q2 =>
     simp only;cases pops q.1 q2.2<;>rfl) (λy w=>Kp y w) (λs=>kx r s K Kp) ls hl (λrec i s=>rfl) (λrest v'=>∃S',Go B S' v'∧v'.2.length=v.2.length∧S'+rest.length*B+d≤most)
  (λn rest v hq=>by
   obtain ⟨S',q1,q2,q3⟩:=hq;simp only[List.length_cons,Nat.add_mul]at q3;refine ⟨hf1 n S' v q1 (by omega),λv' e=>?_⟩;obtain ⟨i1,i2⟩:=hs1 n S' v () v' q1.inv e;exact ⟨S'+B,q1.of i1 (by omega) (by rw[i2]),by rw[i2]; exact q2,by omega⟩) v ⟨S,hg,rfl,by omega⟩
 unfold V.bind;cases hf:zoea r.length ls v with
 |error e=>rw[hf]at this; exact this
 |ok q =>
  obtain ⟨u,v1⟩:=q;rw[hf]at this;obtain ⟨i1,i2⟩:=Step.popsEach (B:=B) (k:=r.length) ls S v u v1 hg.inv hf;have h2:=hk (S+ls.length*B) v1 (hg.of i1 (by omega) (by rw[i2])) (by omega) (λ_ s=>K s) Kp;simp only;cases hf2:g v1 with
  |error e =>
   rw[hf2]at h2;obtain ⟨k,h2⟩:=h2;exact ⟨k,this.trans h2⟩
  |ok q2=>rw[hf2]at h2; exact this.trans h2
theorem za3a (x:Ins) (hx:x.2.2.2.2.1.length≤64) (hB:B≤most):SimU R c l B (64*B) (λs K Kp=>ztda s x K Kp) (V.table x):=by
 have hm:most=4294967296:=rfl;have h64:x.2.2.2.2.1.length*B≤64*B:=Nat.mul_le_mul_right _ hx;unfold V.table;refine SimU.labelB λlast hl=>?_
 refine tab3U x last x.2.2.2.2.1 (by omega) (λw6 w7 w8 K Kp=>zhaa w8 (127:Int) (λr9 b10=>loopN (zSba (λy13 w12=>Kp y13 w12) (λw14 w15=>zcaa w15 w14 (λr16 b17=>zwaa b17 λb18=>K b18) (λy19 b20=>Kp y19 b20))) zpaa ⟨w7,w6.2.2.2.2.1,((List.length w6.2.2.2.2.1:Nat):Int),(0:Int),b10⟩) (λy21 b22=>Kp y21 b22)) ?_;refine SimU.popB λ_=>?_
 exact (tab9U (d:=0) last x.2.2.2.2.1 (by omega) hB (λw14 w15 K Kp=>zcaa w15 w14 (λr16 b17=>zwaa b17 λb18=>K b18) (λy19 b20=>Kp y19 b20)) (SimU.popsB (by omega) λ_ _=>SimU.dead)).mono (by omega)
end
end Go.Trm.V
namespace Go.Trm.V
open Go.Trm.G1
section
variable {R:Type} {c:Ctx} {l:List Int} {B:Nat}
theorem zoYa (xs:List Int) (h:xs.length≤most) (K:List Int→Option R):zUca xs K=K xs:=by
 unfold zUca;have e:(List.replicate 0 (0:Int))=[]:=rfl;simp only[e,List.length_nil,Nat.zero_add,zDaa,List.nil_append];rw[if_pos h];cases xs with
 |nil=>simp[zKaa]
 |cons=>rfl
theorem zfWa (t:FT) (h1:t.1.length≤most) (h2:t.2.1.length≤most) (K:FT→Option R):zPea t K=K t:=by
 unfold zPea;rw[zoYa _ h1,zoYa _ h2]
theorem zcWa (a n:Int) (K:Bool→Option R):zLda a n K=K (decide (0≤a∧a<n)):=by
 unfold zLda;simp only[zDaa];by_cases h1:0≤a
 ·rw[if_pos h1]
  congr 1
  by_cases h2:a<n
  ·rw[decide_eq_true h2,decide_eq_true ⟨h1,h2⟩]
  ·rw[decide_eq_false h2,decide_eq_false (λh=>h2 h.2)]
 ·rw[if_neg h1,decide_eq_false (λh=>h1 h.1)]
theorem zvYa (hc:CtxOk B c) (hB:B≤most) (t:Int) (K:FT→Bool→Option R):zIfa c t K=match zrHa c t with
  |some u=>K u true
  |none=>K ([],[],()) false:=by
 unfold zIfa zrHa;simp only[znCa,zcWa,zDaa,zkda];by_cases h1:t = -64
 ·rw[if_pos h1,if_pos h1]
 rw[if_neg h1,if_neg h1];by_cases h2:t = -1
 ·rw[if_pos h2,if_pos h2]; rfl
 rw[if_neg h2,if_neg h2];by_cases h3:t = -2
 ·rw[if_pos h3,if_pos h3]; rfl
 rw[if_neg h3,if_neg h3];by_cases h4:0≤t∧t<c.1.length
 ·rw[if_pos h4,if_pos h4];have:=zQwa hc t.toNat;simp only[if_pos h4];exact zfWa _ (by omega) (by omega) _
 ·rw[if_neg h4,if_neg h4]
theorem zDZa (hc:CtxOk B c) (hB:B≤most) (f:Int) (K:FT→Bool→Option R):zPga c f K=match typeT c f with
  |some u=>K u true
  |none=>K ([],[],()) false:=by
 unfold zPga typeT;simp only[zcWa,znwa,zDaa,zkda];by_cases h1:0≤f∧f<c.2.1.length
 ·rw[if_pos h1,if_pos h1];simp only[if_pos h1];by_cases h2:0≤c.2.1.getD f.toNat 0∧c.2.1.getD f.toNat 0<c.1.length
  ·rw[if_pos h2,if_pos h2];have:=zQwa hc (c.2.1.getD f.toNat 0).toNat;simp only[if_pos h2];exact zfWa _ (by omega) (by omega) _
  ·rw[if_neg h2,if_neg h2]
 ·rw[if_neg h1,if_neg h1]
theorem zkYa (a b:List Int) (kF kT:Option R) (hl:a.length=b.length) (hm:a.length≤most):∀(n i m:Nat),i+n=a.length→n≤m→loopN (zoba (λ_=>kF) kT) (m+1) ⟨a,b,(a.length:Int),(i:Int)⟩=if a.drop i=b.drop i then kT else kF:=by
 have h4:most=4294967296:=rfl;intro n
 induction n with
 |zero =>
  intro i m h1 h2;rw[zaaa];unfold zoba;simp only[zDaa];rw[if_neg (by omega),List.drop_of_length_le (by omega),List.drop_of_length_le (by omega),if_pos rfl]
 |succ n ih =>
  intro i m h1 h2;obtain ⟨m,rfl⟩:∃k,m=k+1:=⟨m-1,by omega⟩
  have:=ih (i+1) m (by omega) (by omega);rw[zaaa];have e:∀rec,zoba (λ_=>kF) kT rec ⟨a,b,(a.length:Int),(i:Int)⟩=if a.getD i 0=b.getD i 0 then rec ⟨a,b,(a.length:Int),((i+1:Nat):Int)⟩ else kF:=by
   intro rec;unfold zoba;simp only[zDaa,zkda,zoIa,Int.toNat_natCast];rw[if_pos (by omega),if_pos (by omega),if_pos (by omega),w_i64 (by omega)];rfl
  rw[e,this,zhza a i 0 (by omega),zhza b i 0 (by omega)];by_cases hc:a.getD i 0=b.getD i 0
  ·rw[if_pos hc,hc]; simp only[List.cons.injEq,true_and]
  ·rw[if_neg hc,if_neg (λh=>hc (by injection h))]
theorem zp1a (a b:List Int) (hm:a.length≤most) (K:Bool→Option R):zuia a b K=K (decide (a=b)):=by
 have h4:most=4294967296:=rfl;unfold zuia;simp only[zoIa];by_cases hl:a.length=b.length
 ·rw[if_pos (by omega)];obtain ⟨m,hf⟩:=zZva (a.length+1) (by omega);have e:zpaa=m+a.length+1:=by omega
  have e2:(zoba (λw5=>K w5) (K true):(X_slices_EqualInt_4→Option R)→X_slices_EqualInt_4→Option R)=zoba (λ_=>K false) (K true):=by
   funext rec x
   unfold zoba;rfl
  rw[e,e2];refine (zkYa a b (K false) (K true) hl hm a.length 0 (m+a.length) (by omega) (by omega)).trans ?_;simp only[List.drop_zero];by_cases hc:a=b
  ·rw[if_pos hc,decide_eq_true hc]
  ·rw[if_neg hc,decide_eq_false hc]
 ·rw[if_neg (by omega),decide_eq_false (λh=>hl (by rw[h]))]
theorem ztZa (a b:List Int) (h:a.length+b.length≤most) (K:List Int→Option R) (Kp:List UInt8→Option R):zsha [a,b] K Kp=K (a++b):=by
 have h4:most=4294967296:=rfl;unfold zsha;obtain ⟨m,hf⟩:=zZva 3 (by omega);rw[hf];simp only[List.length_cons,List.length_nil];have s1:∀(kp:List UInt8→Option R) (kx:List (List Int)→Int→Option R),loopN (zgba kp kx) (m+3) ⟨[a,b],0,[a,b],((0+1+1:Nat):Int),0⟩=kx [a,b] ((a.length:Int)+b.length):=by
  intro kp kx;have c1:∀rec,zgba kp kx rec ⟨[a,b],0,[a,b],((0+1+1:Nat):Int),0⟩=rec ⟨[a,b],(a.length:Int),[a,b],((0+1+1:Nat):Int),1⟩:=by
   intro rec;unfold zgba;simp only[zDaa,zkda,List.length_cons,List.length_nil];rw[if_pos (by omega),if_pos (by omega)];have:([a,b]:List (List Int)).getD (0:Int).toNat []=a:=rfl;rw[this,w_i64 (n:=0+(a.length:Int)) (by omega),if_neg (by omega),w_i64 (by omega),Int.zero_add,Int.zero_add]
  have c2:∀rec,zgba kp kx rec ⟨[a,b],(a.length:Int),[a,b],((0+1+1:Nat):Int),1⟩=rec ⟨[a,b],(a.length:Int)+b.length,[a,b],((0+1+1:Nat):Int),2⟩:=by
   intro rec;unfold zgba;simp only[zDaa,zkda,List.length_cons,List.length_nil];rw[if_pos (by omega),if_pos (by omega)];have:([a,b]:List (List Int)).getD (1:Int).toNat []=b:=rfl;rw[this,w_i64 (n:=(a.length:Int)+(b.length:Int)) (by omega),if_neg (by omega),w_i64 (by omega)];rfl
  have c3:∀rec,zgba kp kx rec ⟨[a,b],(a.length:Int)+b.length,[a,b],((0+1+1:Nat):Int),2⟩=kx [a,b] ((a.length:Int)+b.length):=by
   intro rec;unfold zgba;simp only[zDaa];rw[if_neg (by omega)]
  rw[zaaa,c1,zaaa,c2,zaaa,c3]
 rw[s1];unfold zUpa;rw[zDaa,if_pos (by simp; omega)];have c1:∀(kx:List Int→Option R) rec,zmba kx rec ⟨[],[a,b],((0+1+1:Nat):Int),0⟩=rec ⟨a,[a,b],((0+1+1:Nat):Int),1⟩:=by
  intro kx rec;unfold zmba;simp only[zDaa,zkda,List.length_cons,List.length_nil];rw[if_pos (by omega),if_pos (by omega)];have:([a,b]:List (List Int)).getD (0:Int).toNat []=a:=rfl;rw[this,if_pos (by omega),w_i64 (by omega),Int.zero_add,List.nil_append]
 have c2:∀(kx:List Int→Option R) rec,zmba kx rec ⟨a,[a,b],((0+1+1:Nat):Int),1⟩=rec ⟨a++b,[a,b],((0+1+1:Nat):Int),2⟩:=by
  intro kx rec;unfold zmba;simp only[zDaa,zkda,List.length_cons,List.length_nil];rw[if_pos (by omega),if_pos (by omega)];have:([a,b]:List (List Int)).getD (1:Int).toNat []=b:=rfl;rw[this,if_pos (by omega),w_i64 (by omega)];rfl
 have c3:∀(kx:List Int→Option R) rec,zmba kx rec ⟨a++b,[a,b],((0+1+1:Nat):Int),2⟩=kx (a++b):=by
  intro kx rec;unfold zmba;simp only[zDaa];rw[if_neg (by omega)]
 simp only[List.length_cons,List.length_nil];rw[zaaa,c1,zaaa,c2,zaaa,c3]
end
end Go.Trm.V
namespace Go.Trm.V
open Go.Trm.G1
section
variable {R:Type} {c:Ctx} {l:List Int} {B:Nat}
theorem toU {d d':Nat} {p q:CK→(CK→Option R)→(Int→CK→Option R)→Option R} {f:M Unit} (h:SimU R c l B d q f) (hd:d≤d') (e:∀v K Kp,p (emb c l v) K Kp=q (emb c l v) K Kp):SimU R c l B d' p f:=(h.congr e).mono hd
theorem zm1a {d:Nat} (e:Int):SimU R c l B d (λs _ Kp=>Kp e s) (fails e):=λ_ v _ _=>Runs.mkE λ_ _=>⟨emb c l v,rfl⟩
theorem zB1a (g:M Unit):V.bind (V.ret ()) (λ_=>g)=g:=rfl
theorem zC1a (t:Int) (g:M Unit):V.bind (V.bind (V.pop t) λ_=>V.ret ()) (λ_=>g)=V.bind (V.pop t) λ_=>g:=by
 funext v
 unfold V.bind;cases V.pop t v<;>rfl
noncomputable abbrev tJ (x:Ins) (t:FT) (s:CK) (K:CK→Option R) (Kp:Int→CK→Option R):Option R :=
 zBaa (λw9 w10 w11=>zcaa w11 w10.1 (λ_ b13=>ztaa b13 w9.1 w10.1 w10.2.1 λb14=>K b14) (λy15 b16=>Kp y15 b16)) (λy18 w17=>Kp y18 w17) ⟨x,t,s⟩
noncomputable abbrev tB (x:Ins) (s:CK) (K:CK→Option R) (Kp:Int→CK→Option R):Option R :=
 zIfa s.1 x.2.1 (λw6 w7=>zraa w7 (7:Int) (tJ x w6 s K Kp) (λy19=>Kp y19 s))
theorem zy1a (hb:1≤B) (hc:CtxOk B c) (hB:B≤most) (x:Ins) (hx:x.1=2∨x.1=3∨x.1=4):SimU R c l B B (λs K Kp=>tB x s K Kp) (V.block c x):=by
 unfold V.block;cases ht:zrHa c x.2.1 with
 |none =>
  refine toU (zm1a 7) (Nat.le_refl _) λv K Kp=>?_
  show zIfa c x.2.1 _=_;rw[zvYa hc hB,ht];rfl
 |some t =>
  obtain ⟨b1,b2⟩:=zhWa hb hc ht;have e:∀v K Kp,tB (R:=R) x (emb c l v) K Kp=tJ x t (emb c l v) K Kp:=λv K Kp=>by
   show zIfa c x.2.1 _=_;rw[zvYa hc hB,ht];rfl
  have hp:SimU R c l B B (λs K Kp=>zcaa s t.1 (λ_ b13=>ztaa b13 x.1 t.1 t.2.1 λb14=>K b14) (λy15 b16=>Kp y15 b16)) (V.bind (V.pops t.1) λ_=>V.enter x.1 t.1 t.2.1) :=
   SimU.popsB (by omega) λ_ _=>(SimU.enter x.1 t.1 t.2.1).mono b1
  dsimp only;by_cases h4:x.1=4
  ·rw[if_pos h4,zC1a];refine toU (SimU.popB λ_=>hp) (Nat.le_refl _) λv K Kp=>(e v K Kp).trans ?_
   show zBaa _ _ _=_;unfold zBaa;simp only[znCa];rw[if_pos h4]
  ·rw[if_neg h4,zB1a];refine toU hp (Nat.le_refl _) λv K Kp=>(e v K Kp).trans ?_
   show zBaa _ _ _=_;unfold zBaa;simp only[znCa];rw[if_neg h4]
noncomputable abbrev cJ (x:Ins) (kr:Bool→CK→Option R) (s:CK) (K:CK→Option R) (Kp:Int→CK→Option R):Option R:=zbba (λw=>K w) (λy w=>Kp y w) kr ⟨x,s⟩
theorem ctl0 (hb:1≤B) (hc:CtxOk B c) (hB:B≤most) (y:Int×Int×Int×List Int×Unit) (hx:y.2.2.2.1.length≤64) (kr:Bool→CK→Option R):SimU R c l B (G B) (cJ (0,y) kr) (V.dead):=by
 have h4:most=4294967296:=rfl;exact toU SimU.dead (Nat.zero_le _) λ_ _ _=>by kernel_rfl
theorem ctl1 (hb:1≤B) (hc:CtxOk B c) (hB:B≤most) (y:Int×Int×Int×List Int×Unit) (hx:y.2.2.2.1.length≤64) (kr:Bool→CK→Option R):SimU R c l B (G B) (cJ (1,y) kr) (V.ret ()):=by
 have h4:most=4294967296:=rfl;exact toU SimU.ret (Nat.zero_le _) λ_ _ _=>by kernel_rfl
theorem ctl2 (hb:1≤B) (hc:CtxOk B c) (hB:B≤most) (y:Int×Int×Int×List Int×Unit) (hx:y.2.2.2.1.length≤64) (kr:Bool→CK→Option R):SimU R c l B (G B) (cJ (2,y) kr) (V.block c (2,y)):=by
 have h4:most=4294967296:=rfl;exact toU (zy1a hb hc hB (2,y) (by simp)) (by unfold G; omega) λ_ _ _=>by kernel_rfl
theorem ctl3 (hb:1≤B) (hc:CtxOk B c) (hB:B≤most) (y:Int×Int×Int×List Int×Unit) (hx:y.2.2.2.1.length≤64) (kr:Bool→CK→Option R):SimU R c l B (G B) (cJ (3,y) kr) (V.block c (3,y)):=by
 have h4:most=4294967296:=rfl;exact toU (zy1a hb hc hB (3,y) (by simp)) (by unfold G; omega) λ_ _ _=>by kernel_rfl
theorem ctl4 (hb:1≤B) (hc:CtxOk B c) (hB:B≤most) (y:Int×Int×Int×List Int×Unit) (hx:y.2.2.2.1.length≤64) (kr:Bool→CK→Option R):SimU R c l B (G B) (cJ (4,y) kr) (V.block c (4,y)):=by
 have h4:most=4294967296:=rfl;exact toU (zy1a hb hc hB (4,y) (by simp)) (by unfold G; omega) λ_ _ _=>by kernel_rfl
theorem ctl5 (hb:1≤B) (hc:CtxOk B c) (hB:B≤most) (y:Int×Int×Int×List Int×Unit) (hx:y.2.2.2.1.length≤64) (kr:Bool→CK→Option R):SimU R c l B (G B) (cJ (5,y) kr) (V.bind V.leave λb=>V.enter 5 b.2.1 b.2.2.1):=by
 have h4:most=4294967296:=rfl;intro S v hg hd;refine Runs.congr (q:=λK Kp=>zyaa (emb c l v) (λb s=>ztaa s 5 b.2.1 b.2.2.1 λs=>K () s) (λe s=>Kp e s)) (λ_ _=>by kernel_rfl) ?_;refine Runs.bind (p:=zyaa (emb c l v)) (q:=λb s K Kp=>ztaa s 5 b.2.1 b.2.2.1 λs=>K () s) (zy2a hg hB) λb v1 hv=>?_
 obtain ⟨i1,i2,i3,i4,_⟩:=Step.leave S v b v1 hg.inv hv;have:=i1.len;have:=hg.op;exact Runs.mk λK Kp=>zvVa v1 5 b.2.1 b.2.2.1 (by unfold G at hd; omega) (by omega) _
theorem ctl11 (hb:1≤B) (hc:CtxOk B c) (hB:B≤most) (y:Int×Int×Int×List Int×Unit) (hx:y.2.2.2.1.length≤64) (kr:Bool→CK→Option R):SimU R c l B (G B) (cJ (11,y) kr) (V.bind V.leave λb=>V.bind (V.want (decide (b.1≠4∨b.2.1=b.2.2.1)) 6) λ_=>V.push b.2.2.1):=by
 have h4:most=4294967296:=rfl;intro S v hg hd;refine Runs.congr (q:=λK Kp=>zyaa (emb c l v) (λb s=>zIaa (λw61 w62=>ziaa w62 w61.2.2.1 λb63=>K () b63) (λy65 w64=>Kp y65 w64) ⟨b,s⟩) (λe s=>Kp e s)) (λ_ _=>by kernel_rfl) ?_;refine Runs.bind (p:=zyaa (emb c l v)) (q:=λb s K Kp=>zIaa (λw61 w62=>ziaa w62 w61.2.2.1 λb63=>K () b63) (λy65 w64=>Kp y65 w64) ⟨b,s⟩) (zy2a hg hB) λb v1 hv=>?_
 obtain ⟨i1,i2,i3,i4,_⟩:=Step.leave S v b v1 hg.inv hv;have:=i1.len;have e:∀(K:Unit→CK→Option R) (Kp:Int→CK→Option R),zIaa (λw61 w62=>ziaa w62 w61.2.2.1 λb63=>K () b63) (λy65 w64=>Kp y65 w64) ⟨b,emb c l v1⟩=if b.1≠4∨b.2.1=b.2.2.1 then K () (emb c l (b.2.2.1.reverse++v1.1,v1.2)) else Kp 6 (emb c l v1):=by
  intro K Kp;unfold zIaa;simp only[zoIa];rw[zp1a _ _ (by omega)];simp only[zhKa];rw[ztXa v1 b.2.2.1 (by unfold G at hd; omega)];by_cases q1:b.1=4
  ·rw[if_pos q1];by_cases q2:b.2.1=b.2.2.1
   ·rw[if_pos (decide_eq_true q2),if_pos (Or.inr q2)]
   ·rw[if_neg (by simpa using q2),if_neg (λh=>h.elim (λh=>h q1) q2)]
  ·rw[if_neg q1,if_pos trivial,if_pos (Or.inl q1)]
 show Runs c l _ (V.bind (V.want (decide (b.1≠4∨b.2.1=b.2.2.1)) 6) (λ_=>V.push b.2.2.1) v1);unfold V.bind V.want;by_cases q:b.1≠4∨b.2.1=b.2.2.1
 ·rw[if_pos (decide_eq_true q)];exact Runs.mk λK Kp=>by rw[e,if_pos q]
 ·rw[if_neg (by simpa using q)];exact Runs.mkE λK Kp=>⟨emb c l v1,by rw[e,if_neg q]⟩
theorem ctl12 (hb:1≤B) (hc:CtxOk B c) (hB:B≤most) (y:Int×Int×Int×List Int×Unit) (hx:y.2.2.2.1.length≤64) (kr:Bool→CK→Option R):SimU R c l B (G B) (cJ (12,y) kr) (V.bind (V.label y.1) λl=>V.bind (V.pops l) λ_=>V.dead):=by
 have h4:most=4294967296:=rfl;exact toU (SimU.labelB (d':=0) λ_ h=>SimU.popsB (by omega) λ_ _=>SimU.dead) (Nat.zero_le _) λ_ _ _=>by kernel_rfl
theorem ctl13 (hb:1≤B) (hc:CtxOk B c) (hB:B≤most) (y:Int×Int×Int×List Int×Unit) (hx:y.2.2.2.1.length≤64) (kr:Bool→CK→Option R):SimU R c l B (G B) (cJ (13,y) kr) (V.bind (V.label y.1) λl=>V.bind (V.pop 127) λ_=>V.does l l):=by
 have h4:most=4294967296:=rfl;exact toU (SimU.labelB (d':=B) λa h=>SimU.popB λ_=>(SimU.does a a (by omega)).mono h) (by unfold G; omega) λ_ _ _=>by kernel_rfl
theorem ctl14 (hb:1≤B) (hc:CtxOk B c) (hB:B≤most) (y:Int×Int×Int×List Int×Unit) (hx:y.2.2.2.1.length≤64) (kr:Bool→CK→Option R):SimU R c l B (G B) (cJ (14,y) kr) (V.table (14,y)):=by
 have h4:most=4294967296:=rfl;exact toU (za3a (14,y) hx hB) (by unfold G; omega) λ_ _ _=>by kernel_rfl
theorem ctl15 (hb:1≤B) (hc:CtxOk B c) (hB:B≤most) (y:Int×Int×Int×List Int×Unit) (hx:y.2.2.2.1.length≤64) (kr:Bool→CK→Option R):SimU R c l B (G B) (cJ (15,y) kr) (V.retn):=by
 have h4:most=4294967296:=rfl;intro S v hg hd;have hne:=hg.ne;obtain ⟨s,o⟩:=v;simp only at hne;obtain ⟨b,hb⟩:∃b,o.getLast?=some b:=⟨_,List.getLast?_eq_some_getLast hne⟩
 have hmem:=(hg.inv.blk b (List.mem_of_getLast? hb)).2;have e1:inB 0 o.reverse.length=true:=by
  have:0<o.length:=List.length_pos_iff.mpr hne;unfold inB;simp; omega
 have e2:∀d,o.reverse.getD 0 d=b:=by
  intro d;rw[List.getLast?_eq_head?_reverse]at hb;cases h:o.reverse with
  |nil=>rw[h]at hb; cases hb
  |cons z zs=>rw[h]at hb; cases hb; rfl
 show Runs c l _ (V.retn (s,o));unfold V.retn;simp only[hb];refine Runs.congr (λK Kp=>?_) ((SimU.popsB (R:=R) (B:=B) (c:=c) (l:=l) (ts:=b.2.2.1) (by omega) (λ_ _=>SimU.dead)) S (s,o) hg (by omega));show cond (inB 0 o.reverse.length) (zcaa (emb c l (s,o)) (o.reverse.getD 0 (0,[],[],0,false,())).2.2.1 _ _) none=_;rw[e1,e2];rfl
theorem ctl16 (hb:1≤B) (hc:CtxOk B c) (hB:B≤most) (y:Int×Int×Int×List Int×Unit) (hx:y.2.2.2.1.length≤64) (kr:Bool→CK→Option R):SimU R c l B (G B) (cJ (16,y) kr) (match typeT c y.1 with
   |none=>V.fails 7
   |some t=>V.does t.1 t.2.1):=by
 have h4:most=4294967296:=rfl;show SimU R c l B (G B) _ (match typeT c y.1 with
  |none=>fails 7
  |some t=>V.does t.1 t.2.1)
 have e0:∀v K Kp,cJ (R:=R) (16,y) kr (emb c l v) K Kp=zPga c y.1 λw102 w103=>zraa w103 (7:Int) (zlaa (emb c l v) w102.1 w102.2.1 (λb105=>K b105) (λy106 b107=>Kp y106 b107)) (λy108=>Kp y108 (emb c l v)):=λ_ _ _=>by kernel_rfl
 cases ht:typeT c y.1 with
 |none =>
  refine toU (zm1a 7) (Nat.le_refl _) λv K Kp=>?_
  rw[e0,zDZa hc hB,ht];rfl
 |some t =>
  obtain ⟨b1,b2⟩:=zfXa hc ht;refine toU (SimU.does t.1 t.2.1 (by omega)) (by unfold G; omega) λv K Kp=>?_
  rw[e0,zDZa hc hB,ht];rfl
theorem ctl17 (hb:1≤B) (hc:CtxOk B c) (hB:B≤most) (y:Int×Int×Int×List Int×Unit) (hx:y.2.2.2.1.length≤64) (kr:Bool→CK→Option R):SimU R c l B (G B) (cJ (17,y) kr) (V.bind (V.has y.1 c.1.length) λ_=>V.bind (V.has y.2.1 c.2.2.2.1.length) λ_=>V.bind (V.pop 127) λ_=>V.does (c.1.getD y.1.toNat ([],[],())).1 (c.1.getD y.1.toNat ([],[],())).2.1):=by
 have h4:most=4294967296:=rfl;have:=zQwa hc y.1.toNat;exact toU (SimU.hasB (n:=y.1) (m:=(c.1.length:Nat)) λh1=>SimU.hasB (n:=y.2.1) (m:=(c.2.2.2.1.length:Nat)) λ_=>SimU.guard h1 (SimU.popB λ_=>SimU.does _ _ (by omega))) (by unfold G; omega) λv K Kp=>by kernel_rfl
theorem zt3a (hb:1≤B) (hc:CtxOk B c) (hB:B≤most) (x:Ins) (hx:x.2.2.2.2.1.length≤64):match ctl c x with
  |some m=>∀kr,SimU R c l B (G B) (cJ x kr) m
  |none=>∀(kr:Bool→CK→Option R) s K Kp,cJ x kr s K Kp=kr false s:=by
 obtain ⟨op,y⟩:=x;by_cases o0:op=0
 ·subst o0;exact ctl0 hb hc hB y hx
 by_cases o1:op=1
 ·subst o1;exact ctl1 hb hc hB y hx
 by_cases o2:op=2
 ·subst o2;exact ctl2 hb hc hB y hx
 by_cases o3:op=3
 ·subst o3;exact ctl3 hb hc hB y hx
 by_cases o4:op=4
 ·subst o4;exact ctl4 hb hc hB y hx
 by_cases o5:op=5
 ·subst o5;exact ctl5 hb hc hB y hx
 by_cases o11:op=11
 ·subst o11;exact ctl11 hb hc hB y hx
 by_cases o12:op=12
 ·subst o12;exact ctl12 hb hc hB y hx
 by_cases o13:op=13
 ·subst o13;exact ctl13 hb hc hB y hx
 by_cases o14:op=14
 ·subst o14;exact ctl14 hb hc hB y hx
 by_cases o15:op=15
 ·subst o15;exact ctl15 hb hc hB y hx
 by_cases o16:op=16
 ·subst o16;exact ctl16 hb hc hB y hx
 by_cases o17:op=17
 ·subst o17;exact ctl17 hb hc hB y hx
 have hn:ctl c (op,y)=none:=by
  unfold ctl;simp only;rw[if_neg o0,if_neg o1,if_neg (by omega),if_neg o5,if_neg o11,if_neg o12,if_neg o13,if_neg o14,if_neg o15,if_neg o16,if_neg o17]
 rw[hn];intro kr s K Kp;unfold cJ zbba;simp only[znCa];rw[if_neg o0,if_neg o1,if_neg o2,if_neg o3,if_neg o4,if_neg o5,if_neg o11,if_neg o12,if_neg o13,if_neg o14,if_neg o15,if_neg o16,if_neg o17]
end
end Go.Trm.V
namespace Go.Trm.V
open Go.Trm.G1
section
variable {R:Type} {c:Ctx} {l:List Int} {B:Nat}
def SimT (R:Type) (c:Ctx) (l:List Int) (B d:Nat) (p:CK→(Bool→CK→Option R)→(Int→CK→Option R)→Option R) (f:M Unit):Prop:=∀K0:CK→Option R,SimU R c l B d (λs K Kp=>p s (λb s=>cond b (K s) (K0 s)) Kp) f
theorem toT {d d':Nat} {p:CK→(Bool→CK→Option R)→(Int→CK→Option R)→Option R} {q:CK→(CK→Option R)→(Int→CK→Option R)→Option R} {f:M Unit} (h:SimU R c l B d q f) (hd:d≤d') (e:∀v K Kp,p (emb c l v) K Kp=q (emb c l v) (λs=>K true s) Kp):SimT R c l B d' p f:=λ_=>toU h hd λv _ _=>e v _ _
theorem zR1a (x:Ins):match vari c l x with
  |some m=>SimT R c l B (G B) (λs K Kp=>zRaa s x K Kp) m
  |none=>∀s (K:Bool→CK→Option R) Kp,zRaa s x K Kp=K false s:=by
 obtain ⟨op,y⟩:=x;have hg:8≤G B:=by unfold G; omega
 by_cases o26:op=26
 ·subst o26;exact toT (SimU.popB (d':=0) λ_=>SimU.ret) (Nat.zero_le _) λ_ _ _=>by kernel_rfl
 by_cases o27:op=27
 ·subst o27;exact toT (SimU.popB (d':=1) λ_=>SimU.popB λa=>SimU.popB λb=>SimU.push [maxI a b]) (by omega) λ_ _ _=>by kernel_rfl
 by_cases o32:op=32
 ·subst o32;exact toT (SimU.hasB (n:=y.1) (m:=(l.length:Nat)) λh=>SimU.guard h (SimU.push [l.getD y.1.toNat 0])) (by simp<;>omega) λ_ _ _=>by kernel_rfl
 by_cases o33:op=33
 ·subst o33;exact toT (SimU.hasB (d':=0) (n:=y.1) (m:=(l.length:Nat)) λh=>SimU.guard h (SimU.popB (t:=l.getD y.1.toNat 0) λ_=>SimU.ret)) (by omega) λ_ _ _=>by kernel_rfl
 by_cases o34:op=34
 ·subst o34;exact toT (SimU.hasB (n:=y.1) (m:=(l.length:Nat)) λh=>SimU.guard h (SimU.popB (t:=l.getD y.1.toNat 0) λ_=>SimU.push [l.getD y.1.toNat 0])) (by simp<;>omega) λ_ _ _=>by kernel_rfl
 by_cases o35:op=35
 ·subst o35;exact toT (SimU.hasB (n:=y.1) (m:=(c.2.2.1.length:Nat)) λh=>SimU.guard h (SimU.push [(c.2.2.1.getD y.1.toNat (0,false,())).1])) (by simp<;>omega) λ_ _ _=>by kernel_rfl
 by_cases o36:op=36
 ·subst o36;exact toT (SimU.hasB (d':=0) (n:=y.1) (m:=(c.2.2.1.length:Nat)) λh=>SimU.guard h (SimU.wantB (b:=(c.2.2.1.getD y.1.toNat (0,false,())).2.1) λ_=>SimU.guard h (SimU.popB (t:=(c.2.2.1.getD y.1.toNat (0,false,())).1) λ_=>SimU.ret))) (by omega) λ_ _ _=>by kernel_rfl
 by_cases o65:op=65
 ·subst o65;exact toT (SimU.push [127]) (by simp<;>omega) λ_ _ _=>by kernel_rfl
 by_cases o66:op=66
 ·subst o66;exact toT (SimU.push [126]) (by simp<;>omega) λ_ _ _=>by kernel_rfl
 have hn:vari c l (op,y)=none:=by
  unfold vari;simp only;rw[if_neg o26,if_neg o27,if_neg o32,if_neg o33,if_neg o34,if_neg o35,if_neg o36,if_neg o65,if_neg o66]
 rw[hn];intro s K Kp;unfold zRaa;simp only[znCa];rw[if_neg o26,if_neg o27,if_neg o32,if_neg o33,if_neg o34,if_neg o35,if_neg o36,if_neg o65,if_neg o66]
def AccOk (acc:Int→Option (Int×Int×Bool)):Prop:=∀(R:Type) n (K:Int→Int→Bool→Bool→Option R),zBea n K=match acc n with
 |some a=>K a.1 a.2.1 a.2.2 true
 |none=>K 0 0 false false
theorem segU (n:Int):SimU R c l B 0 (λs K Kp=>zFca s n K Kp) (zRxa c n):=by
 have h:SimU R c l B 0 (λs K Kp=>zraa c.2.2.2.2.2.2.2.2.2.1 7 (zLaa n c.2.2.2.2.2.2.2.2.1 (K s) (λy=>Kp y s)) (λy=>Kp y s)) (zRxa c n):=SimU.wantB λ_=>SimU.has n _
 exact h.congr λ_ _ _=>by kernel_rfl
theorem zgXa {d':Nat}:SimU R c l B d' (λs K Kp=>zBma λr58=>zcaa s r58 (λ_ b60=>K b60) (λy61 b62=>Kp y61 b62)) (V.bind (V.pops three) λ_=>V.ret ()):=by
 have hm:most=4294967296:=rfl;have:SimU R c l B 0 (λs K Kp=>zcaa s three (λ_ b60=>K b60) (λy61 b62=>Kp y61 b62)) (V.bind (V.pops three) λ_=>V.ret ()):=SimU.popsB (by unfold three; simp; omega) λ_ _=>SimU.ret
 exact toU this (Nat.zero_le _) λ_ _ _=>by kernel_rfl
theorem zl2a {acc:Int→Option (Int×Int×Bool)} (ha:AccOk acc) (x:Ins):match memo acc c x with
  |some m=>SimT R c l B (G B) (λs K Kp=>zkaa s x K Kp) m
  |none=>∀s (K:Bool→CK→Option R) Kp,zkaa s x K Kp=K false s:=by
 have hm:most=4294967296:=rfl;have hg:8≤G B:=by unfold G; omega
 unfold memo;cases h:acc x.1 with
 |some a =>
  dsimp only;refine toT (d:=1) (SimU.hasB (n:=0) (m:=(c.2.2.2.2.1.length:Nat)) λ_=>SimU.wantB (b:=decide (0≤x.2.1∧x.2.1≤3)&&decide (shlI .i64 1 x.2.1≤a.2.1)) (e:=5) (q:=λs K Kp=>cond a.2.2 (zlaa s [127,a.1] [] K Kp) (zlaa s [127] [a.1] K Kp)) λ_=>?_) (by omega) ?_
  ·by_cases hs:a.2.2=true
   ·rw[if_pos hs];exact toU (SimU.does [127,a.1] [] (by simp<;>omega)) (by simp) λv K Kp=>by rw[hs,cond_true]
   ·rw[if_neg hs];exact toU (SimU.does [127] [a.1] (by simp<;>omega)) (by simp) λv K Kp=>by rw[show a.2.2=false by simpa using hs,cond_false]
  ·intro v K Kp;unfold zkaa;rw[ha,h];dsimp only;rw[cond_true];show zLaa 0 (c.2.2.2.2.1.length:Nat) _ _=zLaa 0 (c.2.2.2.2.1.length:Nat) _ _
   congr 1
   by_cases h1:0≤x.2.1
   ·by_cases h2:x.2.1≤3
    ·rw[zDaa,if_pos h1,zDaa,if_pos h2,w_u64 (by omega),zDaa,if_pos h1,decide_eq_true (show 0≤x.2.1∧x.2.1≤3 from ⟨h1,h2⟩),Bool.true_and];rfl
    ·rw[zDaa,if_pos h1,zDaa,if_neg h2,decide_eq_false (show ¬(0≤x.2.1∧x.2.1≤3) from λh=>h2 h.2),Bool.false_and];rfl
   ·rw[zDaa,if_neg h1,decide_eq_false (show ¬(0≤x.2.1∧x.2.1≤3) from λh=>h1 h.1),Bool.false_and];rfl
 |none =>
  obtain ⟨op,y⟩:=x;dsimp only at h ⊢;by_cases o63:op=63
  ·subst o63;refine toT (SimU.hasB (n:=0) (m:=(c.2.2.2.2.1.length:Nat)) λ_=>SimU.push [127]) (by simp<;>omega) λv K Kp=>?_
   unfold zkaa;rw[ha,h]
   kernel_rfl
  by_cases o64:op=64
  ·subst o64;refine toT (SimU.hasB (n:=0) (m:=(c.2.2.2.2.1.length:Nat)) λ_=>SimU.does [127] [127] (by simp<;>omega)) (by simp<;>omega) λv K Kp=>?_
   unfold zkaa;rw[ha,h]
   kernel_rfl
  by_cases o264:op=264
  ·subst o264;refine toT (SimU.hasB (d':=0) (n:=0) (m:=(c.2.2.2.2.1.length:Nat)) λ_=>(SimU.bindU (segU y.1) (Step.want.bind (d:=0) (d':=0) (χ:=λv _ v'=>v'=v) (λ_ _=>Step.has) (λ_ _ _ _ _ h1 h2=>h2.trans h1)) zo1a (d':=0) λ_ _ _=>zgXa)) (by omega) λv K Kp=>?_
   unfold zkaa;rw[ha,h]
   kernel_rfl
  by_cases o266:op=266
  ·subst o266;refine toT (SimU.hasB (d':=0) (n:=0) (m:=(c.2.2.2.2.1.length:Nat)) λ_=>zgXa) (by omega) λv K Kp=>?_
   unfold zkaa;rw[ha,h]
   kernel_rfl
  by_cases o267:op=267
  ·subst o267;refine toT (SimU.hasB (d':=0) (n:=0) (m:=(c.2.2.2.2.1.length:Nat)) λ_=>zgXa) (by omega) λv K Kp=>?_
   unfold zkaa;rw[ha,h]
   kernel_rfl
  by_cases o265:op=265
  ·subst o265;refine toT (segU y.1) (by omega) λv K Kp=>?_
   unfold zkaa;rw[ha,h]
   kernel_rfl
  by_cases o268:op=268
  ·subst o268;refine toT (SimU.hasB (d':=0) (n:=y.1) (m:=c.2.2.2.2.2.2.2.1) λ_=>SimU.hasB (n:=y.2.1) (m:=(c.2.2.2.1.length:Nat)) λ_=>zgXa) (by omega) λv K Kp=>?_
   unfold zkaa;rw[ha,h]
   kernel_rfl
  by_cases o270:op=270
  ·subst o270;refine toT (SimU.hasB (d':=0) (n:=y.1) (m:=(c.2.2.2.1.length:Nat)) λ_=>SimU.hasB (n:=y.2.1) (m:=(c.2.2.2.1.length:Nat)) λ_=>zgXa) (by omega) λv K Kp=>?_
   unfold zkaa;rw[ha,h]
   kernel_rfl
  by_cases o269:op=269
  ·subst o269;refine toT (SimU.has y.1 c.2.2.2.2.2.2.2.1) (by omega) λv K Kp=>?_
   unfold zkaa;rw[ha,h]
   kernel_rfl
  rw[if_neg o63,if_neg o64,if_neg o264,if_neg o266,if_neg o267,if_neg o265,if_neg o268,if_neg o270,if_neg o269];intro s K Kp;unfold zkaa;rw[ha,h];simp only[znCa,cond_false];rw[if_neg o63,if_neg o64,if_neg o264,if_neg o266,if_neg o267,if_neg o265,if_neg o268,if_neg o270,if_neg o269]
end
end Go.Trm.V
namespace Go.Trm.V
open Go.Trm.G1
section
variable {R:Type} {c:Ctx} {l:List Int} {B:Nat}
def TypOk (typ:Int→Option (List Int×Int)):Prop:=(∀n u,typ n=some u→u.1.length≤2)∧∀(R:Type) n (K:List Int→Int→Bool→Option R),zpea n K=match typ n with
 |some u=>K u.1 u.2 true
 |none=>K [] 0 false
theorem typU {typ:Int→Option (List Int×Int)} (ht:TypOk typ) (x:Ins):SimU R c l B 8 (λs K Kp=>zpea x.1 λr7 r8 r9=>zraa r9 (2:Int) (zlaa s r7 [r8] (λb11=>K b11) (λy12 b13=>Kp y12 b13)) (λy14=>Kp y14 s)) (match typ x.1 with
  |some t=>does t.1 [t.2]
  |none=>fails 2):=by
 have hm:most=4294967296:=rfl;cases h:typ x.1 with
 |none=>exact toU (zm1a (d:=0) 2) (by omega) λv K Kp=>by rw[ht.2,h]; rfl
 |some t =>
  have:=ht.1 _ _ h;exact toU (SimU.does t.1 [t.2] (by omega)) (by simp) λv K Kp=>by rw[ht.2,h]; rfl
theorem zj3a {acc:Int→Option (Int×Int×Bool)} {typ:Int→Option (List Int×Int)} (ha:AccOk acc) (ht:TypOk typ) (hb:1≤B) (hc:CtxOk B c) (hB:B≤most) (x:Ins) (hx:x.2.2.2.2.1.length≤64):SimU R c l B (G B) (λs K Kp=>zSaa s x K Kp) (instr acc typ c l x):=by
 refine zV0a λS v hg hd K Kp=>?_
 have k1:=zt3a (R:=R) (l:=l) hb hc hB x hx;have k2:=zR1a (R:=R) (c:=c) (l:=l) (B:=B) x;have k3:=zl2a (R:=R) (c:=c) (l:=l) (B:=B) ha x;have k4:=typU (R:=R) (c:=c) (l:=l) (B:=B) ht x S v hg (by unfold G at hd; omega) (λ_ s=>K s) Kp;unfold instr;generalize hK3:(λ(r5:Bool) (b6:CK)=>cond r5 (K b6) (zpea x.1 λr7 r8 r9=>zraa r9 (2:Int) (zlaa b6 r7 [r8] (λb11=>K b11) (λy12 b13=>Kp y12 b13)) (λy14=>Kp y14 b6)))=K3;generalize hK2:(λ(r3:Bool) (b4:CK)=>cond r3 (K b4) (zkaa b4 x K3 (λy w=>Kp y w)))=K2;generalize hK1:(λ(r1:Bool) (b2:CK)=>cond r1 (K b2) (zRaa b2 x K2 (λy w=>Kp y w)))=K1;have e0:∀s,zSaa s x K Kp=cJ x K1 s (λw=>K1 true w) Kp:=by
  intro s;rw[←hK1,←hK2,←hK3];rfl
 cases h1:ctl c x with
 |some m =>
  rw[h1]at k1;have:=k1 K1 S v hg hd (λ_ s=>K1 true s) Kp;have e1:∀s,K1 true s=K s:=λs=>by rw[←hK1]; rfl
  dsimp only;cases hm:m v with
  |ok q=>rw[hm]at this; rw[e0]; exact this.trans (e1 _)
  |error e=>rw[hm]at this; rw[e0]; exact this
 |none =>
  rw[h1]at k1;have e1:zSaa (emb c l v) x K Kp=zRaa (emb c l v) x K2 (λy w=>Kp y w):=by
   rw[e0,k1,←hK1]; rfl
  rw[e1];dsimp only;cases h2:vari c l x with
  |some m =>
   rw[h2]at k2;have:=k2 (λs=>K2 false s) S v hg hd (λ_ s=>K2 true s) Kp;have e2:(λ(b:Bool) (s:CK)=>cond b (K2 true s) (K2 false s))=K2:=by funext b s; cases b<;>rfl
   have e3:∀s,K2 true s=K s:=λs=>by rw[←hK2]; rfl
   dsimp only;cases hm:m v with
   |ok q=>rw[hm]at this; dsimp only at this; rw[e2]at this; exact this.trans (e3 _)
   |error e=>rw[hm]at this; dsimp only at this; rw[e2]at this; exact this
  |none =>
   rw[h2]at k2;rw[k2];have e2:K2 false (emb c l v)=zkaa (emb c l v) x K3 (λy w=>Kp y w):=by rw[←hK2]; rfl
   rw[e2];dsimp only;cases h3:memo acc c x with
   |some m =>
    rw[h3]at k3;have:=k3 (λs=>K3 false s) S v hg hd (λ_ s=>K3 true s) Kp;have e2:(λ(b:Bool) (s:CK)=>cond b (K3 true s) (K3 false s))=K3:=by funext b s; cases b<;>rfl
    have e3:∀s,K3 true s=K s:=λs=>by rw[←hK3]; rfl
    dsimp only;cases hm:m v with
    |ok q=>rw[hm]at this; dsimp only at this; rw[e2]at this; exact this.trans (e3 _)
    |error e=>rw[hm]at this; dsimp only at this; rw[e2]at this; exact this
   |none =>
    rw[h3]at k3;rw[k3];have e3:K3 false (emb c l v)=zpea x.1 λr7 r8 r9=>zraa r9 (2:Int) (zlaa (emb c l v) r7 [r8] (λb11=>K b11) (λy12 b13=>Kp y12 b13)) (λy14=>Kp y14 (emb c l v)):=by rw[←hK3]; rfl
    rw[e3];dsimp only;cases h5:typ x.1 with
    |none=>rw[h5]at k4; exact k4
    |some t =>
     rw[h5]at k4;dsimp only at k4 ⊢;cases hq:does t.1 [t.2] v with
     |ok q=>rw[hq]at k4; exact k4
     |error e=>rw[hq]at k4; exact k4
def Rest (B:Nat) (zCaa:Ins→Bool) (rest:List Ins) (v:VS):Prop:=rest=[]∨∃n S,zBba zCaa rest n=true∧v.2.length=n.length+1∧n.length≤64∧Inv B S v∧S+rest.length*G B≤most
theorem Rest.step {zCaa:Ins→Bool} (hf:∀x,zCaa x=true→x.2.2.2.2.1.length≤64) {acc:Int→Option (Int×Int×Bool)} {typ:Int→Option (List Int×Int)} (hb:1≤B) (hc:CtxOk B c) {x:Ins} {rest:List Ins} {v:VS} (h:Rest B zCaa (x::rest) v):x.2.2.2.2.1.length≤64∧(∃S,Go B S v∧S+G B≤most)∧∀v',instr acc typ c l x v = .ok ((),v')→Rest B zCaa rest v':=by
 have hm:most=4294967296:=rfl;rcases h with h|⟨n,S,h1,h2,h3,h4,h5⟩
 ·cases h
 unfold zBba at h1;split at h1
 ·rename_i hfx;have hx:=hf x hfx;simp only[List.length_cons,Nat.add_mul,Nat.one_mul]at h5;refine ⟨hx,⟨S,⟨h4,by omega,by omega,λhc=>by rw[hc]at h2; simp at h2⟩,by omega⟩,λv' e=>?_⟩;obtain ⟨i1,i2⟩:=Step.instr hb hc hx S v () v' h4 e;unfold cnt at i2;unfold nest at h1;split at h1
  ·cases h1
  ·rename_i hn
   left
   exact List.isEmpty_iff.mp h1
  ·rename_i n' hn
   right
   refine ⟨n',S+G B,h1,?_,?_,i1,by omega⟩
   ·split at hn
    ·rename_i hop;split at hn
     ·cases hn
     ·injection hn with hn
      rw[←hn,if_pos hop]at *;simp; omega
    ·rename_i hop;rw[if_neg hop]at i2;split at hn
     ·rename_i h5;split at hn
      ·injection hn with hn
       rw[if_neg (by omega)]at i2;rw[←hn,i2,h2]; rfl
      ·cases hn
     ·split at hn
      ·rename_i h11;rw[if_pos h11]at i2;split at hn
       ·cases hn
       ·injection hn with hn
        rw[←hn]at *;simp at h2; omega
      ·rename_i h11;rw[if_neg h11]at i2
       injection hn with hn
       rw[←hn,i2,h2]
   ·split at hn
    ·split at hn
     ·cases hn
     ·injection hn with hn
      rw[←hn];simp; omega
    ·split at hn
     ·split at hn
      ·injection hn with hn
       rw[←hn];simpa using h3
      ·cases hn
     ·split at hn
      ·split at hn
       ·cases hn
       ·injection hn with hn
        rw[←hn];simp at h3; omega
      ·injection hn with hn
       rw[←hn]; exact h3
 ·cases h1
end
end Go.Trm.V
namespace Go.Trm.V
open Go.Trm.G1
def TotP {α:Type} (f:(R:Type)→(α→Option R)→Option R) (φ:α→Prop):Prop:=∃a,φ a∧∀R K,f R K=K a
theorem TotP.ret {α:Type} {φ:α→Prop} (a:α) (h:φ a):TotP (λR (K:α→Option R)=>K a) φ:=⟨a,h,λ_ _=>rfl⟩
theorem TotP.bind {α β:Type} {φ:α→Prop} {ψ:β→Prop} {f:(R:Type)→(α→Option R)→Option R} {g:α→(R:Type)→(β→Option R)→Option R} (h:TotP f φ) (k:∀a,φ a→TotP (g a) ψ):TotP (λR K=>f R (λa=>g a R K)) ψ:=by
 obtain ⟨a,ha,e⟩:=h;obtain ⟨b,hb,e2⟩:=k a ha;exact ⟨b,hb,λR K=>(e R _).trans (e2 R K)⟩
theorem TotP.cond {α:Type} {φ:α→Prop} {f g:(R:Type)→(α→Option R)→Option R} {b:Bool} (h:b=true→TotP f φ) (k:b=false→TotP g φ):TotP (λR K=>cond b (f R K) (g R K)) φ:=by
 cases b with
 |true=>exact h rfl
 |false=>exact k rfl
theorem TotP.mono {α:Type} {φ ψ:α→Prop} {f:(R:Type)→(α→Option R)→Option R} (h:TotP f φ) (k:∀a,φ a→ψ a):TotP f ψ:=by
 obtain ⟨a,ha,e⟩:=h;exact ⟨a,k a ha,e⟩
theorem zT2a (n:Int):∃t:Option (Int×Int×Bool),∀(R:Type) (K:Int→Int→Bool→Bool→Option R),zBea n K=match t with
 |some a=>K a.1 a.2.1 a.2.2 true
 |none=>K 0 0 false false:=by
 have:TotP (λR (K:Int×Int×Bool×Bool→Option R)=>zBea n λa b d e=>K (a,b,d,e)) (λt=>t.2.2.2=false→t.1=0∧t.2.1=0∧t.2.2.1=false):=by
  unfold zBea zbya
  try dsimp only
  repeat first
   |exact ⟨_,(λh=>by first|exact ⟨rfl,rfl,rfl⟩|cases h),λ_ _=>rfl⟩
   |refine TotP.cond (λ_=>?_) (λ_=>?_)
 obtain ⟨⟨a,b,d,z⟩,h2,e⟩:=this;cases z with
 |true=>exact ⟨some (a,b,d),λR K=>e R (λt=>K t.1 t.2.1 t.2.2.1 t.2.2.2)⟩
 |false =>
  obtain ⟨h3,h4,h5⟩:=h2 rfl;simp only at h3 h4 h5;subst h3 h4 h5;exact ⟨none,λR K=>e R (λt=>K t.1 t.2.1 t.2.2.1 t.2.2.2)⟩
noncomputable def accF (n:Int):Option (Int×Int×Bool):=Classical.choose (zT2a n)
theorem zd0a:AccOk accF:=λR n K=>Classical.choose_spec (zT2a n) R K
theorem zi0a (n:Int):∃t:Option (List Int×Int),(∀u,t=some u→u.1.length≤2)∧∀(R:Type) (K:List Int→Int→Bool→Option R),zpea n K=match t with
 |some u=>K u.1 u.2 true
 |none=>K [] 0 false:=by
 have:TotP (λR (K:List Int×Int×Bool→Option R)=>zpea n λa b d=>K (a,b,d)) (λt=>(t.2.2=true→t.1.length≤2)∧(t.2.2=false→t.1=[]∧t.2.1=0)):=by
  unfold zpea zvwa
  try dsimp only
  repeat first
   |exact ⟨_,⟨λ_=>by simp,λh=>by first|exact ⟨rfl,rfl⟩|cases h⟩,λ_ _=>rfl⟩
   |refine TotP.cond (λ_=>?_) (λ_=>?_)
 obtain ⟨⟨a,b,d⟩,⟨h1,h2⟩,e⟩:=this;cases d with
 |true=>exact ⟨some (a,b),(λu hu=>by cases hu; exact h1 rfl),λR K=>e R (λt=>K t.1 t.2.1 t.2.2)⟩
 |false =>
  obtain ⟨h3,h4⟩:=h2 rfl;simp only at h3 h4;subst h3 h4;exact ⟨none,(λu hu=>by cases hu),λR K=>e R (λt=>K t.1 t.2.1 t.2.2)⟩
noncomputable def typF (n:Int):Option (List Int×Int):=Classical.choose (zi0a n)
theorem zEZa:TypOk typF:=⟨λn=>(Classical.choose_spec (zi0a n)).1,λR n K=>(Classical.choose_spec (zi0a n)).2 R K⟩
theorem zi1a (n:Int):TotP (λR (K:Int→Option R)=>zmva n K) (λ_=>True):=by
 have hb:∀a b c:Int,TotP (λR (K:Bool→Option R)=>zada a b c K) (λ_=>True):=by
  intro a b c;unfold zada
  try dsimp only
  exact TotP.cond (λ_=>⟨_,trivial,λ_ _=>rfl⟩) (λ_=>⟨_,trivial,λ_ _=>rfl⟩)
 have hacc:TotP (λR (K:Option (Int×Int×Bool)→Option R)=>K (accF n)) (λ_=>True):=⟨_,trivial,λ_ _=>rfl⟩
 unfold zmva
 try dsimp only
 iterate 47 (refine TotP.cond (λ_=>⟨_,trivial,λ_ _=>rfl⟩) (λ_=>?_))
 have e1:∀(R:Type) (K:Int→Int→Bool→Bool→Option R),zBea n K=match accF n with
  |some a=>K a.1 a.2.1 a.2.2 true
  |none=>K 0 0 false false:=λR K=>zd0a R n K
 have e2:∀(R:Type) (K:List Int→Int→Bool→Option R),zpea n K=match typF n with
  |some u=>K u.1 u.2 true
  |none=>K [] 0 false:=λR K=>zEZa.2 R n K
 simp only[e1,e2];cases accF n with
 |some a=>exact ⟨5,trivial,λ_ _=>rfl⟩
 |none =>
  cases typF n with
  |some u=>exact ⟨1,trivial,λ_ _=>rfl⟩
  |none =>
   simp only[cond_false]
   iterate 5 (refine TotP.bind (hb _ _ _) λ_ _=>TotP.cond (λ_=>⟨_,trivial,λ_ _=>rfl⟩) (λ_=>?_))
   exact ⟨0,trivial,λ_ _=>rfl⟩
theorem zwYa (x:Ins) (a b d:Bool) (q:Bool) (h:q=true→x.2.2.2.2.1.length≤64):TotP (λR (K:Bool→Option R)=>zZba x a b d q K) (λr=>r=true→x.2.2.2.2.1.length≤64):=by
 unfold zZba
 try dsimp only
 have h0:((x.2.2.2.2.1.length:Int)==0)=true→x.2.2.2.2.1.length≤64:=by
  intro h;have:=eq_of_beq h;omega
 repeat first
  |exact ⟨_,h0,λ_ _=>rfl⟩
  |exact ⟨false,(λh=>nomatch h),λ_ _=>rfl⟩
  |exact ⟨true,λ_=>h (by assumption),λ_ _=>rfl⟩
  |refine TotP.cond (λ_=>?_) (λ_=>?_)
theorem zqWa {R:Type} (ls:List Int) (hl:ls.length≤most) (kf:Int→Option R) (kr:Bool→Option R) (hk:∀i:Nat,kf i=kr false):∀n i m:Nat,i+n=ls.length→n≤m→loopN (ztca kf (kr true)) (m+1) ⟨ls,(ls.length:Int),(i:Int)⟩=kr ((ls.drop i).all λa=>decide (0≤a∧a<4294967296)):=by
 have hm:most=4294967296:=rfl;have step:∀rec (i:Nat),i<ls.length→ztca kf (kr true) rec ⟨ls,(ls.length:Int),(i:Int)⟩=if 0≤ls.getD i 0∧ls.getD i 0<4294967296 then rec ⟨ls,(ls.length:Int),((i+1:Nat):Int)⟩ else kr false:=by
  intro rec i hi;unfold ztca zdqa;simp only[zDaa,zkda,Int.toNat_natCast,cond_true];rw[if_pos (by omega),if_pos (by omega),w_i64 (by omega),hk];by_cases q1:ls.getD i 0<0
  ·rw[if_pos q1,if_neg (by omega)]
  ·rw[if_neg q1];by_cases q2:ls.getD i 0≥4294967296
   ·rw[if_pos q2,if_neg (by omega)]
   ·rw[if_neg q2,if_pos (by omega)];rfl
 intro n
 induction n with
 |zero =>
  intro i m h1 h2;rw[zaaa];unfold ztca;simp only[zDaa];rw[if_neg (by omega),List.drop_of_length_le (by omega)];rfl
 |succ n ih =>
  intro i m h1 h2;obtain ⟨m,rfl⟩:∃k,m=k+1:=⟨m-1,by omega⟩
  have:=ih (i+1) m (by omega) (by omega);rw[zaaa,step _ _ (by omega),zhza ls i 0 (by omega),List.all_cons,this];by_cases q:0≤ls.getD i 0∧ls.getD i 0<4294967296
  ·rw[if_pos q,decide_eq_true q,Bool.true_and]
  ·rw[if_neg q,decide_eq_false q,Bool.false_and]
theorem zgya (ls:List Int) (hl:ls.length≤most):TotP (λR (K:Bool→Option R)=>zNea ls K) (λ_=>True):=by
 have hm:most=4294967296:=rfl;refine ⟨ls.all λa=>decide (0≤a∧a<4294967296),trivial,λR K=>?_⟩;obtain ⟨m,hf⟩:=zZva (ls.length+1) (by omega);have e:zpaa=m+ls.length+1:=by omega
 unfold zNea;rw[e];exact zqWa ls hl (λw2=>K (!decide (w2≥0))) K (λi=>by rw[decide_eq_true (by omega)]; rfl) ls.length 0 (m+ls.length) (by omega) (by omega)
theorem zKYa {R:Type} (T:Int→List Int→Option R) (P:Option R) (hT:∀x o,o.length≤10→T x o=P):∀(n m:Nat) (x:Int) (out:List Int),-64≤x→x<64*128 ^ n→out.length+n≤10→n≤m→loopN (znha T) (m+1) ⟨x,out⟩=P:=by
 have hm:most=4294967296:=rfl;intro n
 induction n with
 |zero =>
  intro m x out h1 h2 h3 h4;rw[zaaa];unfold znha;simp only[zDaa];rw[if_neg (by omega),if_neg (by omega)];exact hT x out (by omega)
 |succ n ih =>
  intro m x out h1 h2 h3 h4;obtain ⟨m,rfl⟩:∃k,m=k+1:=⟨m-1,by omega⟩
  rw[zaaa];by_cases q:x>63
  ·have hs:shrI .i64 x 7=x/128:=by
    unfold shrI;rw[Int.fdiv_eq_ediv_of_nonneg _ (by decide)];rfl
   have step:∀rec,∃o:List Int,o.length=out.length+1∧znha T rec ⟨x,out⟩=rec ⟨x/128,o⟩:=by
    intro rec;refine ⟨out++List.set (List.replicate 1 (0:Int)) 0 (IntKind.u8.wrap ((BitVec.ofInt IntKind.u8.bits (IntKind.u8.wrap x) ||| BitVec.ofInt IntKind.u8.bits (128:Int)).toNat)),by simp only[List.length_append,List.length_set,List.length_replicate],?_⟩;unfold znha;simp only[zDaa,hs];rw[if_neg (by omega),if_pos q,if_pos (by simp only[List.length_set,List.length_replicate]; omega),if_pos (by omega)]
   obtain ⟨o,ho,e⟩:=step (loopN (znha T) (m+1));rw[e];refine ih m (x/128) o (by omega) ?_ (by omega) (by omega);rw[Int.pow_succ]at h2;omega
  ·unfold znha;simp only[zDaa];rw[if_neg (by omega),if_neg q];exact hT x out (by omega)
theorem zMKa {R:Type} (x:Int) (h1 : -64≤x) (h2:x<4294967296) (P:Option R):zcqa [] x (λ_=>P)=P:=by
 have hm:most=4294967296:=rfl;unfold zcqa;have e:∀K:List Int→Option R,zcka [] K=K []:=by
  intro K;unfold zcka;have e:(List.replicate 0 (0:Int))=[]:=rfl;simp only[e,List.length_nil,zDaa,List.nil_append];rw[if_pos (by omega)];simp[zKaa]
 rw[e];obtain ⟨m,hf⟩:=zZva 5 (by omega);rw[hf];refine zKYa _ P (λy o ho=>?_) 4 (m+4) x [] h1 (by omega) (by simp) (by omega);simp only[zDaa];rw[if_pos (by simp; omega)]
theorem zzZa (x:Int):TotP (λR (K:Int→Option R)=>zIea [] x (λ_ r=>K r)) (λ_=>True):=by
 unfold zIea zUza;simp only[zoIa,zDaa,znwa];by_cases q1:x = -64
 ·exact ⟨0,trivial,λR K=>by dsimp only; rw[if_pos q1,zMKa x (by omega) (by omega)]⟩
 by_cases q2:x = -1
 ·exact ⟨0,trivial,λR K=>by dsimp only; rw[if_neg q1,if_pos q2,zMKa x (by omega) (by omega)]⟩
 by_cases q3:x = -2
 ·exact ⟨0,trivial,λR K=>by dsimp only; rw[if_neg q1,if_neg q2,if_pos q3,zMKa x (by omega) (by omega)]⟩
 by_cases q4:x≥0
 ·by_cases q5:x<4294967296
  ·exact ⟨0,trivial,λR K=>by dsimp only; rw[if_neg q1,if_neg q2,if_neg q3,if_pos q4,if_pos q5,zMKa x (by omega) (by omega)]⟩
  ·exact ⟨2,trivial,λR K=>by dsimp only; rw[if_neg q1,if_neg q2,if_neg q3,if_pos q4,if_neg q5]⟩
 ·exact ⟨2,trivial,λR K=>by dsimp only; rw[if_neg q1,if_neg q2,if_neg q3,if_neg q4]; rfl⟩
theorem zvMa (x:Ins) (hl:x.2.2.2.2.1.length≤most):TotP (λR (K:Bool→Option R)=>zOea x K) (λr=>r=true→x.2.2.2.2.1.length≤64):=by
 have hm:most=4294967296:=rfl;have bt:=λa b d=>zwYa x a b d false (λh=>by cases h)
 have no:TotP (λR (K:Bool→Option R)=>K false) (λr=>r=true→x.2.2.2.2.1.length≤64):=⟨false,(λh=>nomatch h),λ_ _=>rfl⟩
 unfold zOea;refine TotP.bind (zi1a x.1) λr _=>?_
 try dsimp only
 refine TotP.cond (λ_=>bt _ _ _) (λ_=>?_);refine TotP.cond (λ_=>bt _ _ _) (λ_=>?_);refine TotP.cond (λ_=>bt _ _ _) (λ_=>?_);refine TotP.cond (λ_=>TotP.bind (zzZa x.2.1) λr _=>TotP.cond (λ_=>bt _ _ _) (λ_=>no)) (λ_=>?_);refine TotP.cond (λ_=>TotP.bind (zgya _ (by simp; omega)) λr _=>TotP.cond (λ_=>bt _ _ _) (λ_=>no)) (λ_=>?_);refine TotP.cond (λ_=>TotP.bind (zgya _ (by simp; omega)) λr _=>TotP.cond (λ_=>bt _ _ _) (λ_=>no)) (λ_=>?_);refine TotP.cond (λ_=>TotP.bind (zgya _ (by simp; omega)) λr _=>TotP.cond (λ_=>TotP.bind (zgya _ hl) λr _=>TotP.cond (λ_=>TotP.cond (λh=>zwYa x _ _ _ true (λ_=>?_)) (λ_=>no)) (λ_=>no)) (λ_=>no)) (λ_=>?_)
 ·have:=of_decide_eq_true h;omega
 refine TotP.cond (λ_=>TotP.bind (zgya _ (by simp; omega)) λr _=>TotP.cond (λ_=>bt _ _ _) (λ_=>no)) (λ_=>?_);refine TotP.cond (λ_=>TotP.cond (λ_=>TotP.cond (λ_=>bt _ _ _) (λ_=>no)) (λ_=>no)) (λ_=>?_);exact TotP.cond (λ_=>bt _ _ _) (λ_=>no)
end Go.Trm.V
namespace Go.Trm.V
open Go.Trm.G1
noncomputable def zCaa (x:Ins):Bool:=if h:x.2.2.2.2.1.length≤most then Classical.choose (zvMa x h) else false
theorem zZya (x:Ins) (h:zCaa x=true):x.2.2.2.2.1.length≤64:=by
 unfold zCaa at h;split at h
 ·rename_i hl;exact (Classical.choose_spec (zvMa x hl)).1 h
 ·cases h
theorem zYVa {R:Type} (x:Ins) (h:x.2.2.2.2.1.length≤most) (K:Bool→Option R):zOea x K=K (zCaa x):=by
 have:=(Classical.choose_spec (zvMa x h)).2 R K;unfold zCaa;rw[dif_pos h];exact this
section
variable {R:Type}
theorem zk2a (n:List Bool) (hn:n.length≤64) (x:Ins) (K:Bool→Int→(List Bool×Unit)→Option R):match nest n x with
  | .bad=>∃e s,e≠0∧zica (n.reverse,()) x K=K false e s
  | .over=>zica (n.reverse,()) x K=K true 0 (n.reverse,())
  | .go n'=>zica (n.reverse,()) x K=K false 0 (n'.reverse,()):=by
 have hm:most=4294967296:=rfl;have hw:IntKind.i64.wrap ((n.length:Int)-1)=(n.length:Int)-1:=w_i64 (by omega);have hun:zica (n.reverse,()) x K=if x.1=2∨x.1=3∨x.1=4 then (if (n.length:Int)≥64 then K false 4 (n.reverse,()) else K false 0 ((decide (x.1=4)::n).reverse,())) else if x.1=5 then (zrda (λw26 w27 w28=>K w26 w27 w28) (λw29 w30=>cond (inB w29 (List.length w30.1)) (K false 0 ((List.set w30.1 w29.toNat false),w30.2)) none) ⟨(n.length:Int)-1,(n.reverse,())⟩) else if x.1=11 then (if (n.length:Int)-1<0 then K true 0 (n.reverse,()) else if 0≤(0:Int)∧0≤(n.length:Int)-1∧(n.length:Int)-1≤n.length then K false 0 (rng n.reverse 0 ((n.length:Int)-1),()) else none) else K false 0 (n.reverse,()):=by
  unfold zica zqda;have e4:(x.1==4)=decide (x.1=4):=rfl;have e5:∀b:Bool,n.reverse++List.set (List.replicate 1 false) 0 b=(b::n).reverse:=λb=>by simp[List.replicate]
  simp only[znCa,zDaa,znza,List.length_reverse,hw,List.length_set,List.length_replicate,e4,e5];by_cases h2:x.1=2
  ·rw[if_pos h2,if_pos (Or.inl h2)];by_cases h:(n.length:Int)≥64
   ·rw[if_pos h,if_pos h]
   ·rw[if_neg h,if_neg h,if_pos (by omega)]
  rw[if_neg h2];by_cases h3:x.1=3
  ·rw[if_pos h3,if_pos (Or.inr (Or.inl h3))];by_cases h:(n.length:Int)≥64
   ·rw[if_pos h,if_pos h]
   ·rw[if_neg h,if_neg h,if_pos (by omega)]
  rw[if_neg h3];by_cases h4:x.1=4
  ·rw[if_pos h4,if_pos (Or.inr (Or.inr h4))];by_cases h:(n.length:Int)≥64
   ·rw[if_pos h,if_pos h]
   ·rw[if_neg h,if_neg h,if_pos (by omega)]
  rw[if_neg h4,if_neg (show ¬(x.1=2∨x.1=3∨x.1=4) by omega)]
 rw[hun];unfold nest;by_cases h2:x.1=2∨x.1=3∨x.1=4
 ·rw[if_pos h2,if_pos h2];by_cases h:64≤n.length
  ·rw[if_pos h];exact ⟨4,(n.reverse,()),by omega,by rw[if_pos (by omega)]⟩
  ·rw[if_neg h];dsimp only;rw[if_neg (by omega)]
 rw[if_neg h2,if_neg h2];by_cases h5:x.1=5
 ·rw[if_pos h5,if_pos h5];unfold zrda;simp only[zDaa,zkda,znwa];cases n with
  |nil =>
   dsimp only;exact ⟨2,([].reverse,()),by omega,by rw[if_pos (by simp)]⟩
  |cons b n =>
   have e1:(((b::n).length:Nat):Int)-1=(n.length:Int):=by simp
   have e2:(b::n).reverse.getD n.length false=b:=by
    rw[List.reverse_cons,List.getD_eq_getElem?_getD,List.getElem?_append_right (by simp)];simp
   have e3:List.set (b::n).reverse n.length false=(false::n).reverse:=by
    rw[List.reverse_cons,List.set_append_right _ _ (by simp)];simp
   have e4:(0:Int)≤(n.length:Int)∧(n.length:Int)<(((b::n).reverse.length:Nat):Int):=by simp; omega
   rw[e1];simp only[Int.toNat_natCast,e2,e3,if_pos e4];cases b with
   |true =>
    dsimp only;rw[if_neg (by omega)];rfl
   |false =>
    dsimp only;exact ⟨2,((false::n).reverse,()),by omega,by rw[if_neg (by omega)]; rfl⟩
 rw[if_neg h5,if_neg h5];by_cases h11:x.1=11
 ·rw[if_pos h11,if_pos h11];cases n with
  |nil =>
   dsimp only;rw[if_pos (by simp)]
  |cons b n =>
   dsimp only;have e1:(((b::n).length:Nat):Int)-1=(n.length:Int):=by simp
   rw[e1,if_neg (by omega),if_pos (by simp; omega),zkXa]
 ·rw[if_neg h11,if_neg h11]
theorem zVWa (ls:List Ins) (hl:ls.length≤2000) (hx:∀x∈ls,x.2.2.2.2.1.length≤most) (K:Bool→Option R):∀(rest:List Ins) (i m:Nat) (n:List Bool),ls.drop i=rest→i+rest.length=ls.length→rest.length≤m→n.length≤64→loopN (zsda (λw4=>K w4) (K false)) (m+1) ⟨ls,(n.reverse,()),ls,(ls.length:Int),(i:Int)⟩=K (zBba zCaa rest n):=by
 have hm:most=4294967296:=rfl;intro rest
 induction rest with
 |nil =>
  intro i m n hd hi h hn;simp only[List.length_nil]at hi;rw[zaaa];unfold zsda;simp only[zDaa];rw[if_neg (by omega)];rfl
 |cons x xs ih =>
  intro i m n hd hi h hn;simp only[List.length_cons]at hi h;obtain ⟨m,rfl⟩:∃k,m=k+1:=⟨m-1,by omega⟩
  have hg:ls.getD i (0,0,0,0,[],())=x∧ls.drop (i+1)=xs:=by
   rw[zhza ls i (0,0,0,0,[],()) (by omega)]at hd
   injection hd with a b
   exact ⟨a,b⟩
  have hmem:x∈ls:=by
   have:x∈ls.drop i:=by rw[hd]; exact List.mem_cons_self ..
   exact List.mem_of_mem_drop this
  have step:∀rec,zsda (λw4=>K w4) (K false) rec ⟨ls,(n.reverse,()),ls,(ls.length:Int),(i:Int)⟩=if zCaa x=true then zica (n.reverse,()) x (λr5 r6 b7=>if r6=0 then (cond r5 (K ((i:Int)==(ls.length:Int)-1)) (rec ⟨ls,b7,ls,(ls.length:Int),((i+1:Nat):Int)⟩)) else K false) else K false:=by
   intro rec;unfold zsda;simp only[zDaa,zkda,znwa,zoIa,Int.toNat_natCast];rw[if_pos (by omega),if_pos (by omega),hg.1,zYVa x (hx x hmem),w_i64 (n:=(i:Int)+1) (by omega),w_i64 (n:=(ls.length:Int)-1) (by omega)];cases zCaa x with
   |true=>rfl
   |false=>rfl
  rw[zaaa,step];show _=K (if zCaa x=true then _ else false);by_cases hf:zCaa x=true
  ·rw[if_pos hf,if_pos hf];have hne:=zk2a n hn x (λr5 r6 b7=>if r6=0 then (cond r5 (K ((i:Int)==(ls.length:Int)-1)) (loopN (zsda (λw4=>K w4) (K false)) (m+1) ⟨ls,b7,ls,(ls.length:Int),((i+1:Nat):Int)⟩)) else K false);cases hn2:nest n x with
   |bad =>
    rw[hn2]at hne;obtain ⟨e,s,he,hh⟩:=hne;rw[hh,if_neg he]
   |over =>
    rw[hn2]at hne;dsimp only at hne ⊢;rw[hne,if_pos rfl,cond_true]
    congr 1
    rw[Bool.eq_iff_iff];simp only[beq_iff_eq,List.isEmpty_iff];constructor
    ·intro hq; exact List.eq_nil_of_length_eq_zero (by omega)
    ·intro hq; rw[hq]at hi; simp at hi; omega
   |go n' =>
    rw[hn2]at hne;dsimp only at hne ⊢;rw[hne,if_pos rfl,cond_false];refine ih (i+1) m n' hg.2 (by omega) (by omega) ?_;unfold nest at hn2;split at hn2
    ·split at hn2
     ·cases hn2
     ·injection hn2 with hn2
      rw[←hn2]; simp; omega
    ·split at hn2
     ·split at hn2
      ·injection hn2 with hn2
       rw[←hn2]; simpa using hn
      ·cases hn2
     ·split at hn2
      ·split at hn2
       ·cases hn2
       ·injection hn2 with hn2
        rw[←hn2]; simp at hn; omega
      ·injection hn2 with hn2
       rw[←hn2]; exact hn
  ·rw[if_neg hf,if_neg hf]
theorem zuZa (ls:List Ins) (hx:∀x∈ls,x.2.2.2.2.1.length≤most) (K:Bool→Option R):zMoa ls K=K (zFra zCaa ls):=by
 unfold zMoa zFra;simp only[zDaa];by_cases h:ls.length≤2000
 ·rw[if_neg (by omega),decide_eq_true h,Bool.true_and];obtain ⟨m,hf⟩:=zZva (ls.length+1) (by omega);have e:zpaa=m+ls.length+1:=by omega
  rw[e];exact zVWa ls h hx K ls 0 (m+ls.length) [] rfl (by omega) (by omega) (by simp)
 ·rw[if_pos (by omega),decide_eq_false h,Bool.false_and]
structure Fits (B:Nat) (c:Ctx) (f:Int×List Int×List Ins×Unit):Prop where
 one:1≤B
 ctx:CtxOk B c
 room:2*B+2000*G B≤most
 loc:f.2.1.length+B≤most
 lab:∀x∈f.2.2.1,x.2.2.2.2.1.length≤most
theorem zpza {B:Nat} {c:Ctx} {f:Int×List Int×List Ins×Unit} (h:Fits B c f) (K:Int→Option R):zXaa c f K=K (V.body zCaa accF typF c f):=by
 have hm:most=4294967296:=rfl;have hroom:=h.room;have hB:B≤most:=by omega
 unfold zXaa V.body;simp only[zDaa];by_cases h1:f.1<0
 ·rw[if_pos h1,if_pos (Or.inl h1)]
 rw[if_neg h1];by_cases h2:f.1≥(c.1.length:Int)
 ·rw[if_pos h2,if_pos (Or.inr h2)]
 rw[if_neg h2,if_neg (by omega),zuZa _ h.lab];simp only[znwa];by_cases h3':zFra zCaa f.2.2.1=false
 ·rw[h3',cond_false,if_neg (by simp)]
 have h3:zFra zCaa f.2.2.1=true:=by simpa using h3'
 rw[if_pos h3,h3,cond_true,zkda,if_pos (by omega)];have hg:=zQwa h.ctx f.1.toNat;have hv:List.set (List.set (List.replicate 2 ([]:List Int)) 0 (c.1.getD f.1.toNat ([],[],())).1) 1 f.2.1=[(c.1.getD f.1.toNat ([],[],())).1,f.2.1]:=rfl;have hl:=h.loc;rw[hv,ztZa _ _ (by omega)];have he:=zvVa (R:=R) (c:=c) (l:=(c.1.getD f.1.toNat ([],[],())).1++f.2.1) ([],[]) 2 [] (c.1.getD f.1.toNat ([],[],())).2.1 (by simp) (by simp; omega);have e0:(c,((c.1.getD f.1.toNat ([],[],())).1++f.2.1,(([]:List Int),(([]:List Blk),()))))=emb c ((c.1.getD f.1.toNat ([],[],())).1++f.2.1) ([],[]):=rfl;rw[e0,he];unfold zFra at h3;rw[Bool.and_eq_true]at h3;have hlen:=of_decide_eq_true h3.1;have:=zR0a (c:=c) (l:=(c.1.getD f.1.toNat ([],[],())).1++f.2.1) (0,0,0,0,[],()) (zxwa (λy12 (_:Int)=>K y12) (λ_=>K (0:Int))) (λi s=>⟨(0:Int),s,f.2.2.1,(f.2.2.1.length:Int),i⟩) (λx s K Kp=>zSaa s x K Kp) (instr accF typF c ((c.1.getD f.1.toNat ([],[],())).1++f.2.1)) (run accF typF c ((c.1.getD f.1.toNat ([],[],())).1++f.2.1)) rfl (λ_ _=>rfl)
  (λy _=>K y) (λ_=>K 0) f.2.2.1 (by omega) (λrec i s=>rfl) (Rest B zCaa)
  (λx rest v hr=>by
   obtain ⟨r1,⟨S,r2,r3⟩,r4⟩:=Rest.step (l:=(c.1.getD f.1.toNat ([],[],())).1++f.2.1) zZya (acc:=accF) (typ:=typF) h.one h.ctx hr;exact ⟨zj3a zd0a zEZa h.one h.ctx hB x r1 S v r2 r3,r4⟩)
  ([],[(2,[],(c.1.getD f.1.toNat ([],[],())).2.1,0,false,())])
  (Or.inr ⟨[],0,h3.2,rfl,by simp,⟨⟨by simp,by simp,trivial⟩,by simp,by
   intro b hb;rw[List.mem_singleton]at hb;subst hb;exact ⟨by simp,hg.2⟩⟩,by
   have:f.2.2.1.length*G B≤2000*G B:=Nat.mul_le_mul_right _ hlen;omega⟩)
 dsimp only at this ⊢;cases hr:run accF typF c ((c.1.getD f.1.toNat ([],[],())).1++f.2.1) f.2.2.1 ([],[(2,[],(c.1.getD f.1.toNat ([],[],())).2.1,0,false,())]) with
 |ok q=>rw[hr]at this; exact this
 |error e =>
  rw[hr]at this;obtain ⟨k,this⟩:=this;exact this
end
end Go.Trm.V
namespace Go.Trm.V
def ble (b b':Blk):Prop:=b'.1=b.1∧b'.2.1=b.2.1∧b'.2.2.1=b.2.2.1∧b'.2.2.2.1=b.2.2.2.1∧(b.2.2.2.2.1=true→b'.2.2.2.2.1=true)
theorem zz1a (b:Blk):ble b b:=⟨rfl,rfl,rfl,rfl,id⟩
def le2:List Blk→List Blk→Prop
 |[],[]=>True
 |b::o,b'::o'=>ble b b'∧le2 o o'
 |_,_=>False
theorem zWPa:∀o:List Blk,le2 o o
 |[]=>trivial
 |b::o=>⟨zz1a b,zWPa o⟩
theorem zLXa:∀ {o o':List Blk},le2 o o'→o'.length=o.length
 |[],[],_=>rfl
 |_::_,_::_,h=>by simp only[List.length_cons]; rw[zLXa h.2]
 |[],_::_,h=>h.elim
 |_::_,[],h=>h.elim
def bot (res:List Int):List Blk→Prop
 |[]=>True
 |[b]=>b.1≠4∧b.2.2.1=res∧b.2.2.2.1=0
 |_::b::o=>bot res (b::o)
theorem zyVa {res:List Int} {b:Blk} {o:List Blk} (h:bot res o) (hb:o=[]→b.1≠4∧b.2.2.1=res∧b.2.2.2.1=0):bot res (b::o):=by
 cases o with
 |nil=>exact hb rfl
 |cons=>exact h
theorem zrYa {res:List Int} {b:Blk} {o:List Blk} (h:bot res (b::o)):bot res o∧(o=[]→b.1≠4∧b.2.2.1=res∧b.2.2.2.1=0):=by
 cases o with
 |nil=>exact ⟨trivial,λ_=>h⟩
 |cons=>exact ⟨h,λe=>by cases e⟩
structure Rel0 (e:List Blk) (res:List Int) (v v':VS):Prop where
 st:v'.1=v.1
 bl:∃o',v'.2=o'++e∧le2 v.2 o'
 bot:bot res v.2
structure Rel (e:List Blk) (res:List Int) (v v':VS):Prop extends Rel0 e res v v' where
 ne:v.2≠[]
def SR (e:List Blk) (res:List Int) {α:Type} (f f':M α) (ρ:α→α→Prop):Prop:=∀v v' a w,Rel e res v v'→f v = .ok (a,w)→∃a' w',f' v' = .ok (a',w')∧ρ a a'∧Rel e res w w'
section
variable {e:List Blk} {res:List Int}
theorem SR.ret {α:Type} {ρ:α→α→Prop} {a a':α} (h:ρ a a'):SR e res (ret a) (V.ret a') ρ:=by
 intro v v' b w hr hf;cases hf;exact ⟨a',v',rfl,h,hr⟩
theorem SR.bind {α β:Type} {ρ:α→α→Prop} {σ:β→β→Prop} {f f':M α} {g g':α→M β} (h:SR e res f f' ρ) (k:∀a a',ρ a a'→SR e res (g a) (g' a') σ):SR e res (V.bind f g) (V.bind f' g') σ:=by
 intro v v' b w hr hf;obtain ⟨a,v1,e1,e2⟩:=znga hf;obtain ⟨a',w1,e3,h3,r3⟩:=h v v' a v1 hr e1;obtain ⟨b',w2,e4,h4,r4⟩:=k a a' h3 v1 w1 b w r3 e2;refine ⟨b',w2,?_,h4,r4⟩;unfold V.bind;rw[e3];exact e4
theorem SR.want {b b':Bool} {n:Int} (h:b=true→b'=true):SR e res (want b n) (V.want b' n) Eq:=by
 intro v v' u w hr hf;unfold V.want at hf ⊢;split at hf
 ·rename_i hb;cases hf;exact ⟨(),v',by rw[if_pos (h hb)],rfl,hr⟩
 ·cases hf
theorem SR.has {n m m':Int} (h:m≤m'):SR e res (has n m) (V.has n m') Eq:=SR.want λhb=>decide_eq_true (by have:=of_decide_eq_true hb; omega)
theorem SR.fails {α:Type} {n:Int} {f:M α} {ρ:α→α→Prop}:SR e res (fails n) f ρ:=λ_ _ _ _ _ h=>by cases h
theorem Rel.top {s:List Int} {b:Blk} {o:List Blk} {v':VS} (h:Rel e res (s,b::o) v'):∃b' o',v'=(s,b'::(o'++e))∧ble b b'∧le2 o o':=by
 obtain ⟨⟨h1,⟨o',h2,h3⟩,h4⟩,h5⟩:=h;cases o' with
 |nil=>exact h3.elim
 |cons b' o'=>exact ⟨b',o',Prod.ext h1 h2,h3.1,h3.2⟩
theorem SR.pop (t:Int):SR e res (pop t) (V.pop t) Eq:=by
 intro v v' a w hr hf;obtain ⟨s,o⟩:=v;cases o with
 |nil=>exact absurd rfl hr.ne
 |cons b o =>
  obtain ⟨b',o',rfl,hb,ho⟩:=hr.top;unfold V.pop at hf ⊢;dsimp only at hf ⊢;rw[hb.2.2.2.1];split at hf
  ·rename_i h1;split at hf
   ·rename_i h2;cases hf;exact ⟨0,(s,b'::(o'++e)),by rw[if_pos h1,if_pos (hb.2.2.2.2 h2)],rfl,hr⟩
   ·cases hf
  ·rename_i h1;cases s with
   |nil=>cases hf
   |cons x s =>
    dsimp only at hf ⊢;split at hf
    ·rename_i h2;cases hf;exact ⟨_,(s,b'::(o'++e)),by rw[if_neg h1,if_pos h2],rfl,⟨⟨rfl,⟨b'::o',rfl,hb,ho⟩,hr.bot⟩,by simp⟩⟩
    ·cases hf
theorem SR.popsR:∀l:List Int,SR e res (popsR l) (V.popsR l) Eq
 |[]=>SR.ret rfl
 |t::ts=>(SR.pop t).bind λx x' hx=>(SR.popsR ts).bind λy y' hy=>by subst hx hy; exact SR.ret rfl
theorem SR.pops (l:List Int):SR e res (pops l) (V.pops l) Eq:=(SR.popsR _).bind λx x' hx=>by subst hx; exact SR.ret rfl
theorem SR.push (l:List Int):SR e res (push l) (V.push l) Eq:=by
 intro v v' a w hr hf;cases hf;obtain ⟨⟨h1,h2,h3⟩,h4⟩:=hr;exact ⟨(),_,rfl,rfl,⟨⟨by dsimp only; rw[h1],h2,h3⟩,h4⟩⟩
theorem SR.does (l r:List Int):SR e res (does l r) (V.does l r) Eq:=(SR.pops l).bind λ_ _ _=>SR.push r
theorem SR.enter (op:Int) (l r:List Int):SR e res (enter op l r) (V.enter op l r) Eq:=by
 intro v v' a w hr hf;cases hf;obtain ⟨⟨h1,⟨o',h2,h3⟩,h4⟩,h5⟩:=hr;refine ⟨(),_,rfl,rfl,⟨⟨by dsimp only; rw[h1],⟨(op,l,r,(v'.1.length:Int),false,())::o',by dsimp only; rw[h2]; rfl,⟨rfl,rfl,rfl,by dsimp only; rw[h1],id⟩,h3⟩,?_⟩,by simp⟩⟩;dsimp only;exact zyVa h4 λhc=>absurd hc h5
theorem SR.dead:SR e res dead V.dead Eq:=by
 intro v v' a w hr hf;obtain ⟨s,o⟩:=v;cases o with
 |nil=>exact absurd rfl hr.ne
 |cons b o =>
  obtain ⟨b',o',rfl,hb,ho⟩:=hr.top;unfold V.dead at hf ⊢;dsimp only at hf ⊢;cases hf;have hbot:=zrYa hr.bot;refine ⟨(),_,rfl,rfl,⟨⟨by dsimp only; rw[hb.2.2.2.1],⟨(b'.1,b'.2.1,b'.2.2.1,b'.2.2.2.1,true,())::o',rfl,⟨hb.1,hb.2.1,hb.2.2.1,hb.2.2.2.1,λ_=>rfl⟩,ho⟩,?_⟩,by simp⟩⟩;exact zyVa hbot.1 hbot.2
theorem zA2a {b b':Blk} (h:ble b b'):lab b'=lab b:=by
 unfold lab;rw[h.1,h.2.1,h.2.2.1]
theorem zTZa:∀ {o o':List Blk},le2 o o'→∀(n:Nat) (d:Blk) (e:List Blk),n<o.length→ble (o.getD n d) ((o'++e).getD n d)
 |[],[],_,n,_,_,h=>absurd h (Nat.not_lt_zero _)
 |b::o,b'::o',hl,0,d,e,h=>hl.1
 |b::o,b'::o',hl,n+1,d,e,h=>by
  have:=zTZa hl.2 n d e (by simpa using h);simpa using this
 |[],_::_,h,_,_,_,_=>h.elim
 |_::_,[],h,_,_,_,_=>h.elim
theorem SR.label (n:Int):SR e res (label n) (V.label n) Eq:=by
 intro v v' a w hr hf;unfold V.label at hf ⊢;split at hf
 ·rename_i h;cases hf;obtain ⟨o',h2,h3⟩:=hr.bl;have hl:=zLXa h3;refine ⟨_,v',by rw[if_pos ⟨h.1,by rw[h2,List.length_append]; omega⟩],?_,hr⟩;rw[h2];exact (zA2a (zTZa h3 _ _ _ (by omega))).symm
 ·cases hf
theorem SR.labelsEach:∀l:List Int,SR e res (zMba l) (V.zMba l) Eq
 |[]=>SR.ret rfl
 |n::l=>(SR.label n).bind λ_ _ _=>SR.labelsEach l
theorem SR.popsEach (k:Nat):∀l:List Int,SR e res (zoea k l) (V.zoea k l) Eq
 |[]=>SR.ret rfl
 |n::l=>(SR.label n).bind λt t' ht=>by
  subst ht;exact (SR.want id).bind λ_ _ _=>(SR.pops t).bind λr r' hr=>by
   subst hr;exact (SR.push r).bind λ_ _ _=>SR.popsEach k l
theorem SR.table (x:Ins):SR e res (table x) (V.table x) Eq:=(SR.label _).bind λa a' ha=>by
 subst ha;exact (SR.labelsEach _).bind λ_ _ _=>(SR.pop 127).bind λ_ _ _=>(SR.popsEach _ _).bind λ_ _ _=>(SR.pops a).bind λ_ _ _=>SR.dead
def Below (res:List Int) (e:List Blk):Prop:=∀b,e.getLast?=some b→b.2.2.1=res
theorem zsYa {res:List Int}:∀ {o:List Blk} {b:Blk},bot res o→o.getLast?=some b→b.2.2.1=res
 |[],_,_,h=>by cases h
 |[b],c,hb,h=>by cases h; exact hb.2.1
 |_::b::o,c,hb,h=>zsYa (o:=b::o) hb (by rw[List.getLast?_cons_cons]at h; exact h)
theorem zMXa:∀ {o o':List Blk},le2 o o'→∀b',o'.getLast?=some b'→∃b,o.getLast?=some b∧ble b b'
 |[],[],_,_,h=>by cases h
 |[b],[b'],hl,c,h=>by cases h; exact ⟨b,rfl,hl.1⟩
 |b::b2::o,b'::b2'::o',hl,c,h=>by
  rw[List.getLast?_cons_cons]at h ⊢;exact zMXa hl.2 c h
 |[b],b'::b2'::o',hl,_,_=>hl.2.elim
 |b::b2::o,[b'],hl,_,_=>hl.2.elim
 |[],_::_,h,_,_=>h.elim
 |_::_,[],h,_,_=>h.elim
theorem SR.retn (hb:Below res e):SR e res retn V.retn Eq:=by
 intro v v' a w hr hf;unfold V.retn at hf;split at hf
 ·cases hf
 ·rename_i b hbl;obtain ⟨o',h2,h3⟩:=hr.bl;have hres:=zsYa hr.bot hbl;have:∃b',v'.2.getLast?=some b'∧b'.2.2.1=res:=by
   rw[h2];cases he:e.getLast? with
   |some c=>exact ⟨c,by rw[List.getLast?_append,he]; rfl,hb c he⟩
   |none =>
    have hen:e=[]:=List.getLast?_eq_none_iff.mp he;subst hen;rw[List.append_nil];cases ho:o'.getLast? with
    |none =>
     have:=List.getLast?_eq_none_iff.mp ho;subst this;have hl:=zLXa h3;exact absurd (List.eq_nil_of_length_eq_zero hl.symm) hr.ne
    |some c =>
     obtain ⟨d,hd,hdc⟩:=zMXa h3 c ho;rw[hbl]at hd;cases hd;exact ⟨c,rfl,by rw[hdc.2.2.1,hres]⟩
  obtain ⟨b',e1,e2⟩:=this;unfold V.retn;rw[e1];dsimp only;rw[e2];rw[hres]at hf;exact ((SR.pops res).bind λ_ _ _=>SR.dead) v v' a w hr hf
theorem zx2a {v v' w:VS} {b:Blk} (hr:Rel e res v v') (hf:leave v = .ok (b,w)):∃b' w',leave v' = .ok (b',w')∧ble b b'∧Rel0 e res w w'∧(w.2=[]→b.1≠4∧b.2.2.1=res∧w.1.length=0):=by
 obtain ⟨s,o⟩:=v;cases o with
 |nil=>exact absurd rfl hr.ne
 |cons c o =>
  obtain ⟨c',o',rfl,hb,ho⟩:=hr.top;have hf':V.bind (pops c.2.2.1) (λ_ v=>if (v.1.length:Int)=c.2.2.2.1 then .ok (c,(v.1,v.2.tail)) else .error 6) (s,c::o) = .ok (b,w):=hf;obtain ⟨a,v1,e1,e2⟩:=znga hf';obtain ⟨a',w1,e3,_,r3⟩:=SR.pops c.2.2.1 (s,c::o) _ a v1 hr e1;split at e2
  ·rename_i hl;cases e2;have q1:v1.2=b::o:=by
    have:∀(ts:List Int) (v:VS) a w,popsR ts v = .ok (a,w)→w.2=v.2:=by
     intro ts
     induction ts with
     |nil=>intro v a w h; cases h; rfl
     |cons t ts ih =>
      intro v a w h;obtain ⟨x,v2,h1,h2⟩:=znga h;obtain ⟨y,v3,h3,h4⟩:=znga h2;cases h4;rw[ih _ _ _ h3];unfold V.pop at h1;split at h1
      ·cases h1
      ·split at h1
       ·split at h1
        ·cases h1; rfl
        ·cases h1
       ·split at h1
        ·cases h1
        ·split at h1
         ·cases h1; rfl
         ·cases h1
    obtain ⟨x,v2,h1,h2⟩:=znga e1;cases h2;exact this _ _ _ _ h1
   obtain ⟨s1,o1⟩:=v1;dsimp only at q1;subst q1;obtain ⟨c2,o2,rfl,hb2,ho2⟩:=r3.top;have hbot:=zrYa r3.bot;have q2:c2::(o2++e)=c'::(o'++e):=by
    have:∀(ts:List Int) (v:VS) a w,popsR ts v = .ok (a,w)→w.2=v.2:=by
     intro ts
     induction ts with
     |nil=>intro v a w h; cases h; rfl
     |cons t ts ih =>
      intro v a w h;obtain ⟨x,v2,h1,h2⟩:=znga h;obtain ⟨y,v3,h3,h4⟩:=znga h2;cases h4;rw[ih _ _ _ h3];unfold V.pop at h1;split at h1
      ·cases h1
      ·split at h1
       ·split at h1
        ·cases h1; rfl
        ·cases h1
       ·split at h1
        ·cases h1
        ·split at h1
         ·cases h1; rfl
         ·cases h1
    obtain ⟨x,v2,h1,h2⟩:=znga e3;cases h2;exact this _ _ _ _ h1
   injection q2 with q3 q4
   subst q3;refine ⟨c2,(s1,o2++e),?_,hb,⟨rfl,⟨o2,rfl,ho2⟩,hbot.1⟩,λhc=>?_⟩
   ·show V.bind (pops c2.2.2.1) (λ_ v=>if (v.1.length:Int)=c2.2.2.2.1 then .ok (c2,(v.1,v.2.tail)) else .error 6) (s,c2::(o'++e))=_;rw[hb.2.2.1];unfold V.bind;rw[e3];dsimp only;rw[hb.2.2.2.1,if_pos hl];rfl
   ·dsimp only[List.tail]at hc;have:=hbot.2 hc;refine ⟨this.1,this.2.1,?_⟩;dsimp only;dsimp only at hl;omega
  ·cases e2
end
end Go.Trm.V
namespace Go.Trm.V
structure Ext (c c':Ctx):Prop where
 fn:c.1.length≤c'.1.length
 fnG:∀i d,i<c.1.length→c'.1.getD i d=c.1.getD i d
 ty:c.2.1.length≤c'.2.1.length
 tyG:∀i d,i<c.2.1.length→c'.2.1.getD i d=c.2.1.getD i d
 gl:c.2.2.1.length≤c'.2.2.1.length
 glG:∀i d,i<c.2.2.1.length→c'.2.2.1.getD i d=c.2.2.1.getD i d
 tab:c.2.2.2.1.length≤c'.2.2.2.1.length
 mem:c.2.2.2.2.1.length≤c'.2.2.2.2.1.length
 el:c.2.2.2.2.2.2.2.1≤c'.2.2.2.2.2.2.2.1
 da:c.2.2.2.2.2.2.2.2.1≤c'.2.2.2.2.2.2.2.2.1
 fl:c.2.2.2.2.2.2.2.2.2.1=true→c'.2.2.2.2.2.2.2.2.2.1=true
theorem Ext.refl (c:Ctx):Ext c c:=⟨Nat.le_refl _,λ_ _ _=>rfl,Nat.le_refl _,λ_ _ _=>rfl,Nat.le_refl _,λ_ _ _=>rfl,Nat.le_refl _,Nat.le_refl _,Int.le_refl _,Int.le_refl _,id⟩
theorem Ext.block {c c':Ctx} (h:Ext c c') {t:Int} {u:FT} (e:zrHa c t=some u):zrHa c' t=some u:=by
 unfold zrHa at e ⊢;split at e
 ·rename_i q; rw[if_pos q]; exact e
 rename_i q1;rw[if_neg q1];split at e
 ·rename_i q; rw[if_pos q]; exact e
 rename_i q2;rw[if_neg q2];split at e
 ·rename_i q; rw[if_pos q]; exact e
 rename_i q3;rw[if_neg q3];split at e
 ·rename_i q;have:=h.fn;rw[if_pos ⟨q.1,by omega⟩,h.fnG _ _ (by omega)];exact e
 ·cases e
theorem Ext.typ {c c':Ctx} (h:Ext c c') {f:Int} {u:FT} (e:typeT c f=some u):typeT c' f=some u:=by
 unfold typeT at e ⊢;have h1:=h.fn;have h2:=h.ty;split at e
 ·rename_i q;rw[if_pos ⟨q.1,by omega⟩,h.tyG _ _ (by omega)];split at e
  ·rename_i q2;rw[if_pos ⟨q2.1,by omega⟩,h.fnG _ _ (by omega)];exact e
  ·cases e
 ·cases e
section
variable {e:List Blk} {res:List Int} {c c':Ctx}
theorem SR.hasB {α:Type} {ρ:α→α→Prop} {n m m':Int} {g g':M α} (h:m≤m') (k:0≤n∧n<m→SR e res g g' ρ):SR e res (V.bind (V.has n m) λ_=>g) (V.bind (V.has n m') λ_=>g') ρ:=by
 intro v v' a w hr hf;obtain ⟨u,v1,e1,e2⟩:=znga hf;unfold V.has V.want at e1;split at e1
 ·rename_i hb;cases e1;have hb':=of_decide_eq_true hb;obtain ⟨a',w',e3,e4,e5⟩:=k hb' v v' a w hr e2;refine ⟨a',w',?_,e4,e5⟩;unfold V.bind V.has V.want;rw[if_pos (decide_eq_true (show 0≤n∧n<m' by omega))];exact e3
 ·cases e1
theorem SR.wantB {α:Type} {ρ:α→α→Prop} {b b':Bool} {n:Int} {g g':M α} (h:b=true→b'=true) (k:SR e res g g' ρ):SR e res (V.bind (V.want b n) λ_=>g) (V.bind (V.want b' n) λ_=>g') ρ:=(SR.want h).bind λ_ _ _=>k
theorem SR.block (hE:Ext c c') (x:Ins):SR e res (V.block c x) (V.block c' x) Eq:=by
 unfold V.block;cases h:zrHa c x.2.1 with
 |none=>exact SR.fails
 |some t =>
  rw[hE.block h];dsimp only;refine SR.bind (ρ:=Eq) ?_ λ_ _ _=>(SR.pops t.1).bind λ_ _ _=>SR.enter _ _ _
  split
  ·exact (SR.pop 127).bind λ_ _ _=>SR.ret rfl
  ·exact SR.ret rfl
theorem popD (t:Int):SR e res (V.bind (V.pop t) λ_=>V.ret ()) (V.bind (V.pop t) λ_=>V.ret ()) Eq:=(SR.pop t).bind λ_ _ _=>SR.ret rfl
theorem pop3D:SR e res (V.bind (V.pops three) λ_=>V.ret ()) (V.bind (V.pops three) λ_=>V.ret ()) Eq:=(SR.pops three).bind λ_ _ _=>SR.ret rfl
theorem ctlR (hE:Ext c c') (hb:Below res e) (x:Ins) (h5:x.1≠5) (h11:x.1≠11):match ctl c x with
  |some m=>∃m',ctl c' x=some m'∧SR e res m m' Eq
  |none=>ctl c' x=none:=by
 unfold ctl;by_cases h0:x.1=0
 ·rw[if_pos h0,if_pos h0]; exact ⟨_,rfl,SR.dead⟩
 rw[if_neg h0,if_neg h0];by_cases h1:x.1=1
 ·rw[if_pos h1,if_pos h1]; exact ⟨_,rfl,SR.ret rfl⟩
 rw[if_neg h1,if_neg h1];by_cases h2:x.1=2∨x.1=3∨x.1=4
 ·rw[if_pos h2,if_pos h2]; exact ⟨_,rfl,SR.block hE x⟩
 rw[if_neg h2,if_neg h2,if_neg h5,if_neg h5,if_neg h11,if_neg h11];by_cases h12:x.1=12
 ·rw[if_pos h12,if_pos h12]; exact ⟨_,rfl,(SR.label _).bind λa a' ha=>by subst ha; exact (SR.pops a).bind λ_ _ _=>SR.dead⟩
 rw[if_neg h12,if_neg h12];by_cases h13:x.1=13
 ·rw[if_pos h13,if_pos h13]; exact ⟨_,rfl,(SR.label _).bind λa a' ha=>by subst ha; exact (SR.pop 127).bind λ_ _ _=>SR.does a a⟩
 rw[if_neg h13,if_neg h13];by_cases h14:x.1=14
 ·rw[if_pos h14,if_pos h14]; exact ⟨_,rfl,SR.table x⟩
 rw[if_neg h14,if_neg h14];by_cases h15:x.1=15
 ·rw[if_pos h15,if_pos h15]; exact ⟨_,rfl,SR.retn hb⟩
 rw[if_neg h15,if_neg h15];by_cases h16:x.1=16
 ·rw[if_pos h16,if_pos h16];refine ⟨_,rfl,?_⟩;cases ht:typeT c x.2.1 with
  |none=>exact SR.fails
  |some t=>rw[hE.typ ht]; exact SR.does _ _
 rw[if_neg h16,if_neg h16];by_cases h17:x.1=17
 ·rw[if_pos h17,if_pos h17];have a1:=hE.fn;have a2:=hE.tab;refine ⟨_,rfl,SR.hasB (by omega) λq=>?_⟩;rw[hE.fnG _ _ (by omega)];exact SR.hasB (by omega) λ_=>(SR.pop 127).bind λ_ _ _=>SR.does _ _
 rw[if_neg h17,if_neg h17]
theorem variR (hE:Ext c c') (l:List Int) (x:Ins):match vari c l x with
  |some m=>∃m',vari c' l x=some m'∧SR e res m m' Eq
  |none=>vari c' l x=none:=by
 unfold vari;by_cases h0:x.1=26
 ·rw[if_pos h0,if_pos h0]; exact ⟨_,rfl,popD 0⟩
 rw[if_neg h0,if_neg h0];by_cases h1:x.1=27
 ·rw[if_pos h1,if_pos h1];exact ⟨_,rfl,(SR.pop 127).bind λ_ _ _=>(SR.pop 0).bind λa a' ha=>by subst ha; exact (SR.pop a).bind λb b' hb=>by subst hb; exact SR.push _⟩
 rw[if_neg h1,if_neg h1];by_cases h2:x.1=32
 ·rw[if_pos h2,if_pos h2]; exact ⟨_,rfl,SR.hasB (Int.le_refl _) λ_=>SR.push _⟩
 rw[if_neg h2,if_neg h2];by_cases h3:x.1=33
 ·rw[if_pos h3,if_pos h3]; exact ⟨_,rfl,SR.hasB (Int.le_refl _) λ_=>popD _⟩
 rw[if_neg h3,if_neg h3];by_cases h4:x.1=34
 ·rw[if_pos h4,if_pos h4]; exact ⟨_,rfl,SR.hasB (Int.le_refl _) λ_=>(SR.pop _).bind λ_ _ _=>SR.push _⟩
 rw[if_neg h4,if_neg h4];have hg:=hE.gl;by_cases h5:x.1=35
 ·rw[if_pos h5,if_pos h5];exact ⟨_,rfl,SR.hasB (by omega) λq=>by rw[hE.glG _ _ (by omega)]; exact SR.push _⟩
 rw[if_neg h5,if_neg h5];by_cases h6:x.1=36
 ·rw[if_pos h6,if_pos h6];exact ⟨_,rfl,SR.hasB (by omega) λq=>by rw[hE.glG _ _ (by omega)]; exact SR.wantB id (popD _)⟩
 rw[if_neg h6,if_neg h6];by_cases h7:x.1=65
 ·rw[if_pos h7]; exact ⟨_,rfl,SR.push _⟩
 rw[if_neg h7];by_cases h8:x.1=66
 ·rw[if_pos h8]; exact ⟨_,rfl,SR.push _⟩
 rw[if_neg h8]
theorem segR (hE:Ext c c') (n:Int):SR e res (zRxa c n) (zRxa c' n) Eq:=SR.wantB hE.fl (SR.has hE.da)
theorem memoR (hE:Ext c c') (acc:Int→Option (Int×Int×Bool)) (x:Ins):match memo acc c x with
  |some m=>∃m',memo acc c' x=some m'∧SR e res m m' Eq
  |none=>memo acc c' x=none:=by
 have hm:=hE.mem;have ht:=hE.tab;have he:=hE.el;unfold memo;cases ha:acc x.1 with
 |some a =>
  refine ⟨_,rfl,SR.hasB (by omega) λ_=>SR.wantB id ?_⟩;split
  ·exact SR.does _ _
  ·exact SR.does _ _
 |none =>
  dsimp only;by_cases h0:x.1=63
  ·rw[if_pos h0,if_pos h0]; exact ⟨_,rfl,SR.hasB (by omega) λ_=>SR.push _⟩
  rw[if_neg h0,if_neg h0];by_cases h1:x.1=64
  ·rw[if_pos h1,if_pos h1]; exact ⟨_,rfl,SR.hasB (by omega) λ_=>SR.does _ _⟩
  rw[if_neg h1,if_neg h1];by_cases h2:x.1=264
  ·rw[if_pos h2,if_pos h2]; exact ⟨_,rfl,SR.hasB (by omega) λ_=>(segR hE _).bind λ_ _ _=>pop3D⟩
  rw[if_neg h2,if_neg h2];by_cases h3:x.1=266
  ·rw[if_pos h3,if_pos h3]; exact ⟨_,rfl,SR.hasB (by omega) λ_=>pop3D⟩
  rw[if_neg h3,if_neg h3];by_cases h4:x.1=267
  ·rw[if_pos h4,if_pos h4]; exact ⟨_,rfl,SR.hasB (by omega) λ_=>pop3D⟩
  rw[if_neg h4,if_neg h4];by_cases h5:x.1=265
  ·rw[if_pos h5,if_pos h5]; exact ⟨_,rfl,segR hE _⟩
  rw[if_neg h5,if_neg h5];by_cases h6:x.1=268
  ·rw[if_pos h6,if_pos h6]; exact ⟨_,rfl,SR.hasB he λ_=>SR.hasB (by omega) λ_=>pop3D⟩
  rw[if_neg h6,if_neg h6];by_cases h7:x.1=270
  ·rw[if_pos h7,if_pos h7]; exact ⟨_,rfl,SR.hasB (by omega) λ_=>SR.hasB (by omega) λ_=>pop3D⟩
  rw[if_neg h7,if_neg h7];by_cases h8:x.1=269
  ·rw[if_pos h8,if_pos h8]; exact ⟨_,rfl,SR.has he⟩
  rw[if_neg h8,if_neg h8]
theorem zD2a {acc:Int→Option (Int×Int×Bool)} {typ:Int→Option (List Int×Int)} {l:List Int} (hE:Ext c c') (hb:Below res e) {x:Ins} {v v' w:VS} (hr:Rel e res v v') (hf:instr acc typ c l x v = .ok ((),w)):∃w',instr acc typ c' l x v' = .ok ((),w')∧Rel0 e res w w'∧(w.2=[]→x.1=11∧w.1=res.reverse):=by
 have key:∀ {m m':M Unit},SR e res m m' Eq→m v = .ok ((),w)→∃w',m' v' = .ok ((),w')∧Rel0 e res w w'∧(w.2=[]→x.1=11∧w.1=res.reverse):=by
  intro m m' h h2;obtain ⟨a',w',e1,_,e3⟩:=h v v' () w hr h2;exact ⟨w',e1,e3.toRel0,λhc=>absurd hc e3.ne⟩
 by_cases h5:x.1=5
 ·have e1:∀c,instr acc typ c l x=V.bind V.leave λb=>V.enter 5 b.2.1 b.2.2.1:=by
   intro c;unfold instr ctl;rw[if_neg (by omega),if_neg (by omega),if_neg (by omega),if_pos h5]
  rw[e1]at hf ⊢;obtain ⟨b,v1,h1,h2⟩:=znga hf;cases h2;obtain ⟨b',w1,e2,e3,e4,e5⟩:=zx2a hr h1;refine ⟨(b'.2.1.reverse++w1.1,(5,b'.2.1,b'.2.2.1,(w1.1.length:Int),false,())::w1.2),?_,⟨by dsimp only; rw[e3.2.1,e4.st],?_,?_⟩,λhc=>by cases hc⟩
  ·unfold V.bind;rw[e2];rfl
  ·obtain ⟨o',q1,q2⟩:=e4.bl;exact ⟨(5,b'.2.1,b'.2.2.1,(w1.1.length:Int),false,())::o',by dsimp only; rw[q1]; rfl,⟨rfl,e3.2.1,e3.2.2.1,by dsimp only; rw[e4.st],id⟩,q2⟩
  ·dsimp only;refine zyVa e4.bot λhc=>?_
   have:=e5 hc;exact ⟨by simp,this.2.1,by dsimp only; omega⟩
 by_cases h11:x.1=11
 ·have e1:∀c,instr acc typ c l x=V.bind V.leave λb=>V.bind (V.want (decide (b.1≠4∨b.2.1=b.2.2.1)) 6) λ_=>V.push b.2.2.1:=by
   intro c;unfold instr ctl;rw[if_neg (by omega),if_neg (by omega),if_neg (by omega),if_neg h5,if_pos h11]
  rw[e1]at hf ⊢;obtain ⟨b,v1,h1,h2⟩:=znga hf;obtain ⟨u,v2,h3,h4⟩:=znga h2;unfold V.want at h3;split at h3
  ·rename_i hw;cases h3;cases h4;obtain ⟨b',w1,e2,e3,e4,e5⟩:=zx2a hr h1;refine ⟨(b'.2.2.1.reverse++w1.1,w1.2),?_,⟨by dsimp only; rw[e3.2.2.1,e4.st],e4.bl,e4.bot⟩,λhc=>⟨h11,?_⟩⟩
   ·unfold V.bind;rw[e2];dsimp only;rw[e3.1,e3.2.1,e3.2.2.1];unfold V.want;rw[if_pos hw];rfl
   ·have:=e5 hc;dsimp only;rw[this.2.1,List.eq_nil_of_length_eq_zero this.2.2,List.append_nil]
  ·cases h3
 unfold instr at hf ⊢;have k1:=ctlR hE hb x h5 h11;cases q1:ctl c x with
 |some m =>
  rw[q1]at hf k1;obtain ⟨m',q2,q3⟩:=k1;rw[q2];exact key q3 hf
 |none =>
  rw[q1]at hf k1;dsimp only at hf k1;rw[k1];dsimp only;have k2:=variR (e:=e) (res:=res) hE l x;cases q2:vari c l x with
  |some m =>
   rw[q2]at hf k2;obtain ⟨m',q3,q4⟩:=k2;rw[q3];exact key q4 hf
  |none =>
   rw[q2]at hf k2;dsimp only at hf k2;rw[k2];dsimp only;have k3:=memoR (e:=e) (res:=res) hE acc x;cases q3:memo acc c x with
   |some m =>
    rw[q3]at hf k3;obtain ⟨m',q4,q5⟩:=k3;rw[q4];exact key q5 hf
   |none =>
    rw[q3]at hf k3;dsimp only at hf k3;rw[k3];dsimp only;cases q4:typ x.1 with
    |some t=>rw[q4]at hf; exact key (SR.does _ _) hf
    |none=>rw[q4]at hf; cases hf
end
end Go.Trm.V
namespace Go.Trm.V
def NZ {α:Type} (f:M α):Prop:=∀v e,f v = .error e→e≠0
theorem NZ.ret {α:Type} (a:α):NZ (V.ret a):=λ_ _ h=>by cases h
theorem NZ.bind {α β:Type} {f:M α} {g:α→M β} (h:NZ f) (k:∀a,NZ (g a)):NZ (V.bind f g):=by
 intro v e he;unfold V.bind at he;cases hf:f v with
 |error x=>rw[hf]at he; cases he; exact h v _ hf
 |ok q=>rw[hf]at he; exact k q.1 q.2 e he
theorem NZ.want {b:Bool} {n:Int} (h:n≠0):NZ (V.want b n):=by
 intro v e he;unfold V.want at he;split at he
 ·cases he
 ·cases he; exact h
theorem NZ.has {n m:Int}:NZ (V.has n m):=NZ.want (by omega)
theorem NZ.fails {α:Type} {n:Int} (h:n≠0):NZ (V.fails n:M α):=λ_ _ he=>by cases he; exact h
theorem NZ.pop (t:Int):NZ (V.pop t):=by
 intro v e he;unfold V.pop at he;split at he
 ·cases he; omega
 ·split at he
  ·split at he
   ·cases he
   ·cases he; omega
  ·split at he
   ·cases he; omega
   ·split at he
    ·cases he
    ·cases he; omega
theorem NZ.popsR:∀l:List Int,NZ (V.popsR l)
 |[]=>NZ.ret _
 |t::ts=>(NZ.pop t).bind λ_=>(NZ.popsR ts).bind λ_=>NZ.ret _
theorem NZ.pops (l:List Int):NZ (V.pops l):=(NZ.popsR _).bind λ_=>NZ.ret _
theorem NZ.push (l:List Int):NZ (V.push l):=λ_ _ h=>by cases h
theorem NZ.does (l r:List Int):NZ (V.does l r):=(NZ.pops l).bind λ_=>NZ.push r
theorem NZ.enter (op:Int) (l r:List Int):NZ (V.enter op l r):=λ_ _ h=>by cases h
theorem NZ.leave:NZ V.leave:=by
 intro v e he;unfold V.leave at he;split at he
 ·cases he; omega
 ·rename_i b o ho;refine NZ.bind (NZ.pops b.2.2.1) (λ_ v e he=>?_) v e he;split at he
  ·cases he
  ·cases he; omega
theorem NZ.dead:NZ V.dead:=by
 intro v e he;unfold V.dead at he;split at he
 ·cases he; omega
 ·cases he
theorem NZ.label (n:Int):NZ (V.label n):=by
 intro v e he;unfold V.label at he;split at he
 ·cases he
 ·cases he; omega
theorem NZ.labelsEach:∀l:List Int,NZ (V.zMba l)
 |[]=>NZ.ret _
 |n::l=>(NZ.label n).bind λ_=>NZ.labelsEach l
theorem NZ.popsEach (k:Nat):∀l:List Int,NZ (V.zoea k l)
 |[]=>NZ.ret _
 |n::l=>(NZ.label n).bind λt=>(NZ.want (by omega)).bind λ_=>(NZ.pops t).bind λr=>(NZ.push r).bind λ_=>NZ.popsEach k l
theorem NZ.table (x:Ins):NZ (V.table x):=(NZ.label _).bind λa=>(NZ.labelsEach _).bind λ_=>(NZ.pop 127).bind λ_=>(NZ.popsEach _ _).bind λ_=>(NZ.pops a).bind λ_=>NZ.dead
theorem NZ.block (c:Ctx) (x:Ins):NZ (V.block c x):=by
 unfold V.block;split
 ·exact NZ.fails (by omega)
 ·refine NZ.bind ?_ λ_=>(NZ.pops _).bind λ_=>NZ.enter _ _ _
  split
  ·exact (NZ.pop 127).bind λ_=>NZ.ret _
  ·exact NZ.ret _
theorem NZ.retn:NZ V.retn:=by
 intro v e he;unfold V.retn at he;split at he
 ·cases he; omega
 ·exact ((NZ.pops _).bind λ_=>NZ.dead) v e he
theorem NZ.pop3:NZ (V.bind (V.pops three) λ_=>V.ret ()):=(NZ.pops three).bind λ_=>NZ.ret _
theorem NZ.segment (c:Ctx) (n:Int):NZ (V.zRxa c n):=(NZ.want (by omega)).bind λ_=>NZ.has
theorem NZ.instr {acc:Int→Option (Int×Int×Bool)} {typ:Int→Option (List Int×Int)} {c:Ctx} {l:List Int} (x:Ins):NZ (V.instr acc typ c l x):=by
 unfold V.instr;split
 ·rename_i m hm;unfold ctl at hm;by_cases h:x.1=0
  ·rw[if_pos h]at hm; cases hm;exact NZ.dead
  rw[if_neg h]at hm;clear h;by_cases h:x.1=1
  ·rw[if_pos h]at hm; cases hm;exact NZ.ret _
  rw[if_neg h]at hm;clear h;by_cases h:x.1=2∨x.1=3∨x.1=4
  ·rw[if_pos h]at hm; cases hm;exact NZ.block c x
  rw[if_neg h]at hm;clear h;by_cases h:x.1=5
  ·rw[if_pos h]at hm; cases hm;exact NZ.leave.bind λ_=>NZ.enter _ _ _
  rw[if_neg h]at hm;clear h;by_cases h:x.1=11
  ·rw[if_pos h]at hm; cases hm;exact NZ.leave.bind λ_=>(NZ.want (by omega)).bind λ_=>NZ.push _
  rw[if_neg h]at hm;clear h;by_cases h:x.1=12
  ·rw[if_pos h]at hm; cases hm;exact (NZ.label _).bind λ_=>(NZ.pops _).bind λ_=>NZ.dead
  rw[if_neg h]at hm;clear h;by_cases h:x.1=13
  ·rw[if_pos h]at hm; cases hm;exact (NZ.label _).bind λ_=>(NZ.pop _).bind λ_=>NZ.does _ _
  rw[if_neg h]at hm;clear h;by_cases h:x.1=14
  ·rw[if_pos h]at hm; cases hm;exact NZ.table x
  rw[if_neg h]at hm;clear h;by_cases h:x.1=15
  ·rw[if_pos h]at hm; cases hm;exact NZ.retn
  rw[if_neg h]at hm;clear h;by_cases h:x.1=16
  ·rw[if_pos h]at hm; cases hm;split
   ·exact NZ.fails (by omega)
   ·exact NZ.does _ _
  rw[if_neg h]at hm;clear h;by_cases h:x.1=17
  ·rw[if_pos h]at hm; cases hm;exact NZ.has.bind λ_=>NZ.has.bind λ_=>(NZ.pop _).bind λ_=>NZ.does _ _
  rw[if_neg h]at hm;clear h;cases hm
 ·split
  ·rename_i m hm;unfold vari at hm;split at hm
   ·cases hm; exact (NZ.pop _).bind λ_=>NZ.ret _
   split at hm
   ·cases hm; exact (NZ.pop _).bind λ_=>(NZ.pop _).bind λ_=>(NZ.pop _).bind λ_=>NZ.push _
   split at hm
   ·cases hm; exact NZ.has.bind λ_=>NZ.push _
   split at hm
   ·cases hm; exact NZ.has.bind λ_=>(NZ.pop _).bind λ_=>NZ.ret _
   split at hm
   ·cases hm; exact NZ.has.bind λ_=>(NZ.pop _).bind λ_=>NZ.push _
   split at hm
   ·cases hm; exact NZ.has.bind λ_=>NZ.push _
   split at hm
   ·cases hm; exact NZ.has.bind λ_=>(NZ.want (by omega)).bind λ_=>(NZ.pop _).bind λ_=>NZ.ret _
   split at hm
   ·cases hm; exact NZ.push _
   split at hm
   ·cases hm; exact NZ.push _
   ·cases hm
  ·split
   ·rename_i m hm;unfold memo at hm;split at hm
    ·cases hm;refine NZ.has.bind λ_=>(NZ.want (by omega)).bind λ_=>?_
     split
     ·exact NZ.does _ _
     ·exact NZ.does _ _
    ·split at hm
     ·cases hm; exact NZ.has.bind λ_=>NZ.push _
     split at hm
     ·cases hm; exact NZ.has.bind λ_=>NZ.does _ _
     split at hm
     ·cases hm; exact NZ.has.bind λ_=>(NZ.segment c _).bind λ_=>NZ.pop3
     split at hm
     ·cases hm; exact NZ.has.bind λ_=>NZ.pop3
     split at hm
     ·cases hm; exact NZ.has.bind λ_=>NZ.pop3
     split at hm
     ·cases hm; exact NZ.segment c _
     split at hm
     ·cases hm; exact NZ.has.bind λ_=>NZ.has.bind λ_=>NZ.pop3
     split at hm
     ·cases hm; exact NZ.has.bind λ_=>NZ.has.bind λ_=>NZ.pop3
     split at hm
     ·cases hm; exact NZ.has
     ·cases hm
   ·split
    ·exact NZ.does _ _
    ·exact NZ.fails (by omega)
theorem NZ.run {acc:Int→Option (Int×Int×Bool)} {typ:Int→Option (List Int×Int)} {c:Ctx} {l:List Int}:∀xs:List Ins,NZ (V.run acc typ c l xs)
 |[]=>NZ.ret _
 |x::xs=>(NZ.instr x).bind λ_=>NZ.run xs
theorem zZxa {acc:Int→Option (Int×Int×Bool)} {typ:Int→Option (List Int×Int)} {c:Ctx} {l:List Int}:∀(xs ys:List Ins),run acc typ c l (xs++ys)=V.bind (run acc typ c l xs) λ_=>run acc typ c l ys
 |[],ys=>rfl
 |x::xs,ys=>by
  funext v
  show V.bind (instr acc typ c l x) (λ_=>run acc typ c l (xs++ys)) v=V.bind (V.bind (instr acc typ c l x) λ_=>run acc typ c l xs) (λ_=>run acc typ c l ys) v;rw[zZxa xs ys];unfold V.bind;cases instr acc typ c l x v<;>rfl
abbrev resOf (c:Ctx) (f:Int×List Int×List Ins×Unit):List Int:=(c.1.getD f.1.toNat ([],[],())).2.1
abbrev locOf (c:Ctx) (f:Int×List Int×List Ins×Unit):List Int:=(c.1.getD f.1.toNat ([],[],())).1++f.2.1
abbrev st0 (res:List Int):VS:=([],[(2,[],res,0,false,())])
section
variable {zCaa:Ins→Bool} {acc:Int→Option (Int×Int×Bool)} {typ:Int→Option (List Int×Int)} {c c':Ctx}
theorem body_zero {f:Int×List Int×List Ins×Unit}:V.body zCaa acc typ c f=0↔(0≤f.1∧f.1<c.1.length)∧zFra zCaa f.2.2.1=true∧∃w,run acc typ c (locOf c f) f.2.2.1 (st0 (resOf c f)) = .ok ((),w):=by
 unfold V.body;by_cases h1:f.1<0∨(c.1.length:Int)≤f.1
 ·rw[if_pos h1];constructor
  ·intro h; omega
  ·intro h; omega
 rw[if_neg h1];by_cases h2:zFra zCaa f.2.2.1=true
 ·rw[if_pos h2];cases hr:run acc typ c (locOf c f) f.2.2.1 (st0 (resOf c f)) with
  |ok q =>
   constructor
   ·intro _; exact ⟨by omega,h2,q.2,rfl⟩
   ·intro _; rfl
  |error e =>
   constructor
   ·intro h; exact absurd h (NZ.run _ _ _ hr)
   ·intro h; obtain ⟨_,_,w,hw⟩:=h; cases hw
 ·rw[if_neg h2];constructor
  ·intro h; omega
  ·intro h; exact absurd h.2.1 h2
theorem zQZa {n n':List Bool} {x:Ins} (h:nest n x = .go n') {m:Nat} (hc:cnt x (n.length+1) m):m=n'.length+1:=by
 unfold nest at h;unfold cnt at hc;split at h
 ·rename_i hop;rw[if_pos hop]at hc;split at h
  ·cases h
  ·cases h; simp; omega
 ·rename_i hop;rw[if_neg hop]at hc;split at h
  ·rename_i h5;rw[if_neg (by omega)]at hc;split at h
   ·cases h; simpa using hc
   ·cases h
  ·split at h
   ·rename_i h11;rw[if_pos h11]at hc;split at h
    ·cases h
    ·cases h; simpa using hc
   ·rename_i h11;rw[if_neg h11]at hc;cases h; exact hc
theorem zKPa {n:List Bool} {x:Ins} (h:nest n x = .over):x.1=11∧n=[]:=by
 unfold nest at h;split at h
 ·split at h<;>cases h
 ·split at h
  ·split at h<;>cases h
  ·split at h
   ·rename_i h11;split at h
    ·exact ⟨h11,rfl⟩
    ·cases h
   ·cases h
theorem runR {B:Nat} {e:List Blk} {res:List Int} {l:List Int} (hf:∀x,zCaa x=true→x.2.2.2.2.1.length≤64) (hB:1≤B) (hc:CtxOk B c) (hE:Ext c c') (hb:Below res e):∀(xs:List Ins) (n:List Bool) (S:Nat) (v v' w:VS),zBba zCaa xs n=true→v.2.length=n.length+1→Inv B S v→Rel e res v v'→run acc typ c l xs v = .ok ((),w)→∃w',run acc typ c' l xs v' = .ok ((),w')∧Rel0 e res w w'∧w.2=[]∧w.1=res.reverse:=by
 intro xs
 induction xs with
 |nil=>intro n S v v' w h1; cases h1
 |cons x xs ih =>
  intro n S v v' w h1 h2 h3 h4 h5;unfold zBba at h1;split at h1
  ·rename_i hfx;obtain ⟨u,v1,e1,e2⟩:=znga h5;obtain ⟨w1,q1,q2,q3⟩:=zD2a hE hb h4 e1;obtain ⟨i1,i2⟩:=Step.instr hB hc (hf x hfx) S v () v1 h3 e1;have run':∀w2,run acc typ c' l xs w1 = .ok ((),w2)→run acc typ c' l (x::xs) v' = .ok ((),w2):=by
    intro w2 hw;show V.bind (instr acc typ c' l x) (λ_=>run acc typ c' l xs) v'=_;unfold V.bind;rw[q1];exact hw
   split at h1
   ·cases h1
   ·rename_i hn;obtain ⟨g1,g2⟩:=zKPa hn;have hx:xs=[]:=List.isEmpty_iff.mp h1;subst hx;have hw:v1=w:=by injection e2 with e2; injection e2
    subst hw;have hv:v1.2=[]:=by
     unfold cnt at i2;rw[if_neg (by omega),if_pos g1,h2,g2]at i2;exact List.eq_nil_of_length_eq_zero (by simpa using i2)
    exact ⟨w1,run' w1 rfl,q2,hv,(q3 hv).2⟩
   ·rename_i n' hn;have hl:=zQZa hn (by rw[←h2]; exact i2);obtain ⟨w2,r1,r2⟩:=ih n' _ v1 w1 w h1 hl i1 ⟨q2,λhc=>by rw[hc]at hl; simp at hl⟩ e2;exact ⟨w2,run' w2 r1,r2⟩
  ·cases h1
theorem inv0 {B:Nat} {res:List Int} (h:res.length≤B):Inv B 0 (st0 res):=⟨⟨by simp,by simp,trivial⟩,by simp,by
 intro b hb;rw[List.mem_singleton]at hb;subst hb;exact ⟨by simp,h⟩⟩
theorem bot0 (res:List Int):bot res (st0 res).2:=⟨by simp,rfl,rfl⟩
end
end Go.Trm.V
