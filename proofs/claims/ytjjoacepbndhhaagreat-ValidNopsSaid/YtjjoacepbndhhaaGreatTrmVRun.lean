import Derived.Test.YtjjoacepbndhhaaGreatTrmPlain
import Derived.Test.YtjjoacepbndhhaaGreatTrmG1a
set_option linter.unusedVariables false
set_option linter.unusedSimpArgs false
namespace Go.Trm.V
abbrev FT:=List Int×List Int×Unit
abbrev Blk:=Int×List Int×List Int×Int×Bool×Unit
abbrev Ins:=Int×Int×Int×Int×List Int×Unit
abbrev Ctx:=List FT×List Int×List (Int×Bool×Unit)×List (Int×Bool×Int×Unit)×List (Int×Bool×Int×Unit)×Int×Int×Int×Int×Bool×Unit
abbrev CK:=Ctx×List Int×List Int×List Blk×Unit
abbrev VS:=List Int×List Blk
abbrev Rz (α:Type):=Except Int (α×VS)
abbrev M (α:Type):=VS→Rz α
def bind {α β:Type} (f:M α) (g:α→M β):M β:=fun v=>match f v with
 | .error e => .error e
 | .ok q=>g q.1 q.2
def ret {α:Type} (a:α):M α:=fun v => .ok (a,v)
def fails {α:Type} (e:Int):M α:=fun _ => .error e
def want (b:Bool) (e:Int):M Unit:=fun v=>if b=true then .ok ((),v) else .error e
def has (n many:Int):M Unit:=want (decide (0≤n∧n<many)) 7
def pop (t:Int):M Int:=fun v=>match v.2 with
 |[] => .error 9
 |b::_=>if (v.1.length:Int)=b.2.2.2.1 then (if b.2.2.2.2.1=true then .ok (0,v) else .error 6) else match v.1 with
  |[] => .error 9
  |x::s=>if x=t∨x=0∨t=0 then .ok (x,(s,v.2)) else .error 6
def popsR:List Int→M (List Int)
 |[]=>ret []
 |t::ts=>bind (pop t) fun x=>bind (popsR ts) fun xs=>ret (x::xs)
def pops (l:List Int):M (List Int):=bind (popsR l.reverse) fun xs=>ret xs.reverse
def push (l:List Int):M Unit:=fun v => .ok ((),(l.reverse++v.1,v.2))
def does (l r:List Int):M Unit:=bind (pops l) fun _=>push r
def enter (op:Int) (l r:List Int):M Unit:=fun v => .ok ((),(l.reverse++v.1,(op,l,r,(v.1.length:Int),false,())::v.2))
def leave:M Blk:=fun v=>match v.2 with
 |[] => .error 9
 |b::_=>bind (pops b.2.2.1) (fun _ v=>if (v.1.length:Int)=b.2.2.2.1 then .ok (b,(v.1,v.2.tail)) else .error 6) v
def dead:M Unit:=fun v=>match v.2 with
 |[] => .error 9
 |b::o => .ok ((),(v.1.drop (v.1.length-b.2.2.2.1.toNat),(b.1,b.2.1,b.2.2.1,b.2.2.2.1,true,())::o))
def lab (b:Blk):List Int:=if b.1=3 then b.2.1 else b.2.2.1
def label (n:Int):M (List Int):=fun v=>if 0≤n∧n<v.2.length then .ok (lab (v.2.getD n.toNat (0,[],[],0,false,())),v) else .error 7
def zrHa (c:Ctx) (t:Int):Option FT :=
 if t = -64 then some ([],[],()) else if t = -1 then some ([],[127],()) else if t = -2 then some ([],[126],())
 else if 0≤t∧t<c.1.length then some (c.1.getD t.toNat ([],[],())) else none
def typeT (c:Ctx) (f:Int):Option FT :=
 if 0≤f∧f<c.2.1.length then
  (if 0≤c.2.1.getD f.toNat 0∧c.2.1.getD f.toNat 0<c.1.length then some (c.1.getD (c.2.1.getD f.toNat 0).toNat ([],[],())) else none)
 else none
def block (c:Ctx) (x:Ins):M Unit:=match zrHa c x.2.1 with
 |none=>fails 7
 |some t=>bind (if x.1=4 then bind (pop 127) (fun _=>ret ()) else ret ()) fun _=>bind (pops t.1) fun _=>enter x.1 t.1 t.2.1
def zMba:List Int→M Unit
 |[]=>ret ()
 |n::l=>bind (label n) fun _=>zMba l
def zoea (k:Nat):List Int→M Unit
 |[]=>ret ()
 |n::l=>bind (label n) fun t=>bind (want (t.length==k) 6) fun _=>bind (pops t) fun r=>bind (push r) fun _=>zoea k l
def table (x:Ins):M Unit:=bind (label x.2.1) fun last=>bind (zMba x.2.2.2.2.1) fun _=>bind (pop 127) fun _=>bind (zoea last.length x.2.2.2.2.1) fun _=>bind (pops last) fun _=>dead
def retn:M Unit:=fun v=>match v.2.getLast? with
 |none => .error 9
 |some b=>bind (pops b.2.2.1) (fun _=>dead) v
def ctl (c:Ctx) (x:Ins):Option (M Unit) :=
 if x.1=0 then some dead
 else if x.1=1 then some (ret ())
 else if x.1=2∨x.1=3∨x.1=4 then some (block c x)
 else if x.1=5 then some (bind leave fun b=>enter 5 b.2.1 b.2.2.1)
 else if x.1=11 then some (bind leave fun b=>bind (want (decide (b.1≠4∨b.2.1=b.2.2.1)) 6) fun _=>push b.2.2.1)
 else if x.1=12 then some (bind (label x.2.1) fun l=>bind (pops l) fun _=>dead)
 else if x.1=13 then some (bind (label x.2.1) fun l=>bind (pop 127) fun _=>does l l)
 else if x.1=14 then some (table x)
 else if x.1=15 then some retn
 else if x.1=16 then some (match typeT c x.2.1 with
  |none=>fails 7
  |some t=>does t.1 t.2.1)
 else if x.1=17 then some (bind (has x.2.1 c.1.length) fun _=>bind (has x.2.2.1 c.2.2.2.1.length) fun _=>bind (pop 127) fun _=>does (c.1.getD x.2.1.toNat ([],[],())).1 (c.1.getD x.2.1.toNat ([],[],())).2.1)
 else none
def vari (c:Ctx) (l:List Int) (x:Ins):Option (M Unit) :=
 if x.1=26 then some (bind (pop 0) fun _=>ret ())
 else if x.1=27 then some (bind (pop 127) fun _=>bind (pop 0) fun a=>bind (pop a) fun b=>push [maxI a b])
 else if x.1=32 then some (bind (has x.2.1 l.length) fun _=>push [l.getD x.2.1.toNat 0])
 else if x.1=33 then some (bind (has x.2.1 l.length) fun _=>bind (pop (l.getD x.2.1.toNat 0)) fun _=>ret ())
 else if x.1=34 then some (bind (has x.2.1 l.length) fun _=>bind (pop (l.getD x.2.1.toNat 0)) fun _=>push [l.getD x.2.1.toNat 0])
 else if x.1=35 then some (bind (has x.2.1 c.2.2.1.length) fun _=>push [(c.2.2.1.getD x.2.1.toNat (0,false,())).1])
 else if x.1=36 then some (bind (has x.2.1 c.2.2.1.length) fun _=>bind (want (c.2.2.1.getD x.2.1.toNat (0,false,())).2.1 5) fun _=>bind (pop (c.2.2.1.getD x.2.1.toNat (0,false,())).1) fun _=>ret ())
 else if x.1=65 then some (push [127])
 else if x.1=66 then some (push [126])
 else none
def zRxa (c:Ctx) (n:Int):M Unit:=bind (want c.2.2.2.2.2.2.2.2.2.1 7) fun _=>has n c.2.2.2.2.2.2.2.2.1
def three:List Int:=[127,127,127]
def memo (acc:Int→Option (Int×Int×Bool)) (c:Ctx) (x:Ins):Option (M Unit):=match acc x.1 with
 |some a=>some (bind (has 0 c.2.2.2.2.1.length) fun _=>bind (want (decide (0≤x.2.1∧x.2.1≤3)&&decide (shlI .i64 1 x.2.1≤a.2.1)) 5) fun _=>if a.2.2=true then does [127,a.1] [] else does [127] [a.1])
 |none =>
  if x.1=63 then some (bind (has 0 c.2.2.2.2.1.length) fun _=>push [127])
  else if x.1=64 then some (bind (has 0 c.2.2.2.2.1.length) fun _=>does [127] [127])
  else if x.1=264 then some (bind (has 0 c.2.2.2.2.1.length) fun _=>bind (zRxa c x.2.1) fun _=>bind (pops three) fun _=>ret ())
  else if x.1=266 then some (bind (has 0 c.2.2.2.2.1.length) fun _=>bind (pops three) fun _=>ret ())
  else if x.1=267 then some (bind (has 0 c.2.2.2.2.1.length) fun _=>bind (pops three) fun _=>ret ())
  else if x.1=265 then some (zRxa c x.2.1)
  else if x.1=268 then some (bind (has x.2.1 c.2.2.2.2.2.2.2.1) fun _=>bind (has x.2.2.1 c.2.2.2.1.length) fun _=>bind (pops three) fun _=>ret ())
  else if x.1=270 then some (bind (has x.2.1 c.2.2.2.1.length) fun _=>bind (has x.2.2.1 c.2.2.2.1.length) fun _=>bind (pops three) fun _=>ret ())
  else if x.1=269 then some (has x.2.1 c.2.2.2.2.2.2.2.1)
  else none
def instr (acc:Int→Option (Int×Int×Bool)) (typ:Int→Option (List Int×Int)) (c:Ctx) (l:List Int) (x:Ins):M Unit:=match ctl c x with
 |some m=>m
 |none=>match vari c l x with
  |some m=>m
  |none=>match memo acc c x with
   |some m=>m
   |none=>match typ x.1 with
    |some t=>does t.1 [t.2]
    |none=>fails 2
def run (acc:Int→Option (Int×Int×Bool)) (typ:Int→Option (List Int×Int)) (c:Ctx) (l:List Int):List Ins→M Unit
 |[]=>ret ()
 |x::xs=>bind (instr acc typ c l x) fun _=>run acc typ c l xs
inductive Nx|bad|over|go (n:List Bool)
def nest (n:List Bool) (x:Ins):Nx :=
 if x.1=2∨x.1=3∨x.1=4 then (if 64≤n.length then .bad else .go (decide (x.1=4)::n))
 else if x.1=5 then (match n with
  |true::n => .go (false::n)
  |_ => .bad)
 else if x.1=11 then (match n with
  |[] => .over
  |_::n => .go n)
 else .go n
def zBba (zCaa:Ins→Bool):List Ins→List Bool→Bool
 |[],_=>false
 |x::xs,n=>if zCaa x=true then (match nest n x with
  | .bad=>false
  | .over=>xs.isEmpty
  | .go n=>zBba zCaa xs n) else false
def zFra (zCaa:Ins→Bool) (l:List Ins):Bool:=decide (l.length≤2000)&&zBba zCaa l []
def body (zCaa:Ins→Bool) (acc:Int→Option (Int×Int×Bool)) (typ:Int→Option (List Int×Int)) (c:Ctx) (f:Int×List Int×List Ins×Unit):Int :=
 if f.1<0∨(c.1.length:Int)≤f.1 then 2 else if zFra zCaa f.2.2.1=true then
  (match run acc typ c ((c.1.getD f.1.toNat ([],[],())).1++f.2.1) f.2.2.1 ([],[(2,[],(c.1.getD f.1.toNat ([],[],())).2.1,0,false,())]) with
  | .ok _=>0
  | .error e=>e)
 else 2
end Go.Trm.V
namespace Go.Trm.V
def wf:List Blk→Int→Prop
 |[],_=>True
 |b::o,n=>0≤b.2.2.2.1∧b.2.2.2.1≤n∧wf o b.2.2.2.1
theorem wf_le:∀ {o:List Blk} {n m:Int},wf o n→n≤m→wf o m
 |[],_,_,_,_=>trivial
 |_::_,_,_,⟨h1,h2,h3⟩,h=>⟨h1,Int.le_trans h2 h,h3⟩
structure Inv (B S:Nat) (v:VS):Prop where
 wf:wf v.2 v.1.length
 len:v.1.length≤S
 blk:∀b∈v.2,b.2.1.length≤B∧b.2.2.1.length≤B
theorem znga {α β:Type} {f:M α} {g:α→M β} {v:VS} {q:β×VS} (h:bind f g v = .ok q):∃a v1,f v = .ok (a,v1)∧g a v1 = .ok q:=by
 unfold bind at h;cases hf:f v with
 |error e=>rw[hf]at h; cases h
 |ok p=>obtain ⟨a,v1⟩:=p; rw[hf]at h; exact ⟨a,v1,rfl,h⟩
def Step {α:Type} (B:Nat) (d:Nat) (f:M α) (φ:VS→α→VS→Prop):Prop:=∀S v a v',Inv B S v→f v = .ok (a,v')→Inv B (S+d) v'∧φ v a v'
theorem zC2a {B S S':Nat} {v:VS} (h:Inv B S v) (hs:S≤S'):Inv B S' v:=⟨h.wf,Nat.le_trans h.len hs,h.blk⟩
theorem Step.ret {α:Type} {B:Nat} {a:α} {φ:VS→α→VS→Prop} (h:∀v,φ v a v):Step B 0 (ret a) φ:=by
 intro S v b v' hi e;cases e;exact ⟨hi,h v⟩
theorem Step.mono {α:Type} {B d d':Nat} {f:M α} {φ ψ:VS→α→VS→Prop} (h:Step B d f φ) (hd:d≤d') (k:∀v a v',φ v a v'→ψ v a v'):Step B d' f ψ:=by
 intro S v a v' hi e;obtain ⟨h1,h2⟩:=h S v a v' hi e;exact ⟨zC2a h1 (by omega),k _ _ _ h2⟩
theorem Step.bind {α β:Type} {B d d':Nat} {f:M α} {g:α→M β} {φ:VS→α→VS→Prop} {ψ χ:VS→β→VS→Prop} (h:Step B d f φ) (k:∀a,(∃v v',φ v a v')→Step B d' (g a) ψ) (hc:∀v a v1 b v2,φ v a v1→ψ v1 b v2→χ v b v2):Step B (d+d') (bind f g) χ:=by
 intro S v b v2 hi e;obtain ⟨a,v1,e1,e2⟩:=znga e;obtain ⟨h1,h2⟩:=h S v a v1 hi e1;obtain ⟨h3,h4⟩:=k a ⟨v,v1,h2⟩ _ v1 b v2 h1 e2;exact ⟨zC2a h3 (by omega),hc _ _ _ _ _ h2 h4⟩
theorem Step.want {B:Nat} {b:Bool} {e:Int}:Step B 0 (want b e) (fun v _ v'=>v'=v):=by
 intro S v a v' hi h;unfold V.want at h;split at h
 ·cases h; exact ⟨hi,rfl⟩
 ·cases h
theorem Step.has {B:Nat} {n m:Int}:Step B 0 (has n m) (fun v _ v'=>v'=v):=Step.want
theorem Step.fails {α:Type} {B d:Nat} {e:Int} {φ:VS→α→VS→Prop}:Step B d (fails e) φ:=by
 intro S v a v' hi h; cases h
abbrev same {α:Type}:VS→α→VS→Prop:=fun v _ v'=>v'.2=v.2
theorem Step.pop {B:Nat} {t:Int}:Step B 0 (pop t) same:=by
 intro S v a v' hi h;unfold V.pop at h;split at h
 ·cases h
 ·rename_i b o ho;split at h
  ·split at h
   ·cases h; exact ⟨hi,rfl⟩
   ·cases h
  ·rename_i hne;split at h
   ·cases h
   ·rename_i x s hs;split at h
    ·cases h;refine ⟨⟨?_,?_,hi.blk⟩,rfl⟩
     ·have h1:=hi.wf;rw[ho]at h1 ⊢;rw[hs]at h1 hne;simp only[List.length_cons]at h1 hne;exact ⟨h1.1,by have:=h1.2.1; show b.2.2.2.1≤(s.length:Int); omega,h1.2.2⟩
     ·have:=hi.len; rw[hs]at this; simp only[List.length_cons]at this; show s.length≤S; omega
    ·cases h
theorem Step.popsR {B:Nat}:∀(l:List Int),Step B 0 (popsR l) (fun v r v'=>v'.2=v.2∧r.length=l.length)
 |[]=>Step.ret fun _=>⟨rfl,rfl⟩
 |t::ts=>by
  intro S v r v' hi e;obtain ⟨x,v1,e1,e2⟩:=znga e;obtain ⟨xs,v2,e3,e4⟩:=znga e2;cases e4;obtain ⟨h1,h2⟩:=Step.pop S v x v1 hi e1;obtain ⟨h3,h4,h5⟩:=Step.popsR ts _ v1 xs v' h1 e3;exact ⟨h3,h4.trans h2,by simp[h5]⟩
theorem Step.pops {B:Nat} (l:List Int):Step B 0 (pops l) (fun v r v'=>v'.2=v.2∧r.length=l.length):=by
 intro S v r v' hi e;obtain ⟨xs,v2,e3,e4⟩:=znga e;cases e4;obtain ⟨h3,h4,h5⟩:=Step.popsR l.reverse S v xs v' hi e3;exact ⟨h3,h4,by simp[h5]⟩
theorem Step.push {B:Nat} (l:List Int):Step B l.length (push l) same:=by
 intro S v r v' hi e;cases e;refine ⟨⟨wf_le hi.wf ?_,?_,hi.blk⟩,rfl⟩
 ·simp only[List.length_append,List.length_reverse]; omega
 ·have:=hi.len; simp only[List.length_append,List.length_reverse]; omega
theorem Step.does {B:Nat} (l r:List Int):Step B r.length (does l r) same :=
 ((Step.pops l).bind (fun _ _=>Step.push r) (fun _ _ _ _ _ h1 h2=>h2.trans h1.1)).mono (by omega) fun _ _ _ h=>h
theorem Step.enter {B:Nat} {op:Int} {l r:List Int} (hl:l.length≤B) (hr:r.length≤B):Step B B (enter op l r) (fun v _ v'=>v'.2.length=v.2.length+1):=by
 intro S v u v' hi e;cases e;refine ⟨⟨⟨?_,?_,?_⟩,?_,?_⟩,by simp⟩
 ·show 0≤(v.1.length:Int); omega
 ·show (v.1.length:Int)≤_; simp only[List.length_append,List.length_reverse]; omega
 ·exact hi.wf
 ·have:=hi.len; simp only[List.length_append,List.length_reverse]; omega
 ·intro b hb;rcases List.mem_cons.1 hb with hb|hb
  ·subst hb; exact ⟨hl,hr⟩
  ·exact hi.blk b hb
theorem Step.leave {B:Nat}:Step B 0 leave (fun v b v'=>v'.2.length+1=v.2.length∧b.2.1.length≤B∧b.2.2.1.length≤B∧v.2.head?=some b):=by
 intro S v b v' hi e;unfold V.leave at e;split at e
 ·cases e
 ·rename_i b0 o ho;obtain ⟨xs,v1,e1,e2⟩:=znga e;obtain ⟨h1,h2,_⟩:=Step.pops b0.2.2.1 S v xs v1 hi e1;split at e2
  ·rename_i hh;cases e2;have hb:=hi.blk b (by rw[ho]; exact List.mem_cons_self);have h3:=h1.wf;rw[h2,ho]at h3;refine ⟨⟨?_,h1.len,?_⟩,?_,hb.1,hb.2,by rw[ho]; rfl⟩
   ·rw[h2,ho];show wf o v1.1.length;exact wf_le h3.2.2 h3.2.1
   ·intro b' hb';rw[h2,ho]at hb';exact hi.blk b' (by rw[ho]; exact List.mem_cons_of_mem _ hb')
   ·rw[h2,ho]; simp
  ·cases e2
abbrev many {α:Type}:VS→α→VS→Prop:=fun v _ v'=>v'.2.length=v.2.length
theorem Step.dead {B:Nat}:Step B 0 dead many:=by
 intro S v u v' hi e;unfold V.dead at e;split at e
 ·cases e
 ·rename_i b o ho;cases e;have h:=hi.wf;rw[ho]at h;have hlen:(v.1.drop (v.1.length-b.2.2.2.1.toNat)).length=b.2.2.2.1.toNat:=by
   have:=h.1; have:=h.2.1; simp only[List.length_drop]; omega
  refine ⟨⟨⟨h.1,?_,h.2.2⟩,?_,?_⟩,?_⟩
  ·rw[hlen]; show b.2.2.2.1≤_; have:=h.1; omega
  ·have:=hi.len; have:=h.1; have:=h.2.1; rw[hlen]; omega
  ·intro b' hb';rcases List.mem_cons.1 hb' with hb'|hb'
   ·subst hb'; exact hi.blk b (by rw[ho]; exact List.mem_cons_self)
   ·exact hi.blk b' (by rw[ho]; exact List.mem_cons_of_mem _ hb')
  ·show (_::o).length=v.2.length; rw[ho]; simp
theorem zi3a {B:Nat} {b:Blk} (h:b.2.1.length≤B∧b.2.2.1.length≤B):(lab b).length≤B:=by
 unfold lab; split
 ·exact h.1
 ·exact h.2
theorem Step.label {B:Nat} {n:Int}:Step B 0 (label n) (fun v r v'=>v'=v∧r.length≤B):=by
 intro S v r v' hi e;unfold V.label at e;split at e
 ·rename_i h;cases e;refine ⟨hi,rfl,zi3a (hi.blk _ ?_)⟩;rw[List.getD_eq_getElem?_getD,List.getElem?_eq_getElem (by omega)];exact List.getElem_mem _
 ·cases e
theorem Step.labelsEach {B:Nat}:∀l:List Int,Step B 0 (zMba l) (fun v _ v'=>v'=v)
 |[]=>Step.ret fun _=>rfl
 |n::l=>(Step.label.bind (fun _ _=>Step.labelsEach l) (fun _ _ _ _ _ h1 h2=>h2.trans h1.1)).mono (by omega) fun _ _ _ h=>h
theorem Step.popsEach {B k:Nat}:∀l:List Int,Step B (l.length*B) (zoea k l) same
 |[]=>(Step.ret (φ:=same) fun _=>rfl).mono (by simp) fun _ _ _ h=>h
 |n::l=>by
  refine ((Step.label.bind (d':=B+l.length*B) (ψ:=same) (χ:=same) (fun t ht=>?_) (fun _ _ _ _ _ h1 h2=>by rw[same,h2,h1.1])).mono (by simp only[List.length_cons,Nat.add_mul]; omega) fun _ _ _ h=>h);obtain ⟨_,_,_,ht⟩:=ht;refine (Step.want.bind (d':=B+l.length*B) (ψ:=same) (χ:=same) (fun _ _=>?_) (fun _ _ _ _ _ h1 h2=>by rw[same,h2,h1])).mono (by omega) fun _ _ _ h=>h
  refine ((Step.pops t).bind (d':=B+l.length*B) (ψ:=same) (χ:=same) (fun r hr=>?_) (fun _ _ _ _ _ h1 h2=>by rw[same,h2,h1.1])).mono (by omega) fun _ _ _ h=>h
  obtain ⟨_,_,_,hr⟩:=hr;exact ((Step.push r).bind (d':=l.length*B) (χ:=same) (fun _ _=>Step.popsEach l) (fun _ _ _ _ _ h1 h2=>by rw[same,h2,h1])).mono (by omega) fun _ _ _ h=>h
theorem Step.table {B:Nat} {x:Ins} (hx:x.2.2.2.2.1.length≤64):Step B (64*B) (table x) many:=by
 have h64:x.2.2.2.2.1.length*B≤64*B:=Nat.mul_le_mul_right _ hx;refine (Step.label.bind (d':=64*B) (ψ:=many) (χ:=many) (fun last _=>?_) (fun _ _ _ _ _ h1 h2=>by rw[many,h2,h1.1])).mono (by omega) fun _ _ _ h=>h
 refine ((Step.labelsEach _).bind (d':=64*B) (ψ:=many) (χ:=many) (fun _ _=>?_) (fun _ _ _ _ _ h1 h2=>by rw[many,h2,h1])).mono (by omega) fun _ _ _ h=>h
 refine (Step.pop.bind (d':=64*B) (ψ:=many) (χ:=many) (fun _ _=>?_) (fun _ _ _ _ _ h1 h2=>by rw[many,h2,h1])).mono (by omega) fun _ _ _ h=>h
 refine ((Step.popsEach _).bind (d':=0) (ψ:=many) (χ:=many) (fun _ _=>?_) (fun _ _ _ _ _ h1 h2=>by rw[many,h2,h1])).mono (by omega) fun _ _ _ h=>h
 exact ((Step.pops last).bind (d':=0) (χ:=many) (fun _ _=>Step.dead) (fun _ _ _ _ _ h1 h2=>by rw[many,h2,h1.1])).mono (by omega) fun _ _ _ h=>h
def CtxOk (B:Nat) (c:Ctx):Prop:=∀t∈c.1,t.1.length≤B∧t.2.1.length≤B
theorem zQwa {B:Nat} {c:Ctx} (h:CtxOk B c) (i:Nat):(c.1.getD i ([],[],())).1.length≤B∧(c.1.getD i ([],[],())).2.1.length≤B:=by
 by_cases hi:i<c.1.length
 ·have:=h (c.1.getD i ([],[],())) (by rw[List.getD_eq_getElem?_getD,List.getElem?_eq_getElem hi]; exact List.getElem_mem _);exact this
 ·rw[List.getD_eq_getElem?_getD,List.getElem?_eq_none (by omega)]; simp
theorem zhWa {B:Nat} {c:Ctx} (hB:1≤B) (h:CtxOk B c) {t:Int} {u:FT} (e:zrHa c t=some u):u.1.length≤B∧u.2.1.length≤B:=by
 unfold zrHa at e;split at e
 ·cases e; simp
 split at e
 ·cases e; simpa using hB
 split at e
 ·cases e; simpa using hB
 split at e
 ·cases e; exact zQwa h _
 ·cases e
theorem zfXa {B:Nat} {c:Ctx} (h:CtxOk B c) {t:Int} {u:FT} (e:typeT c t=some u):u.1.length≤B∧u.2.1.length≤B:=by
 unfold typeT at e;split at e
 ·split at e
  ·cases e; exact zQwa h _
  ·cases e
 ·cases e
def cnt (x:Ins) (n m:Nat):Prop:=if x.1=2∨x.1=3∨x.1=4 then m=n+1 else if x.1=11 then m+1=n else m=n
theorem zt1a {x:Ins} {n:Nat} (h1:¬(x.1=2∨x.1=3∨x.1=4)) (h2:x.1≠11) {m:Nat} (h:m=n):cnt x n m:=by unfold cnt; rw[if_neg h1,if_neg h2]; exact h
theorem Step.block {B:Nat} {c:Ctx} {x:Ins} (hB:1≤B) (h:CtxOk B c):Step B B (block c x) (fun v _ v'=>v'.2.length=v.2.length+1):=by
 unfold V.block;split
 ·exact Step.fails
 ·rename_i t ht;obtain ⟨h1,h2⟩:=zhWa hB h ht;refine (Step.bind (d:=0) (φ:=same) (d':=B) (ψ:=fun v _ v'=>v'.2.length=v.2.length+1) (χ:=fun v _ v'=>v'.2.length=v.2.length+1) ?_ (fun _ _=>?_) (fun _ _ _ _ _ h1 h2=>by rw[h2,h1])).mono (by omega) fun _ _ _ h=>h
  ·split
   ·exact (Step.pop.bind (d':=0) (ψ:=same) (χ:=same) (fun _ _=>Step.ret fun _=>rfl) (fun _ _ _ _ _ h1 h2=>h2.trans h1))
   ·exact Step.ret fun _=>rfl
  ·exact ((Step.pops t.1).bind (fun _ _=>Step.enter h1 h2) (fun _ _ _ _ _ h1 h2=>by rw[h2,h1.1])).mono (by omega) fun _ _ _ h=>h
theorem Step.retn {B:Nat}:Step B 0 retn many:=by
 intro S v u v' hi e;unfold V.retn at e;split at e
 ·cases e
 ·obtain ⟨xs,v1,e1,e2⟩:=znga e;obtain ⟨h1,h2,_⟩:=Step.pops _ S v xs v1 hi e1;obtain ⟨h3,h4⟩:=Step.dead _ v1 u v' h1 e2;exact ⟨h3,by rw[many,h4,h2]⟩
theorem zfea {α:Type} {B d:Nat} {f:M α} (h:Step B d f same):Step B d f many:=h.mono (Nat.le_refl _) fun _ _ _ e=>by rw[many,e]
theorem zIha {α:Type} {B d:Nat} {f:M α} (h:Step B d f (fun v _ v'=>v'=v)):Step B d f same:=h.mono (Nat.le_refl _) fun _ _ _ e=>by rw[same,e]
theorem Step.seq {α β:Type} {B d d' e:Nat} {f:M α} {g:α→M β} (h:Step B d f same) (k:∀a,Step B d' (g a) many) (he:d+d'≤e):Step B e (V.bind f g) many :=
 (h.bind (fun a _=>k a) (fun _ _ _ _ _ h1 h2=>by rw[many,h2,h1])).mono he fun _ _ _ h=>h
abbrev G (B:Nat):Nat:=66*B+8
theorem Step.pop3 {B:Nat}:Step B 0 (V.bind (V.pops three) fun _=>V.ret ()) many:=((Step.pops three).bind (d':=0) (ψ:=same) (χ:=many) (fun _ _=>Step.ret fun _=>rfl) (fun _ _ _ _ _ h1 h2=>by rw[many,h2,h1.1]))
theorem Step.instr {B:Nat} {acc:Int→Option (Int×Int×Bool)} {typ:Int→Option (List Int×Int)} {c:Ctx} {l:List Int} {x:Ins} (hB:1≤B) (h:CtxOk B c) (hx:x.2.2.2.2.1.length≤64):Step B (G B) (V.instr acc typ c l x) (fun v _ v'=>cnt x v.2.length v'.2.length):=by
 have key:∀ {m:M Unit} {d:Nat},¬(x.1=2∨x.1=3∨x.1=4)→x.1≠11→d≤G B→Step B d m many→Step B (G B) m (fun v _ v'=>cnt x v.2.length v'.2.length):=fun h1 h2 h3 hm=>hm.mono h3 fun _ _ _ e=>zt1a h1 h2 e
 have lab2:∀ {n:Int},Step B 0 (V.label n) same:=fun {n}=>Step.label.mono (Nat.le_refl _) fun _ _ _ h=>by rw[same,h.1]
 unfold V.instr;split
 ·rename_i m hm;unfold ctl at hm;by_cases h0:x.1=0
  ·rw[if_pos h0]at hm; cases hm; exact key (by omega) (by omega) (Nat.zero_le _) Step.dead
  rw[if_neg h0]at hm;by_cases h1:x.1=1
  ·rw[if_pos h1]at hm; cases hm; exact key (by omega) (by omega) (Nat.zero_le _) (Step.ret fun _=>rfl)
  rw[if_neg h1]at hm;by_cases h2:x.1=2∨x.1=3∨x.1=4
  ·rw[if_pos h2]at hm; cases hm;exact (Step.block hB h).mono (by unfold G; omega) fun _ _ _ e=>by unfold cnt; rw[if_pos h2]; exact e
  rw[if_neg h2]at hm;by_cases h5:x.1=5
  ·rw[if_pos h5]at hm; cases hm;exact key (by omega) (by omega) (d:=B) (by unfold G; omega) ((Step.leave.bind (d':=B) (ψ:=fun v _ v'=>v'.2.length=v.2.length+1) (χ:=many) (fun b hb=>by
    obtain ⟨_,_,_,hb1,hb2,_⟩:=hb;exact Step.enter hb1 hb2) (fun _ _ _ _ _ h1 h2=>by rw[many,h2,h1.1])).mono (by omega) fun _ _ _ h=>h)
  rw[if_neg h5]at hm;by_cases h11:x.1=11
  ·rw[if_pos h11]at hm; cases hm;refine (Step.leave.bind (d':=B) (ψ:=same) (χ:=fun v _ v'=>v'.2.length+1=v.2.length) (fun b hb=>?_) (fun _ _ _ _ _ h1 h2=>by rw[h2,h1.1])).mono (by unfold G; omega) fun _ _ _ e=>by unfold cnt; rw[if_neg h2,if_pos h11]; exact e
   obtain ⟨_,_,_,hb1,hb2,_⟩:=hb;exact (Step.want.bind (d':=b.2.2.1.length) (ψ:=same) (χ:=same) (fun _ _=>Step.push _) (fun _ _ _ _ _ h1 h2=>by rw[same,h2,h1])).mono (by omega) fun _ _ _ h=>h
  rw[if_neg h11]at hm;by_cases h12:x.1=12
  ·rw[if_pos h12]at hm; cases hm;exact key h2 h11 (Nat.zero_le _) (lab2.seq (d':=0) (fun a=>((Step.pops a).bind (d':=0) (χ:=many) (fun _ _=>Step.dead) (fun _ _ _ _ _ h1 h2=>by rw[many,h2,h1.1]))) (Nat.le_refl _))
  rw[if_neg h12]at hm;by_cases h13:x.1=13
  ·rw[if_pos h13]at hm; cases hm;refine key h2 h11 (d:=B) (by unfold G; omega) ((Step.label.bind (d':=B) (ψ:=many) (χ:=many) (fun a ha=>?_) (fun _ _ _ _ _ h1 h2=>by rw[many,h2,h1.1])).mono (by omega) fun _ _ _ h=>h);obtain ⟨_,_,_,ha⟩:=ha;exact Step.pop.seq (fun _=>zfea (Step.does a a)) (by omega)
  rw[if_neg h13]at hm;by_cases h14:x.1=14
  ·rw[if_pos h14]at hm; cases hm;exact key h2 h11 (d:=64*B) (by unfold G; omega) (Step.table hx)
  rw[if_neg h14]at hm;by_cases h15:x.1=15
  ·rw[if_pos h15]at hm; cases hm;exact key h2 h11 (Nat.zero_le _) Step.retn
  rw[if_neg h15]at hm;by_cases h16:x.1=16
  ·rw[if_pos h16]at hm; cases hm;refine key h2 h11 (d:=B) (by unfold G; omega) ?_;split
   ·exact Step.fails
   ·rename_i t ht;exact (zfea (Step.does _ _)).mono (zfXa h ht).2 fun _ _ _ h=>h
  rw[if_neg h16]at hm;by_cases h17:x.1=17
  ·rw[if_pos h17]at hm; cases hm;exact key h2 h11 (d:=B) (by unfold G; omega) ((zIha Step.has).seq (d':=B) (fun _=>(zIha Step.has).seq (d':=B) (fun _=>Step.pop.seq (d':=B) (fun _=>(zfea (Step.does _ _)).mono (zQwa h _).2 fun _ _ _ h=>h) (by omega)) (by omega)) (by omega))
  ·rw[if_neg h17]at hm; cases hm
 ·rename_i hc;have hno:¬(x.1=2∨x.1=3∨x.1=4)∧x.1≠11:=by
   unfold ctl at hc;refine ⟨fun hx2=>?_,fun hx11=>?_⟩
   ·rw[if_neg (by omega),if_neg (by omega),if_pos hx2]at hc; cases hc
   ·rw[if_neg (by omega),if_neg (by omega),if_neg (by omega),if_neg (by omega),if_pos hx11]at hc; cases hc
  refine key hno.1 hno.2 (d:=8) (by unfold G; omega) ?_;split
  ·rename_i m hm;unfold vari at hm
   repeat' (split at hm)
   all_goals first|(cases hm; done)|(cases hm)
   ·exact (Step.pop.seq (d':=0) (fun _=>Step.ret fun _=>rfl) (by omega))
   ·exact (Step.pop.seq (d':=1) (fun _=>Step.pop.seq (d':=1) (fun _=>Step.pop.seq (d':=1) (fun _=>zfea (Step.push _)) (by omega)) (by omega)) (by omega))
   ·exact ((zIha Step.has).seq (d':=1) (fun _=>zfea (Step.push _)) (by omega))
   ·exact ((zIha Step.has).seq (d':=0) (fun _=>Step.pop.seq (d':=0) (fun _=>Step.ret fun _=>rfl) (by omega)) (by omega))
   ·exact ((zIha Step.has).seq (d':=1) (fun _=>Step.pop.seq (d':=1) (fun _=>zfea (Step.push _)) (by omega)) (by omega))
   ·exact ((zIha Step.has).seq (d':=1) (fun _=>zfea (Step.push _)) (by omega))
   ·exact ((zIha Step.has).seq (d':=0) (fun _=>(zIha Step.want).seq (d':=0) (fun _=>Step.pop.seq (d':=0) (fun _=>Step.ret fun _=>rfl) (by omega)) (by omega)) (by omega))
   ·exact (zfea (Step.push _)).mono (by simp) fun _ _ _ h=>h
   ·exact (zfea (Step.push _)).mono (by simp) fun _ _ _ h=>h
  ·split
   ·rename_i m hm;have hseg:∀n,Step B 0 (V.zRxa c n) same:=fun n=>((zIha Step.want).bind (d':=0) (ψ:=same) (χ:=same) (fun _ _=>zIha Step.has) (fun _ _ _ _ _ h1 h2=>h2.trans h1))
    unfold memo at hm;split at hm
    ·cases hm;refine ((zIha Step.has).seq (d':=1) (fun _=>(zIha Step.want).seq (d':=1) (fun _=>?_) (by omega)) (by omega));split
     ·exact (zfea (Step.does _ _)).mono (by simp) fun _ _ _ h=>h
     ·exact (zfea (Step.does _ _)).mono (by simp) fun _ _ _ h=>h
    ·repeat' (split at hm)
     all_goals first|(cases hm; done)|(cases hm)
     ·exact ((zIha Step.has).seq (d':=1) (fun _=>zfea (Step.push _)) (by omega))
     ·exact ((zIha Step.has).seq (d':=1) (fun _=>zfea (Step.does _ _)) (by omega))
     ·exact ((zIha Step.has).seq (d':=0) (fun _=>(hseg _).seq (d':=0) (fun _=>Step.pop3) (by omega)) (by omega))
     ·exact ((zIha Step.has).seq (d':=0) (fun _=>Step.pop3) (by omega))
     ·exact ((zIha Step.has).seq (d':=0) (fun _=>Step.pop3) (by omega))
     ·exact (zfea (hseg _)).mono (by omega) fun _ _ _ h=>h
     ·exact ((zIha Step.has).seq (d':=0) (fun _=>(zIha Step.has).seq (d':=0) (fun _=>Step.pop3) (by omega)) (by omega))
     ·exact ((zIha Step.has).seq (d':=0) (fun _=>(zIha Step.has).seq (d':=0) (fun _=>Step.pop3) (by omega)) (by omega))
     ·exact (zfea (zIha Step.has)).mono (by omega) fun _ _ _ h=>h
   ·split
    ·exact (zfea (Step.does _ _)).mono (by simp) fun _ _ _ h=>h
    ·exact Step.fails
end Go.Trm.V
namespace Go.Trm.V
open Go.Trm.G1
def emb (c:Ctx) (l:List Int) (v:VS):CK:=(c,(l,(v.1.reverse,(v.2.reverse,()))))
theorem zhza {α:Type} (l:List α) (i:Nat) (d:α) (h:i<l.length):l.drop i=l.getD i d::l.drop (i+1):=by
 rw[List.drop_eq_getElem_cons h,List.getD_eq_getElem?_getD,List.getElem?_eq_getElem h]; rfl
section
variable {R:Type} {c:Ctx} {l:List Int}
def Runs (c:Ctx) (l:List Int) {α:Type} (p:(α→CK→Option R)→(Int→CK→Option R)→Option R) (r:Rz α):Prop:=∀K Kp,match r with
 | .ok q=>p K Kp=K q.1 (emb c l q.2)
 | .error e=>∃k,p K Kp=Kp e k
theorem Runs.ok {α:Type} {p:(α→CK→Option R)→(Int→CK→Option R)→Option R} {r:Rz α} {a:α} {v:VS} (h:Runs c l p r) (e:r = .ok (a,v)) (K:α→CK→Option R) (Kp:Int→CK→Option R):p K Kp=K a (emb c l v):=by
 have:=h K Kp;rw[e]at this;exact this
theorem Runs.err {α:Type} {p:(α→CK→Option R)→(Int→CK→Option R)→Option R} {r:Rz α} {e:Int} (h:Runs c l p r) (he:r = .error e) (K:α→CK→Option R) (Kp:Int→CK→Option R):∃k,p K Kp=Kp e k:=by
 have:=h K Kp;rw[he]at this;exact this
theorem Runs.bind {α β:Type} {p:(α→CK→Option R)→(Int→CK→Option R)→Option R} {q:α→CK→(β→CK→Option R)→(Int→CK→Option R)→Option R} {f:M α} {g:α→M β} {v:VS} (h:Runs c l p (f v))
  (k:∀a v1,f v = .ok (a,v1)→Runs c l (q a (emb c l v1)) (g a v1)):Runs c l (fun K Kp=>p (fun a s=>q a s K Kp) (fun e s=>Kp e s)) (V.bind f g v):=by
 intro K Kp;unfold V.bind;cases hf:f v with
 |error e=>exact h.err hf _ _
 |ok z =>
  obtain ⟨a,v1⟩:=z;have h1:=h.ok hf (fun a s=>q a s K Kp) (fun e s=>Kp e s);have h2:=k a v1 hf K Kp;simp only;cases hg:g a v1 with
  |error e =>
   rw[hg]at h2;obtain ⟨k2,h2⟩:=h2;exact ⟨k2,h1.trans h2⟩
  |ok z2=>rw[hg]at h2; exact h1.trans h2
theorem Runs.mk {α:Type} {p:(α→CK→Option R)→(Int→CK→Option R)→Option R} {a:α} {v:VS} (h:∀K Kp,p K Kp=K a (emb c l v)):Runs c l p (.ok (a,v)):=h
theorem Runs.mkE {α:Type} {p:(α→CK→Option R)→(Int→CK→Option R)→Option R} {e:Int} (h:∀K Kp,∃k,p K Kp=Kp e k):Runs c l p (.error e):=h
theorem zhKa (b:Bool) (e:Int) (K:Option R) (Kp:Int→Option R):zraa b e K Kp=if b=true then K else Kp e:=by cases b<;>rfl
theorem zH2a (n m:Int) (K:Option R) (Kp:Int→Option R):zLaa n m K Kp=if 0≤n∧n<m then K else Kp 7:=by
 unfold zLaa;simp only[zDaa,zhKa];by_cases h1:0≤n
 ·rw[if_pos h1];by_cases h2:n<m
  ·rw[decide_eq_true h2,if_pos rfl,if_pos ⟨h1,h2⟩]
  ·rw[decide_eq_false h2,if_neg (by simp),if_neg (fun h=>h2 h.2)]
 ·rw[if_neg h1,if_neg (by simp),if_neg (fun h=>h1 h.1)]
theorem ztXa (v:VS) (xs:List Int) (h:v.1.length+xs.length≤most) (K:CK→Option R):ziaa (emb c l v) xs K=K (emb c l (xs.reverse++v.1,v.2)):=by
 unfold ziaa emb;simp only[zDaa,List.length_reverse];rw[if_pos h];simp
theorem zvVa (v:VS) (op:Int) (a b:List Int) (h:v.1.length+a.length≤most) (h2:v.2.length<most) (K:CK→Option R):ztaa (emb c l v) op a b K=K (emb c l (a.reverse++v.1,(op,a,b,(v.1.length:Int),false,())::v.2)):=by
 unfold ztaa;simp only[zKaa];unfold emb;simp only[zDaa,List.length_reverse,List.length_set,List.length_replicate];rw[if_pos (by omega)];have:=ztXa (R:=R) (c:=c) (l:=l) (v.1,(op,a,b,(v.1.length:Int),false,())::v.2) a h (fun b4=>K b4);unfold emb at this;rw[←this]
 congr 3
 simp[List.replicate]
theorem zk0a (b:Blk) (o:List Blk) (d:Blk) (ho:o.length<4294967296):IntKind.i64.wrap ((((b::o).reverse.length:Nat):Int)-1)=(o.length:Int)∧(b::o).reverse.getD o.length d=b∧inB (o.length:Int) (b::o).reverse.length=true:=by
 refine ⟨?_,?_,?_⟩
 ·rw[w_i64 (by simp only[List.length_reverse,List.length_cons]; omega)];simp
 ·rw[List.reverse_cons,List.getD_eq_getElem?_getD,List.getElem?_append_right (by simp)];simp
 ·unfold inB;simp; omega
theorem popR (v:VS) {B S:Nat} (hi:Inv B S v) (hS:S≤most) (ho:v.2.length<4294967296) (hne:v.2≠[]) (t:Int):Runs (R:=R) c l (zhaa (emb c l v) t) (pop t v):=by
 have hm:most=4294967296:=rfl;obtain ⟨s,o⟩:=v;cases o with
 |nil=>exact absurd rfl hne
 |cons b o =>
  simp only[List.length_cons]at ho;obtain ⟨t1,t2,t3⟩:=zk0a b o (0,[],[],0,false,()) (by omega);have hl:=hi.len;have hw:=hi.wf;simp only at hl hw;unfold pop;simp only;have hun:∀K Kp,zhaa (R:=R) (emb c l (s,b::o)) t K Kp=if (s.length:Int)=b.2.2.2.1 then (if b.2.2.2.2.1=true then K 0 (emb c l (s,b::o)) else Kp 6 (emb c l (s,b::o))) else
    (let n:=IntKind.i64.wrap ((s.length:Int)-1); if 0≤n∧n<s.length then (let x:=s.reverse.getD n.toNat 0; if 0≤(0:Int)∧0≤n∧n≤s.length then (let s':=(c,(l,(rng s.reverse 0 n,((b::o).reverse,())))); if x=t then K x s' else if x=0 then K x s' else if t=0 then K x s' else Kp 6 s') else none) else none):=by
   intro K Kp;unfold zhaa;simp only[zKaa];unfold emb;simp only[t1,Int.toNat_natCast];rw[t3,cond_true,t2];simp only[znCa,zkda,znza,zhKa,List.length_reverse,if_true,beq_iff_eq]
  by_cases h1:(s.length:Int)=b.2.2.2.1
  ·rw[if_pos h1];by_cases h2:b.2.2.2.2.1=true
   ·rw[if_pos h2];refine Runs.mk fun K Kp=>?_
    rw[hun,if_pos h1,if_pos h2]
   ·rw[if_neg h2];refine Runs.mkE fun K Kp=>⟨emb c l (s,b::o),?_⟩
    rw[hun,if_pos h1,if_neg h2]
  ·rw[if_neg h1];cases s with
   |nil =>
    simp only[List.length_nil]at h1 hw;have:=hw.1;have:=hw.2.1;exact absurd (by omega) h1
   |cons x s =>
    simp only[List.length_cons]at hl;have hn:IntKind.i64.wrap (((x::s).length:Int)-1)=(s.length:Int):=by rw[w_i64 (by simp only[List.length_cons]; omega)]; simp
    have hx:(x::s).reverse.getD s.length 0=x:=by
     rw[List.reverse_cons,List.getD_eq_getElem?_getD,List.getElem?_append_right (by simp)];simp
    have hr:rng (x::s).reverse 0 (s.length:Int)=s.reverse:=by
     unfold rng;simp
    have hun2:∀K Kp,zhaa (R:=R) (emb c l (x::s,b::o)) t K Kp=if x=t then K x (emb c l (s,b::o)) else if x=0 then K x (emb c l (s,b::o)) else if t=0 then K x (emb c l (s,b::o)) else Kp 6 (emb c l (s,b::o)):=by
     intro K Kp;rw[hun,if_neg h1];simp only[hn,Int.toNat_natCast,hx,hr];rw[if_pos (by simp only[List.length_cons]; omega),if_pos (by simp only[List.length_cons]; omega)];rfl
    simp only;by_cases g:x=t∨x=0∨t=0
    ·rw[if_pos g];refine Runs.mk fun K Kp=>?_
     rw[hun2];split
     ·rfl
     ·split
      ·rfl
      ·rw[if_pos (by omega)]
    ·rw[if_neg g];refine Runs.mkE fun K Kp=>⟨emb c l (s,b::o),?_⟩
     rw[hun2,if_neg (by omega),if_neg (by omega),if_neg (by omega)]
structure Go (B S:Nat) (v:VS):Prop where
 inv:Inv B S v
 le:S≤most
 op:v.2.length<4294967296
 ne:v.2≠[]
theorem Go.of {B S S':Nat} {v v':VS} (h:Go B S v) (hi:Inv B S' v') (hs:S'≤most) (ho:v'.2.length=v.2.length):Go B S' v':=⟨hi,hs,by rw[ho]; exact h.op,fun hc=>by
 have h1:=h.ne;rw[hc]at ho;exact h1 (List.eq_nil_of_length_eq_zero ho.symm)⟩
theorem popG {B S:Nat} {v:VS} (h:Go B S v) (t:Int):Runs (R:=R) c l (zhaa (emb c l v) t) (pop t v):=popR v h.inv h.le h.op h.ne t
theorem zNYa {B S:Nat} (kp:Int→CK→Option R) (kx:List Int→CK→Option R) (ts:List Int) (hl:ts.length≤most):∀(n:Nat) (m:Nat) (out:List Int) (v:VS),n≤m→n≤ts.length→out.length=ts.length→Go B S v →
  (match popsR (ts.take n).reverse v with
   | .ok q=>loopN (zFaa kp kx) (m+1) ⟨ts,out,(n:Int)-1,emb c l v⟩=kx (q.1.reverse++out.drop n) (emb c l q.2)
   | .error e=>∃k,loopN (zFaa kp kx) (m+1) ⟨ts,out,(n:Int)-1,emb c l v⟩=kp e k):=by
 have hm:most=4294967296:=rfl;intro n
 induction n with
 |zero =>
  intro m out v h1 h2 h3 h4;simp only[List.take_zero,List.reverse_nil,popsR,ret];rw[zaaa];unfold zFaa;simp only[zDaa];rw[if_neg (by omega)];simp
 |succ n ih =>
  intro m out v h1 h2 h3 h4;obtain ⟨m,rfl⟩:∃k,m=k+1:=⟨m-1,by omega⟩
  have htk:(ts.take (n+1)).reverse=ts.getD n 0::(ts.take n).reverse:=by
   rw[List.take_succ_eq_append_getElem (by omega),List.reverse_append,List.getD_eq_getElem?_getD,List.getElem?_eq_getElem (by omega)];rfl
  rw[htk];show (match V.bind (pop (ts.getD n 0)) (fun x=>V.bind (popsR (ts.take n).reverse) fun xs=>ret (x::xs)) v with | .ok q=>_ | .error e=>_);have hp:=popG (R:=R) (c:=c) (l:=l) h4 (ts.getD n 0);have hstep:∀(rec:zfba→Option R),zFaa kp kx rec ⟨ts,out,((n+1:Nat):Int)-1,emb c l v⟩=zhaa (emb c l v) (ts.getD n 0) (fun r3 b4=>rec ⟨ts,List.set out n r3,(n:Int)-1,b4⟩) (fun y6 b7=>kp y6 b7):=by
   intro rec;unfold zFaa;have hin:0≤(n:Int)∧(n:Int)<(out.length:Int):=by omega
   have hin2:0≤(n:Int)∧(n:Int)<(ts.length:Int):=by omega
   have hge:(n:Int)≥0:=by omega
   simp only[zDaa,zkda,show ((n+1:Nat):Int)-1=(n:Int) by omega];rw[if_pos hge,if_pos hin2];simp only[if_pos hin,Int.toNat_natCast];rw[w_i64 (by omega)]
  rw[zaaa,hstep];unfold V.bind;cases hv:pop (ts.getD n 0) v with
  |error e=>exact hp.err hv _ _
  |ok q =>
   obtain ⟨x,v1⟩:=q;simp only;rw[hp.ok hv];obtain ⟨i1,i2⟩:=Step.pop S v x v1 h4.inv hv;have h4':Go B S v1:=h4.of i1 h4.le (by rw[i2]);have:=ih m (out.set n x) v1 (by omega) (by omega) (by simpa using h3) h4';cases hq:popsR (ts.take n).reverse v1 with
   |error e=>rw[hq]at this; exact this
   |ok q2 =>
    obtain ⟨xs,v2⟩:=q2;rw[hq]at this;simp only at this;simp only[ret];rw[this]
    congr 1
    rw[List.reverse_cons,List.append_assoc]
    congr 1
    rw[zhza (out.set n x) n 0 (by simp; omega)];have e1:(out.set n x).getD n 0=x:=by rw[List.getD_eq_getElem?_getD,List.getElem?_set_self (by omega)]; rfl
    have e2:(out.set n x).drop (n+1)=out.drop (n+1):=by rw[List.drop_set_of_lt (by omega)]
    rw[e1,e2];rfl
theorem popsG {B S:Nat} {v:VS} (h:Go B S v) (ts:List Int) (hl:ts.length≤most):Runs (R:=R) c l (zcaa (emb c l v) ts) (pops ts v):=by
 have hm:most=4294967296:=rfl;intro K Kp;have hun:zcaa (emb c l v) ts K Kp=loopN (zFaa (fun y6 w5=>Kp y6 w5) (fun w7 w8=>K w7 w8)) zpaa ⟨ts,List.replicate ts.length 0,(ts.length:Int)-1,emb c l v⟩:=by
  unfold zcaa;simp only[znza];rw[if_pos (by omega),w_i64 (by omega),Int.toNat_natCast]
 obtain ⟨m,hf⟩:=zZva (ts.length+1) (by omega);have:=zNYa (R:=R) (c:=c) (l:=l) (fun y6 w5=>Kp y6 w5) (fun w7 w8=>K w7 w8) ts hl ts.length (m+ts.length) (List.replicate ts.length 0) v (by omega) (Nat.le_refl _) (by simp) h;rw[List.take_length]at this;have hun':zcaa (emb c l v) ts K Kp=loopN (zFaa (fun y6 w5=>Kp y6 w5) (fun w7 w8=>K w7 w8)) (m+ts.length+1) ⟨ts,List.replicate ts.length 0,(ts.length:Int)-1,emb c l v⟩:=by
  rw[hun,hf];rfl
 unfold pops V.bind;cases hq:popsR ts.reverse v with
 |error e =>
  rw[hq]at this;obtain ⟨k,this⟩:=this;exact ⟨k,hun'.trans this⟩
 |ok q =>
  rw[hq]at this;simp only at this;simp only[ret];refine hun'.trans (this.trans ?_);simp
end
end Go.Trm.V
namespace Go.Trm.V
open Go.Trm.G1
section
variable {R:Type} {c:Ctx} {l:List Int}
theorem Runs.congr {α:Type} {p q:(α→CK→Option R)→(Int→CK→Option R)→Option R} {r:Rz α} (h:∀K Kp,p K Kp=q K Kp) (hq:Runs c l q r):Runs c l p r:=by
 have e:p=q:=funext fun K=>funext fun Kp=>h K Kp
 rw[e];exact hq
theorem zkXa {α:Type} (b:α) (o:List α):rng (b::o).reverse 0 (o.length:Int)=o.reverse:=by
 unfold rng;simp
theorem zy2a {B S:Nat} {v:VS} (h:Go B S v) (hB:B≤most):Runs (R:=R) c l (zyaa (emb c l v)) (leave v):=by
 have hm:most=4294967296:=rfl;obtain ⟨s,o⟩:=v;cases o with
 |nil=>exact absurd rfl h.ne
 |cons b o =>
  have hop:=h.op;simp only[List.length_cons]at hop;obtain ⟨t1,t2,t3⟩:=zk0a b o (0,[],[],0,false,()) (by omega);have hb:=(h.inv.blk b (List.mem_cons_self ..)).2;have hp:=popsG (R:=R) (c:=c) (l:=l) h b.2.2.1 (by omega);refine Runs.congr (q:=fun K Kp=>zcaa (emb c l (s,b::o)) b.2.2.1 (fun a s=>(fun (_:List Int) (b5:CK) (K:Blk→CK→Option R) (Kp:Int→CK→Option R)=>if ((b5.2.2.1.length:Int)=b.2.2.2.1) then (if (0:Int)≤0∧0≤IntKind.i64.wrap ((b5.2.2.2.1.length:Int)-1)∧IntKind.i64.wrap ((b5.2.2.2.1.length:Int)-1)≤b5.2.2.2.1.length then K b (b5.1,(b5.2.1,(b5.2.2.1,(rng b5.2.2.2.1 0 (IntKind.i64.wrap ((b5.2.2.2.1.length:Int)-1)),b5.2.2.2.2)))) else none) else Kp 6 b5) a s K Kp) (fun e s=>Kp e s)) ?_ ?_
  ·intro K Kp;unfold zyaa;simp only[zKaa];have e0:(emb c l (s,b::o)).2.2.2.1=(b::o).reverse:=rfl;simp only[e0,t1,Int.toNat_natCast];rw[t3,cond_true,t2];simp only[znza,zhKa,beq_iff_eq]
  ·show Runs c l _ (V.bind (pops b.2.2.1) (fun _ v=>if (v.1.length:Int)=b.2.2.2.1 then .ok (b,(v.1,v.2.tail)) else .error 6) (s,b::o));refine Runs.bind hp fun a v1 hv=>?_
   obtain ⟨i1,i2,_⟩:=Step.pops b.2.2.1 S (s,b::o) a v1 h.inv hv;obtain ⟨s1,o1⟩:=v1;simp only at i2;subst i2;simp only;by_cases hc:(s1.length:Int)=b.2.2.2.1
   ·rw[if_pos hc];refine Runs.mk fun K Kp=>?_
    have e1:(emb c l (s1,b::o)).2.2.1=s1.reverse:=rfl;have e2:(emb c l (s1,b::o)).2.2.2.1=(b::o).reverse:=rfl;have e3:((emb c l (s1,b::o)).2.2.1.length:Int)=b.2.2.2.1:=by rw[e1,List.length_reverse]; exact hc
    rw[if_pos e3,e2,t1,if_pos (by simp; omega),zkXa];rfl
   ·rw[if_neg hc];refine Runs.mkE fun K Kp=>⟨emb c l (s1,b::o),?_⟩
    have e1:(emb c l (s1,b::o)).2.2.1=s1.reverse:=rfl;have e3:¬((emb c l (s1,b::o)).2.2.1.length:Int)=b.2.2.2.1:=by rw[e1,List.length_reverse]; exact hc
    rw[if_neg e3]
theorem deadG {B S:Nat} {v:VS} (h:Go B S v):∃v',dead v = .ok ((),v')∧∀K:CK→Option R,zwaa (emb c l v) K=K (emb c l v'):=by
 have hm:most=4294967296:=rfl;obtain ⟨s,o⟩:=v;cases o with
 |nil=>exact absurd rfl h.ne
 |cons b o =>
  have hop:=h.op;have hw:=h.inv.wf;simp only[List.length_cons]at hop;simp only at hw;obtain ⟨t1,t2,t3⟩:=zk0a b o (0,[],[],0,false,()) (by omega);have w1:=hw.1;have w2:=hw.2.1;refine ⟨_,rfl,fun K=>?_⟩;unfold zwaa;simp only[zKaa];have e0:(emb c l (s,b::o)).2.2.2.1=(b::o).reverse:=rfl;have e1:(emb c l (s,b::o)).2.2.1=s.reverse:=rfl;simp only[e0,e1,t1,Int.toNat_natCast];rw[t3,cond_true,t2,znza,if_pos (by simp only[List.length_reverse]; omega)];have e2:rng s.reverse 0 b.2.2.2.1=(s.drop (s.length-b.2.2.2.1.toNat)).reverse:=by
   unfold rng;simp[List.take_reverse]
  have e3:∀x:Blk,List.set (b::o).reverse o.length x=(x::o).reverse:=by
   intro x;rw[List.reverse_cons,List.set_append_right _ _ (by simp)];simp
  rw[e2,e3];rfl
theorem zh3a {B S:Nat} {v:VS} (h:Go B S v) (n:Int):Runs (R:=R) c l (znaa (emb c l v) n) (label n v):=by
 have hm:most=4294967296:=rfl;obtain ⟨s,o⟩:=v;have hop:=h.op;simp only at hop;have e0:(emb c l (s,o)).2.2.2.1=o.reverse:=rfl;have hun:∀K Kp,znaa (R:=R) (emb c l (s,o)) n K Kp=if 0≤n∧n<o.length then (if 0≤IntKind.i64.wrap (IntKind.i64.wrap ((o.length:Int)-1)-n)∧IntKind.i64.wrap (IntKind.i64.wrap ((o.length:Int)-1)-n)<o.length then K (lab (o.reverse.getD (IntKind.i64.wrap (IntKind.i64.wrap ((o.length:Int)-1)-n)).toNat (0,[],[],0,false,()))) (emb c l (s,o)) else none) else Kp 7 (emb c l (s,o)):=by
  intro K Kp;unfold znaa;have e1:∀(x:Blk) (K:List Int→Option R),zbga x K=K (lab x):=by
   intro x K;unfold zbga lab;simp only[znCa];split<;>rfl
  simp only[zKaa,e0,zhKa,e1,zDaa,zkda,List.length_reverse];by_cases h1:0≤n
  ·rw[if_pos (by omega)];by_cases h2:n<o.length
   ·rw[if_pos (decide_eq_true h2),if_pos (show 0≤n∧n<(o.length:Int) from ⟨h1,h2⟩)]
   ·rw[if_neg (by simpa using h2),if_neg (fun h=>h2 h.2)]
  ·rw[if_neg (by omega),if_neg (by simp),if_neg (fun h=>h1 h.1)]
 unfold label;simp only;by_cases hc:0≤n∧n<o.length
 ·rw[if_pos hc];refine Runs.mk fun K Kp=>?_
  rw[hun,if_pos hc];have e2:IntKind.i64.wrap (IntKind.i64.wrap ((o.length:Int)-1)-n)=(o.length:Int)-1-n:=by rw[w_i64 (n:=(o.length:Int)-1) (by omega),w_i64 (by omega)]
  rw[e2,if_pos (by omega)];have e3:o.reverse.getD ((o.length:Int)-1-n).toNat (0,[],[],0,false,())=o.getD n.toNat (0,[],[],0,false,()):=by
   rw[List.getD_eq_getElem?_getD,List.getD_eq_getElem?_getD,List.getElem?_reverse (by omega)]
   congr 2
   omega
  rw[e3]
 ·rw[if_neg hc];refine Runs.mkE fun K Kp=>⟨emb c l (s,o),?_⟩
  rw[hun,if_neg hc]
end
end Go.Trm.V
namespace Go.Trm.V
open Go.Trm.G1
section
variable {R:Type} {c:Ctx} {l:List Int} {B:Nat}
def Sim (R:Type) (c:Ctx) (l:List Int) (B d:Nat) {α:Type} (p:CK→(α→CK→Option R)→(Int→CK→Option R)→Option R) (f:M α):Prop:=∀S v,Go B S v→S+d≤most→Runs c l (p (emb c l v)) (f v)
def SimU (R:Type) (c:Ctx) (l:List Int) (B d:Nat) (p:CK→(CK→Option R)→(Int→CK→Option R)→Option R) (f:M Unit):Prop:=∀S v,Go B S v→S+d≤most→Runs c l (fun (K:Unit→CK→Option R) Kp=>p (emb c l v) (fun s=>K () s) Kp) (f v)
theorem Sim.mono {d d':Nat} {α:Type} {p:CK→(α→CK→Option R)→(Int→CK→Option R)→Option R} {f:M α} (h:Sim R c l B d p f) (hd:d≤d'):Sim R c l B d' p f:=fun S v g hs=>h S v g (by omega)
theorem SimU.mono {d d':Nat} {p:CK→(CK→Option R)→(Int→CK→Option R)→Option R} {f:M Unit} (h:SimU R c l B d p f) (hd:d≤d'):SimU R c l B d' p f:=fun S v g hs=>h S v g (by omega)
theorem SimU.congr {d:Nat} {p q:CK→(CK→Option R)→(Int→CK→Option R)→Option R} {f:M Unit} (h:SimU R c l B d q f) (e:∀v K Kp,p (emb c l v) K Kp=q (emb c l v) K Kp):SimU R c l B d p f:=fun S v g hs=>Runs.congr (fun _ _=>e v _ _) (h S v g hs)
theorem SimU.bindV {d d':Nat} {α:Type} {p:CK→(α→CK→Option R)→(Int→CK→Option R)→Option R} {f:M α} {q:α→CK→(CK→Option R)→(Int→CK→Option R)→Option R} {g:α→M Unit} {φ:VS→α→VS→Prop} (h:Sim R c l B d p f) (hs:Step B d f φ) (hφ:∀v a v',φ v a v'→v'.2.length=v.2.length)
  (k:∀v a v',φ v a v'→SimU R c l B d' (q a) (g a)):SimU R c l B (d+d') (fun s K Kp=>p s (fun a s=>q a s K Kp) (fun e s=>Kp e s)) (bind f g):=by
 intro S v hg hd;refine Runs.bind (p:=p (emb c l v)) (q:=fun a s K Kp=>q a s (fun s=>K () s) Kp) (h S v hg (by omega)) fun a v1 hv=>?_
 obtain ⟨i1,i2⟩:=hs S v a v1 hg.inv hv;exact k v a v1 i2 (S+d) v1 (hg.of i1 (by omega) (hφ _ _ _ i2)) (by omega)
theorem SimU.bindU {d d':Nat} {p:CK→(CK→Option R)→(Int→CK→Option R)→Option R} {f:M Unit} {q:CK→(CK→Option R)→(Int→CK→Option R)→Option R} {g:M Unit} {φ:VS→Unit→VS→Prop} (h:SimU R c l B d p f) (hs:Step B d f φ) (hφ:∀v a v',φ v a v'→v'.2.length=v.2.length)
  (k:∀v v',f v = .ok ((),v')→SimU R c l B d' q g):SimU R c l B (d+d') (fun s K Kp=>p s (fun s=>q s K Kp) (fun e s=>Kp e s)) (bind f fun _=>g):=by
 intro S v hg hd;refine Runs.bind (p:=fun K Kp=>p (emb c l v) (fun s=>K () s) Kp) (q:=fun _ s K Kp=>q s (fun s=>K () s) Kp) (h S v hg (by omega)) fun a v1 hv=>?_
 obtain ⟨i1,i2⟩:=hs S v a v1 hg.inv hv;exact k v v1 hv (S+d) v1 (hg.of i1 (by omega) (hφ _ _ _ i2)) (by omega)
theorem SimU.ret:SimU R c l B 0 (fun s K _=>K s) (V.ret ()):=fun _ _ _ _=>Runs.mk fun _ _=>rfl
theorem Sim.pop (t:Int):Sim R c l B 0 (fun s K Kp=>zhaa s t K Kp) (V.pop t):=fun _ _ h _=>popG h t
theorem Sim.pops (ts:List Int) (hl:ts.length≤most):Sim R c l B 0 (fun s K Kp=>zcaa s ts K Kp) (V.pops ts):=fun _ _ h _=>popsG h ts hl
theorem Sim.label (n:Int):Sim R c l B 0 (fun s K Kp=>znaa s n K Kp) (V.label n):=fun _ _ h _=>zh3a h n
theorem SimU.push (xs:List Int):SimU R c l B xs.length (fun s K _=>ziaa s xs K) (V.push xs):=fun S v h hd=>Runs.mk fun K Kp=>ztXa v xs (by have:=h.inv.len; omega) _
theorem SimU.dead:SimU R c l B 0 (fun s K _=>zwaa s K) V.dead:=by
 intro S v h hd;obtain ⟨v',e,k⟩:=deadG (R:=R) (c:=c) (l:=l) h;rw[e];exact Runs.mk fun K Kp=>k _
theorem SimU.enter (op:Int) (a b:List Int):SimU R c l B a.length (fun s K _=>ztaa s op a b K) (V.enter op a b):=fun S v h hd=>Runs.mk fun K Kp=>zvVa v op a b (by have:=h.inv.len; omega) h.op _
theorem SimU.want (b:Bool) (e:Int):SimU R c l B 0 (fun s K Kp=>zraa b e (K s) (fun y=>Kp y s)) (V.want b e):=by
 intro S v h hd;unfold V.want;by_cases hb:b=true
 ·rw[if_pos hb];exact Runs.mk fun K Kp=>by show zraa b e _ _=_; rw[zhKa,if_pos hb]
 ·rw[if_neg hb];exact Runs.mkE fun K Kp=>⟨emb c l v,by show zraa b e _ _=_; rw[zhKa,if_neg hb]⟩
theorem SimU.has (n m:Int):SimU R c l B 0 (fun s K Kp=>zLaa n m (K s) (fun y=>Kp y s)) (V.has n m):=by
 intro S v h hd;unfold V.has V.want;by_cases hb:0≤n∧n<m
 ·rw[if_pos (decide_eq_true hb)];exact Runs.mk fun K Kp=>by show zLaa n m _ _=_; rw[zH2a,if_pos hb]
 ·rw[if_neg (by simpa using hb)];exact Runs.mkE fun K Kp=>⟨emb c l v,by show zLaa n m _ _=_; rw[zH2a,if_neg hb]⟩
theorem zk3a {n m:Int} {v v':VS} (h:has n m v = .ok ((),v')):0≤n∧n<m:=by
 unfold V.has V.want at h;split at h
 ·rename_i hb;exact of_decide_eq_true hb
 ·cases h
theorem zQ1a {b:Bool} {e:Int} {v v':VS} (h:want b e v = .ok ((),v')):b=true:=by
 unfold V.want at h;split at h
 ·assumption
 ·cases h
theorem SimU.guard {i:Int} {n D:Nat} {q:CK→(CK→Option R)→(Int→CK→Option R)→Option R} {g:M Unit} (h:0≤i∧i<n) (hU:SimU R c l B D q g):SimU R c l B D (fun s K Kp=>cond (inB i n) (q s K Kp) none) g:=hU.congr fun v K Kp=>by rw[zkda,if_pos h]
theorem zr0a {α:Type}:∀(v:VS) (a:α) (v':VS),same v a v'→v'.2.length=v.2.length:=fun _ _ _ h=>by rw[h]
theorem zo1a {α:Type}:∀(v:VS) (a:α) (v':VS),(fun (v:VS) (_:α) (v':VS)=>v'=v) v a v'→v'.2.length=v.2.length:=fun _ _ _ h=>by rw[h]
theorem zD0a:∀(ts:List Int) (v:VS) (a:List Int) (v':VS),(fun v r v'=>v'.2=v.2∧r.length=ts.length) v a v'→v'.2.length=v.2.length:=fun _ _ _ _ h=>by rw[h.1]
theorem SimU.hasB {d':Nat} {n m:Int} {q:CK→(CK→Option R)→(Int→CK→Option R)→Option R} {g:M Unit} (k:0≤n∧n<m→SimU R c l B d' q g):SimU R c l B d' (fun s K Kp=>zLaa n m (q s K Kp) (fun y=>Kp y s)) (V.bind (V.has n m) fun _=>g):=(SimU.bindU (SimU.has n m) Step.has zo1a (fun v v' h=>k (zk3a h))).mono (by omega)
theorem SimU.wantB {d':Nat} {b:Bool} {e:Int} {q:CK→(CK→Option R)→(Int→CK→Option R)→Option R} {g:M Unit} (k:b=true→SimU R c l B d' q g):SimU R c l B d' (fun s K Kp=>zraa b e (q s K Kp) (fun y=>Kp y s)) (V.bind (V.want b e) fun _=>g):=(SimU.bindU (SimU.want b e) Step.want zo1a (fun v v' h=>k (zQ1a h))).mono (by omega)
theorem SimU.popB {d':Nat} {t:Int} {q:Int→CK→(CK→Option R)→(Int→CK→Option R)→Option R} {g:Int→M Unit} (k:∀a,SimU R c l B d' (q a) (g a)):SimU R c l B d' (fun s K Kp=>zhaa s t (fun a s=>q a s K Kp) (fun e s=>Kp e s)) (V.bind (V.pop t) g):=(SimU.bindV (Sim.pop t) Step.pop zr0a (fun _ a _ _=>k a)).mono (by omega)
theorem SimU.popsB {d':Nat} {ts:List Int} (hl:ts.length≤most) {q:List Int→CK→(CK→Option R)→(Int→CK→Option R)→Option R} {g:List Int→M Unit} (k:∀a,a.length=ts.length→SimU R c l B d' (q a) (g a)):SimU R c l B d' (fun s K Kp=>zcaa s ts (fun a s=>q a s K Kp) (fun e s=>Kp e s)) (V.bind (V.pops ts) g):=(SimU.bindV (Sim.pops ts hl) (Step.pops ts) (zD0a ts) (fun _ a _ h=>k a h.2)).mono (by omega)
theorem SimU.labelB {d':Nat} {n:Int} {q:List Int→CK→(CK→Option R)→(Int→CK→Option R)→Option R} {g:List Int→M Unit} (k:∀a,a.length≤B→SimU R c l B d' (q a) (g a)):SimU R c l B d' (fun s K Kp=>znaa s n (fun a s=>q a s K Kp) (fun e s=>Kp e s)) (V.bind (V.label n) g):=(SimU.bindV (Sim.label n) Step.label (fun _ _ _ h=>by rw[h.1]) (fun _ a _ h=>k a h.2)).mono (by omega)
theorem SimU.does (a b:List Int) (ha:a.length≤most):SimU R c l B b.length (fun s K Kp=>zlaa s a b K Kp) (V.does a b):=SimU.popsB ha (fun _ _=>SimU.push b)
end
end Go.Trm.V
namespace Go.Trm.V
open Go.Trm.G1
section
variable {R:Type} {c:Ctx} {l:List Int} {B:Nat}
theorem zt2a {X E:Type} (dflt:E) (Bd:(X→Option R)→X→Option R) (mkX:Int→CK→X) (P:E→CK→(CK→Option R)→(Int→CK→Option R)→Option R) (f:E→M Unit) (fs:List E→M Unit) (h0:fs []=ret ()) (h1:∀n ns,fs (n::ns)=bind (f n) fun _=>fs ns) (kp:Int→CK→Option R) (kx:CK→Option R) (ls:List E) (hl:ls.length≤most)
  (hB:∀rec (i:Int) s,Bd rec (mkX i s)=cond (decide (i<(ls.length:Int))) (cond (inB i ls.length) (P (ls.getD i.toNat dflt) s (fun s=>rec (mkX (IntKind.i64.wrap (i+1)) s)) kp) none) (kx s))
  (Q:List E→VS→Prop) (hP:∀n rest v,Q (n::rest) v→Runs c l (fun (K:Unit→CK→Option R) Kp=>P n (emb c l v) (fun s=>K () s) Kp) (f n v)∧∀v',f n v = .ok ((),v')→Q rest v') :
  ∀(rest:List E) (i m:Nat) (v:VS),ls.drop i=rest→i+rest.length=ls.length→rest.length≤m→Q rest v→(match fs rest v with
   | .ok q=>loopN Bd (m+1) (mkX i (emb c l v))=kx (emb c l q.2)
   | .error e=>∃k,loopN Bd (m+1) (mkX i (emb c l v))=kp e k):=by
 have hm:most=4294967296:=rfl;intro rest
 induction rest with
 |nil =>
  intro i m v hd hi h hq;rw[h0];simp only[ret,List.length_nil]at hi ⊢;rw[zaaa,hB,zDaa,if_neg (by omega)]
 |cons n ns ih =>
  intro i m v hd hi h hq;simp only[List.length_cons]at hi h;obtain ⟨m,rfl⟩:∃k,m=k+1:=⟨m-1,by omega⟩
  have hx:ls.getD i dflt=n∧ls.drop (i+1)=ns:=by
   rw[zhza ls i dflt (by omega)]at hd
   injection hd with a b
   exact ⟨a,b⟩
  have hst:loopN Bd (m+1+1) (mkX i (emb c l v))=P n (emb c l v) (fun s=>loopN Bd (m+1) (mkX ((i+1:Nat):Int) s)) kp:=by
   rw[zaaa,hB,zDaa,if_pos (by omega),zkda,if_pos (by omega),Int.toNat_natCast,hx.1,w_i64 (by omega)];rfl
  obtain ⟨hr,hn⟩:=hP n ns v hq;rw[h1];unfold V.bind;cases hf:f n v with
  |error e =>
   obtain ⟨k,hk⟩:=hr.err hf (fun _ s=>loopN Bd (m+1) (mkX ((i+1:Nat):Int) s)) kp;exact ⟨k,hst.trans hk⟩
  |ok q =>
   obtain ⟨u,v1⟩:=q;have hk:=hr.ok hf (fun _ s=>loopN Bd (m+1) (mkX ((i+1:Nat):Int) s)) kp;have:=ih (i+1) m v1 hx.2 (by omega) (by omega) (hn v1 hf);simp only at this ⊢;cases hg:fs ns v1 with
   |error e =>
    rw[hg]at this;obtain ⟨k,ht⟩:=this;exact ⟨k,hst.trans (hk.trans ht)⟩
   |ok q2=>rw[hg]at this; exact hst.trans (hk.trans this)
theorem zR0a {X E:Type} (dflt:E) (Bd:(X→Option R)→X→Option R) (mkX:Int→CK→X) (P:E→CK→(CK→Option R)→(Int→CK→Option R)→Option R) (f:E→M Unit) (fs:List E→M Unit) (h0:fs []=ret ()) (h1:∀n ns,fs (n::ns)=bind (f n) fun _=>fs ns) (kp:Int→CK→Option R) (kx:CK→Option R) (ls:List E) (hl:ls.length≤most)
  (hB:∀rec (i:Int) s,Bd rec (mkX i s)=cond (decide (i<(ls.length:Int))) (cond (inB i ls.length) (P (ls.getD i.toNat dflt) s (fun s=>rec (mkX (IntKind.i64.wrap (i+1)) s)) kp) none) (kx s))
  (Q:List E→VS→Prop) (hP:∀n rest v,Q (n::rest) v→Runs c l (fun (K:Unit→CK→Option R) Kp=>P n (emb c l v) (fun s=>K () s) Kp) (f n v)∧∀v',f n v = .ok ((),v')→Q rest v')
  (v:VS) (hq:Q ls v):(match fs ls v with
   | .ok q=>loopN Bd zpaa (mkX 0 (emb c l v))=kx (emb c l q.2)
   | .error e=>∃k,loopN Bd zpaa (mkX 0 (emb c l v))=kp e k):=by
 have hm:most=4294967296:=rfl;obtain ⟨m,hf⟩:=zZva (ls.length+1) (by omega);have:=zt2a dflt Bd mkX P f fs h0 h1 kp kx ls hl hB Q hP ls 0 (m+ls.length) v rfl (by omega) (by omega) hq;have e:zpaa=m+ls.length+1:=by omega
 rw[e];exact this
theorem zV0a {d:Nat} {p:CK→(CK→Option R)→(Int→CK→Option R)→Option R} {f:M Unit} (h:∀S v,Go B S v→S+d≤most→∀K Kp,match f v with
   | .ok q=>p (emb c l v) K Kp=K (emb c l q.2)
   | .error e=>∃k,p (emb c l v) K Kp=Kp e k):SimU R c l B d p f:=by
 intro S v g hd K Kp;have:=h S v g hd (fun s=>K () s) Kp;cases hf:f v with
 |error e=>rw[hf]at this; exact this
 |ok q=>rw[hf]at this; exact this
theorem tab3U (x:Ins) (r ls:List Int) (hl:ls.length≤most) (kx:Ins→List Int→CK→(CK→Option R)→(Int→CK→Option R)→Option R) {d:Nat} {g:M Unit} (hk:SimU R c l B d (kx x r) g) :
  SimU R c l B d (fun s K Kp=>loopN (zRca (fun y w=>Kp y w) (fun a b s=>kx a b s K Kp)) zpaa ⟨x,r,ls,(ls.length:Int),0,s⟩) (bind (zMba ls) fun _=>g):=by
 refine zV0a fun S v hg hd K Kp=>?_
 have:=zR0a (c:=c) (l:=l) (0:Int) (zRca (fun y w=>Kp y w) (fun a b s=>kx a b s K Kp)) (fun i s=>⟨x,r,ls,(ls.length:Int),i,s⟩) (fun n s K Kp=>znaa s n (fun _ s=>K s) Kp) (fun n=>bind (label n) fun _=>ret ()) zMba rfl
  (fun n ns=>by
   funext v
   show V.bind (label n) (fun _=>zMba ns) v=_;unfold V.bind V.ret;cases label n v<;>rfl) (fun y w=>Kp y w) (fun s=>kx x r s K Kp) ls hl (fun rec i s=>rfl) (fun _ v=>Go B S v)
  (fun n rest v hq=>⟨(SimU.labelB (d':=0) (fun _ _=>SimU.ret)) S v hq hq.le,fun v' e=>by
   obtain ⟨a,v1,e1,e2⟩:=znga e;cases e2;obtain ⟨i1,i2,_⟩:=Step.label S v a _ hq.inv e1;rw[i2];exact hq⟩) v hg
 unfold V.bind;cases hf:zMba ls v with
 |error e=>rw[hf]at this; exact this
 |ok q =>
  obtain ⟨u,v1⟩:=q;rw[hf]at this;obtain ⟨_,i2⟩:=Step.labelsEach ls S v u v1 hg.inv hf;subst i2;have h2:=hk S v1 hg hd (fun _ s=>K s) Kp;simp only;cases hf2:g v1 with
  |error e =>
   rw[hf2]at h2;obtain ⟨k,h2⟩:=h2;exact ⟨k,this.trans h2⟩
  |ok q2=>rw[hf2]at h2; exact this.trans h2
theorem tab9U (r ls:List Int) (hl:ls.length≤most) (hB:B≤most) (kx:List Int→CK→(CK→Option R)→(Int→CK→Option R)→Option R) {d:Nat} {g:M Unit} (hk:SimU R c l B d (kx r) g) :
  SimU R c l B (ls.length*B+d) (fun s K Kp=>loopN (zSba (fun y w=>Kp y w) (fun b s=>kx b s K Kp)) zpaa ⟨r,ls,(ls.length:Int),0,s⟩) (bind (zoea r.length ls) fun _=>g):=by
 refine zV0a fun S v hg hd K Kp=>?_
 have hf1:∀n,SimU R c l B B (fun s K Kp=>znaa s n (fun t s=>zraa (((t.length:Nat):Int)==((r.length:Nat):Int)) 6 (zcaa s t (fun a s=>ziaa s a (fun s=>K s)) (fun y w=>Kp y w)) (fun y=>Kp y s)) (fun y w=>Kp y w)) (bind (label n) fun t=>bind (want (t.length==r.length) 6) fun _=>bind (pops t) fun r=>push r):=by
  intro n;refine SimU.labelB fun t ht=>?_
  have e:((t.length:Int)==(r.length:Int))=(t.length==r.length):=by
   rw[Bool.eq_iff_iff]; simp; omega
  rw[e];refine SimU.wantB fun _=>?_
  exact SimU.popsB (by omega) fun a ha=>(SimU.push a).mono (by omega)
 have hs1:∀n,Step B B (bind (label n) fun t=>bind (want (t.length==r.length) 6) fun _=>bind (pops t) fun r=>push r) same:=by
  intro n;refine ((Step.label.bind (d':=B) (ψ:=same) (χ:=same) (fun t ht=>?_) (fun _ _ _ _ _ h1 h2=>by rw[same,h2,h1.1])).mono (by omega) fun _ _ _ h=>h);obtain ⟨_,_,_,ht⟩:=ht;refine (Step.want.bind (d':=B) (ψ:=same) (χ:=same) (fun _ _=>?_) (fun _ _ _ _ _ h1 h2=>by rw[same,h2,h1])).mono (by omega) fun _ _ _ h=>h
  refine ((Step.pops t).bind (d':=B) (ψ:=same) (χ:=same) (fun r hr=>?_) (fun _ _ _ _ _ h1 h2=>by rw[same,h2,h1.1])).mono (by omega) fun _ _ _ h=>h
  obtain ⟨_,_,_,hr⟩:=hr;exact (Step.push r).mono (by omega) fun _ _ _ h=>h
 have:=zR0a (c:=c) (l:=l) (0:Int) (zSba (fun y w=>Kp y w) (fun b s=>kx b s K Kp)) (fun i s=>⟨r,ls,(ls.length:Int),i,s⟩) (fun n s K Kp=>znaa s n (fun t s=>zraa (((t.length:Nat):Int)==((r.length:Nat):Int)) 6 (zcaa s t (fun a s=>ziaa s a (fun s=>K s)) (fun y w=>Kp y w)) (fun y=>Kp y s)) (fun y w=>Kp y w)) (fun n=>bind (label n) fun t=>bind (want (t.length==r.length) 6) fun _=>bind (pops t) fun r=>push r) (zoea r.length) rfl
  (fun n ns=>by
   funext v
   show V.bind (label n) (fun t=>V.bind (want (t.length==r.length) 6) fun _=>V.bind (pops t) fun q=>V.bind (push q) fun _=>zoea r.length ns) v=_;unfold V.bind;cases label n v with
   |error e=>rfl
   |ok q =>
    simp only;cases want (q.1.length==r.length) 6 q.2 with
    |error e=>rfl
    |ok q2 =>
     simp only;cases pops q.1 q2.2<;>rfl) (fun y w=>Kp y w) (fun s=>kx r s K Kp) ls hl (fun rec i s=>rfl) (fun rest v'=>∃S',Go B S' v'∧v'.2.length=v.2.length∧S'+rest.length*B+d≤most)
  (fun n rest v hq=>by
   obtain ⟨S',q1,q2,q3⟩:=hq;simp only[List.length_cons,Nat.add_mul]at q3;refine ⟨hf1 n S' v q1 (by omega),fun v' e=>?_⟩;obtain ⟨i1,i2⟩:=hs1 n S' v () v' q1.inv e;exact ⟨S'+B,q1.of i1 (by omega) (by rw[i2]),by rw[i2]; exact q2,by omega⟩) v ⟨S,hg,rfl,by omega⟩
 unfold V.bind;cases hf:zoea r.length ls v with
 |error e=>rw[hf]at this; exact this
 |ok q =>
  obtain ⟨u,v1⟩:=q;rw[hf]at this;obtain ⟨i1,i2⟩:=Step.popsEach (B:=B) (k:=r.length) ls S v u v1 hg.inv hf;have h2:=hk (S+ls.length*B) v1 (hg.of i1 (by omega) (by rw[i2])) (by omega) (fun _ s=>K s) Kp;simp only;cases hf2:g v1 with
  |error e =>
   rw[hf2]at h2;obtain ⟨k,h2⟩:=h2;exact ⟨k,this.trans h2⟩
  |ok q2=>rw[hf2]at h2; exact this.trans h2
theorem za3a (x:Ins) (hx:x.2.2.2.2.1.length≤64) (hB:B≤most):SimU R c l B (64*B) (fun s K Kp=>ztda s x K Kp) (V.table x):=by
 have hm:most=4294967296:=rfl;have h64:x.2.2.2.2.1.length*B≤64*B:=Nat.mul_le_mul_right _ hx;unfold V.table;refine SimU.labelB fun last hl=>?_
 refine tab3U x last x.2.2.2.2.1 (by omega) (fun w6 w7 w8 K Kp=>zhaa w8 (127:Int) (fun r9 b10=>loopN (zSba (fun y13 w12=>Kp y13 w12) (fun w14 w15=>zcaa w15 w14 (fun r16 b17=>zwaa b17 fun b18=>K b18) (fun y19 b20=>Kp y19 b20))) zpaa ⟨w7,w6.2.2.2.2.1,((List.length w6.2.2.2.2.1:Nat):Int),(0:Int),b10⟩) (fun y21 b22=>Kp y21 b22)) ?_;refine SimU.popB fun _=>?_
 exact (tab9U (d:=0) last x.2.2.2.2.1 (by omega) hB (fun w14 w15 K Kp=>zcaa w15 w14 (fun r16 b17=>zwaa b17 fun b18=>K b18) (fun y19 b20=>Kp y19 b20)) (SimU.popsB (by omega) fun _ _=>SimU.dead)).mono (by omega)
end
end Go.Trm.V
namespace Go.Trm.V
open Go.Trm.G1
section
variable {R:Type} {c:Ctx} {l:List Int} {B:Nat}
theorem zoYa (xs:List Int) (h:xs.length≤most) (K:List Int→Option R):zUca xs K=K xs:=by
 unfold zUca;have e:(List.replicate 0 (0:Int))=[]:=rfl;simp only[e,List.length_nil,Nat.zero_add,zDaa,List.nil_append];rw[if_pos h];cases xs with
 |nil=>simp[zKaa]
 |cons=>rfl
theorem zfWa (t:FT) (h1:t.1.length≤most) (h2:t.2.1.length≤most) (K:FT→Option R):zPea t K=K t:=by
 unfold zPea;rw[zoYa _ h1,zoYa _ h2]
theorem zcWa (a n:Int) (K:Bool→Option R):zLda a n K=K (decide (0≤a∧a<n)):=by
 unfold zLda;simp only[zDaa];by_cases h1:0≤a
 ·rw[if_pos h1]
  congr 1
  by_cases h2:a<n
  ·rw[decide_eq_true h2,decide_eq_true ⟨h1,h2⟩]
  ·rw[decide_eq_false h2,decide_eq_false (fun h=>h2 h.2)]
 ·rw[if_neg h1,decide_eq_false (fun h=>h1 h.1)]
theorem zvYa (hc:CtxOk B c) (hB:B≤most) (t:Int) (K:FT→Bool→Option R):zIfa c t K=match zrHa c t with
  |some u=>K u true
  |none=>K ([],[],()) false:=by
 unfold zIfa zrHa;simp only[znCa,zcWa,zDaa,zkda];by_cases h1:t = -64
 ·rw[if_pos h1,if_pos h1]
 rw[if_neg h1,if_neg h1];by_cases h2:t = -1
 ·rw[if_pos h2,if_pos h2]; rfl
 rw[if_neg h2,if_neg h2];by_cases h3:t = -2
 ·rw[if_pos h3,if_pos h3]; rfl
 rw[if_neg h3,if_neg h3];by_cases h4:0≤t∧t<c.1.length
 ·rw[if_pos h4,if_pos h4];have:=zQwa hc t.toNat;simp only[if_pos h4];exact zfWa _ (by omega) (by omega) _
 ·rw[if_neg h4,if_neg h4]
theorem zDZa (hc:CtxOk B c) (hB:B≤most) (f:Int) (K:FT→Bool→Option R):zPga c f K=match typeT c f with
  |some u=>K u true
  |none=>K ([],[],()) false:=by
 unfold zPga typeT;simp only[zcWa,znwa,zDaa,zkda];by_cases h1:0≤f∧f<c.2.1.length
 ·rw[if_pos h1,if_pos h1];simp only[if_pos h1];by_cases h2:0≤c.2.1.getD f.toNat 0∧c.2.1.getD f.toNat 0<c.1.length
  ·rw[if_pos h2,if_pos h2];have:=zQwa hc (c.2.1.getD f.toNat 0).toNat;simp only[if_pos h2];exact zfWa _ (by omega) (by omega) _
  ·rw[if_neg h2,if_neg h2]
 ·rw[if_neg h1,if_neg h1]
theorem zkYa (a b:List Int) (kF kT:Option R) (hl:a.length=b.length) (hm:a.length≤most):∀(n i m:Nat),i+n=a.length→n≤m→loopN (zoba (fun _=>kF) kT) (m+1) ⟨a,b,(a.length:Int),(i:Int)⟩=if a.drop i=b.drop i then kT else kF:=by
 have h4:most=4294967296:=rfl;intro n
 induction n with
 |zero =>
  intro i m h1 h2;rw[zaaa];unfold zoba;simp only[zDaa];rw[if_neg (by omega),List.drop_of_length_le (by omega),List.drop_of_length_le (by omega),if_pos rfl]
 |succ n ih =>
  intro i m h1 h2;obtain ⟨m,rfl⟩:∃k,m=k+1:=⟨m-1,by omega⟩
  have:=ih (i+1) m (by omega) (by omega);rw[zaaa];have e:∀rec,zoba (fun _=>kF) kT rec ⟨a,b,(a.length:Int),(i:Int)⟩=if a.getD i 0=b.getD i 0 then rec ⟨a,b,(a.length:Int),((i+1:Nat):Int)⟩ else kF:=by
   intro rec;unfold zoba;simp only[zDaa,zkda,zoIa,Int.toNat_natCast];rw[if_pos (by omega),if_pos (by omega),if_pos (by omega),w_i64 (by omega)];rfl
  rw[e,this,zhza a i 0 (by omega),zhza b i 0 (by omega)];by_cases hc:a.getD i 0=b.getD i 0
  ·rw[if_pos hc,hc]; simp only[List.cons.injEq,true_and]
  ·rw[if_neg hc,if_neg (fun h=>hc (by injection h))]
theorem zp1a (a b:List Int) (hm:a.length≤most) (K:Bool→Option R):zuia a b K=K (decide (a=b)):=by
 have h4:most=4294967296:=rfl;unfold zuia;simp only[zoIa];by_cases hl:a.length=b.length
 ·rw[if_pos (by omega)];obtain ⟨m,hf⟩:=zZva (a.length+1) (by omega);have e:zpaa=m+a.length+1:=by omega
  have e2:(zoba (fun w5=>K w5) (K true):(X_slices_EqualInt_4→Option R)→X_slices_EqualInt_4→Option R)=zoba (fun _=>K false) (K true):=by
   funext rec x
   unfold zoba;rfl
  rw[e,e2];refine (zkYa a b (K false) (K true) hl hm a.length 0 (m+a.length) (by omega) (by omega)).trans ?_;simp only[List.drop_zero];by_cases hc:a=b
  ·rw[if_pos hc,decide_eq_true hc]
  ·rw[if_neg hc,decide_eq_false hc]
 ·rw[if_neg (by omega),decide_eq_false (fun h=>hl (by rw[h]))]
theorem ztZa (a b:List Int) (h:a.length+b.length≤most) (K:List Int→Option R) (Kp:List UInt8→Option R):zsha [a,b] K Kp=K (a++b):=by
 have h4:most=4294967296:=rfl;unfold zsha;obtain ⟨m,hf⟩:=zZva 3 (by omega);rw[hf];simp only[List.length_cons,List.length_nil];have s1:∀(kp:List UInt8→Option R) (kx:List (List Int)→Int→Option R),loopN (zgba kp kx) (m+3) ⟨[a,b],0,[a,b],((0+1+1:Nat):Int),0⟩=kx [a,b] ((a.length:Int)+b.length):=by
  intro kp kx;have c1:∀rec,zgba kp kx rec ⟨[a,b],0,[a,b],((0+1+1:Nat):Int),0⟩=rec ⟨[a,b],(a.length:Int),[a,b],((0+1+1:Nat):Int),1⟩:=by
   intro rec;unfold zgba;simp only[zDaa,zkda,List.length_cons,List.length_nil];rw[if_pos (by omega),if_pos (by omega)];have:([a,b]:List (List Int)).getD (0:Int).toNat []=a:=rfl;rw[this,w_i64 (n:=0+(a.length:Int)) (by omega),if_neg (by omega),w_i64 (by omega),Int.zero_add,Int.zero_add]
  have c2:∀rec,zgba kp kx rec ⟨[a,b],(a.length:Int),[a,b],((0+1+1:Nat):Int),1⟩=rec ⟨[a,b],(a.length:Int)+b.length,[a,b],((0+1+1:Nat):Int),2⟩:=by
   intro rec;unfold zgba;simp only[zDaa,zkda,List.length_cons,List.length_nil];rw[if_pos (by omega),if_pos (by omega)];have:([a,b]:List (List Int)).getD (1:Int).toNat []=b:=rfl;rw[this,w_i64 (n:=(a.length:Int)+(b.length:Int)) (by omega),if_neg (by omega),w_i64 (by omega)];rfl
  have c3:∀rec,zgba kp kx rec ⟨[a,b],(a.length:Int)+b.length,[a,b],((0+1+1:Nat):Int),2⟩=kx [a,b] ((a.length:Int)+b.length):=by
   intro rec;unfold zgba;simp only[zDaa];rw[if_neg (by omega)]
  rw[zaaa,c1,zaaa,c2,zaaa,c3]
 rw[s1];unfold zUpa;rw[zDaa,if_pos (by simp; omega)];have c1:∀(kx:List Int→Option R) rec,zmba kx rec ⟨[],[a,b],((0+1+1:Nat):Int),0⟩=rec ⟨a,[a,b],((0+1+1:Nat):Int),1⟩:=by
  intro kx rec;unfold zmba;simp only[zDaa,zkda,List.length_cons,List.length_nil];rw[if_pos (by omega),if_pos (by omega)];have:([a,b]:List (List Int)).getD (0:Int).toNat []=a:=rfl;rw[this,if_pos (by omega),w_i64 (by omega),Int.zero_add,List.nil_append]
 have c2:∀(kx:List Int→Option R) rec,zmba kx rec ⟨a,[a,b],((0+1+1:Nat):Int),1⟩=rec ⟨a++b,[a,b],((0+1+1:Nat):Int),2⟩:=by
  intro kx rec;unfold zmba;simp only[zDaa,zkda,List.length_cons,List.length_nil];rw[if_pos (by omega),if_pos (by omega)];have:([a,b]:List (List Int)).getD (1:Int).toNat []=b:=rfl;rw[this,if_pos (by omega),w_i64 (by omega)];rfl
 have c3:∀(kx:List Int→Option R) rec,zmba kx rec ⟨a++b,[a,b],((0+1+1:Nat):Int),2⟩=kx (a++b):=by
  intro kx rec;unfold zmba;simp only[zDaa];rw[if_neg (by omega)]
 simp only[List.length_cons,List.length_nil];rw[zaaa,c1,zaaa,c2,zaaa,c3]
end
end Go.Trm.V
namespace Go.Trm.V
open Go.Trm.G1
section
variable {R:Type} {c:Ctx} {l:List Int} {B:Nat}
theorem toU {d d':Nat} {p q:CK→(CK→Option R)→(Int→CK→Option R)→Option R} {f:M Unit} (h:SimU R c l B d q f) (hd:d≤d') (e:∀v K Kp,p (emb c l v) K Kp=q (emb c l v) K Kp):SimU R c l B d' p f:=(h.congr e).mono hd
theorem zm1a {d:Nat} (e:Int):SimU R c l B d (fun s _ Kp=>Kp e s) (fails e):=fun _ v _ _=>Runs.mkE fun _ _=>⟨emb c l v,rfl⟩
theorem zB1a (g:M Unit):V.bind (V.ret ()) (fun _=>g)=g:=rfl
theorem zC1a (t:Int) (g:M Unit):V.bind (V.bind (V.pop t) fun _=>V.ret ()) (fun _=>g)=V.bind (V.pop t) fun _=>g:=by
 funext v
 unfold V.bind;cases V.pop t v<;>rfl
noncomputable abbrev tJ (x:Ins) (t:FT) (s:CK) (K:CK→Option R) (Kp:Int→CK→Option R):Option R :=
 zBaa (fun w9 w10 w11=>zcaa w11 w10.1 (fun _ b13=>ztaa b13 w9.1 w10.1 w10.2.1 fun b14=>K b14) (fun y15 b16=>Kp y15 b16)) (fun y18 w17=>Kp y18 w17) ⟨x,t,s⟩
noncomputable abbrev tB (x:Ins) (s:CK) (K:CK→Option R) (Kp:Int→CK→Option R):Option R :=
 zIfa s.1 x.2.1 (fun w6 w7=>zraa w7 (7:Int) (tJ x w6 s K Kp) (fun y19=>Kp y19 s))
theorem zy1a (hb:1≤B) (hc:CtxOk B c) (hB:B≤most) (x:Ins) (hx:x.1=2∨x.1=3∨x.1=4):SimU R c l B B (fun s K Kp=>tB x s K Kp) (V.block c x):=by
 unfold V.block;cases ht:zrHa c x.2.1 with
 |none =>
  refine toU (zm1a 7) (Nat.le_refl _) fun v K Kp=>?_
  show zIfa c x.2.1 _=_;rw[zvYa hc hB,ht];rfl
 |some t =>
  obtain ⟨b1,b2⟩:=zhWa hb hc ht;have e:∀v K Kp,tB (R:=R) x (emb c l v) K Kp=tJ x t (emb c l v) K Kp:=fun v K Kp=>by
   show zIfa c x.2.1 _=_;rw[zvYa hc hB,ht];rfl
  have hp:SimU R c l B B (fun s K Kp=>zcaa s t.1 (fun _ b13=>ztaa b13 x.1 t.1 t.2.1 fun b14=>K b14) (fun y15 b16=>Kp y15 b16)) (V.bind (V.pops t.1) fun _=>V.enter x.1 t.1 t.2.1) :=
   SimU.popsB (by omega) fun _ _=>(SimU.enter x.1 t.1 t.2.1).mono b1
  dsimp only;by_cases h4:x.1=4
  ·rw[if_pos h4,zC1a];refine toU (SimU.popB fun _=>hp) (Nat.le_refl _) fun v K Kp=>(e v K Kp).trans ?_
   show zBaa _ _ _=_;unfold zBaa;simp only[znCa];rw[if_pos h4]
  ·rw[if_neg h4,zB1a];refine toU hp (Nat.le_refl _) fun v K Kp=>(e v K Kp).trans ?_
   show zBaa _ _ _=_;unfold zBaa;simp only[znCa];rw[if_neg h4]
noncomputable abbrev cJ (x:Ins) (kr:Bool→CK→Option R) (s:CK) (K:CK→Option R) (Kp:Int→CK→Option R):Option R:=zbba (fun w=>K w) (fun y w=>Kp y w) kr ⟨x,s⟩
theorem ctl0 (hb:1≤B) (hc:CtxOk B c) (hB:B≤most) (y:Int×Int×Int×List Int×Unit) (hx:y.2.2.2.1.length≤64) (kr:Bool→CK→Option R):SimU R c l B (G B) (cJ (0,y) kr) (V.dead):=by
 have h4:most=4294967296:=rfl;exact toU SimU.dead (Nat.zero_le _) fun _ _ _=>by kernel_rfl
theorem ctl1 (hb:1≤B) (hc:CtxOk B c) (hB:B≤most) (y:Int×Int×Int×List Int×Unit) (hx:y.2.2.2.1.length≤64) (kr:Bool→CK→Option R):SimU R c l B (G B) (cJ (1,y) kr) (V.ret ()):=by
 have h4:most=4294967296:=rfl;exact toU SimU.ret (Nat.zero_le _) fun _ _ _=>by kernel_rfl
theorem ctl2 (hb:1≤B) (hc:CtxOk B c) (hB:B≤most) (y:Int×Int×Int×List Int×Unit) (hx:y.2.2.2.1.length≤64) (kr:Bool→CK→Option R):SimU R c l B (G B) (cJ (2,y) kr) (V.block c (2,y)):=by
 have h4:most=4294967296:=rfl;exact toU (zy1a hb hc hB (2,y) (by simp)) (by unfold G; omega) fun _ _ _=>by kernel_rfl
theorem ctl3 (hb:1≤B) (hc:CtxOk B c) (hB:B≤most) (y:Int×Int×Int×List Int×Unit) (hx:y.2.2.2.1.length≤64) (kr:Bool→CK→Option R):SimU R c l B (G B) (cJ (3,y) kr) (V.block c (3,y)):=by
 have h4:most=4294967296:=rfl;exact toU (zy1a hb hc hB (3,y) (by simp)) (by unfold G; omega) fun _ _ _=>by kernel_rfl
theorem ctl4 (hb:1≤B) (hc:CtxOk B c) (hB:B≤most) (y:Int×Int×Int×List Int×Unit) (hx:y.2.2.2.1.length≤64) (kr:Bool→CK→Option R):SimU R c l B (G B) (cJ (4,y) kr) (V.block c (4,y)):=by
 have h4:most=4294967296:=rfl;exact toU (zy1a hb hc hB (4,y) (by simp)) (by unfold G; omega) fun _ _ _=>by kernel_rfl
theorem ctl5 (hb:1≤B) (hc:CtxOk B c) (hB:B≤most) (y:Int×Int×Int×List Int×Unit) (hx:y.2.2.2.1.length≤64) (kr:Bool→CK→Option R):SimU R c l B (G B) (cJ (5,y) kr) (V.bind V.leave fun b=>V.enter 5 b.2.1 b.2.2.1):=by
 have h4:most=4294967296:=rfl;intro S v hg hd;refine Runs.congr (q:=fun K Kp=>zyaa (emb c l v) (fun b s=>ztaa s 5 b.2.1 b.2.2.1 fun s=>K () s) (fun e s=>Kp e s)) (fun _ _=>by kernel_rfl) ?_;refine Runs.bind (p:=zyaa (emb c l v)) (q:=fun b s K Kp=>ztaa s 5 b.2.1 b.2.2.1 fun s=>K () s) (zy2a hg hB) fun b v1 hv=>?_
 obtain ⟨i1,i2,i3,i4,_⟩:=Step.leave S v b v1 hg.inv hv;have:=i1.len;have:=hg.op;exact Runs.mk fun K Kp=>zvVa v1 5 b.2.1 b.2.2.1 (by unfold G at hd; omega) (by omega) _
theorem ctl11 (hb:1≤B) (hc:CtxOk B c) (hB:B≤most) (y:Int×Int×Int×List Int×Unit) (hx:y.2.2.2.1.length≤64) (kr:Bool→CK→Option R):SimU R c l B (G B) (cJ (11,y) kr) (V.bind V.leave fun b=>V.bind (V.want (decide (b.1≠4∨b.2.1=b.2.2.1)) 6) fun _=>V.push b.2.2.1):=by
 have h4:most=4294967296:=rfl;intro S v hg hd;refine Runs.congr (q:=fun K Kp=>zyaa (emb c l v) (fun b s=>zIaa (fun w61 w62=>ziaa w62 w61.2.2.1 fun b63=>K () b63) (fun y65 w64=>Kp y65 w64) ⟨b,s⟩) (fun e s=>Kp e s)) (fun _ _=>by kernel_rfl) ?_;refine Runs.bind (p:=zyaa (emb c l v)) (q:=fun b s K Kp=>zIaa (fun w61 w62=>ziaa w62 w61.2.2.1 fun b63=>K () b63) (fun y65 w64=>Kp y65 w64) ⟨b,s⟩) (zy2a hg hB) fun b v1 hv=>?_
 obtain ⟨i1,i2,i3,i4,_⟩:=Step.leave S v b v1 hg.inv hv;have:=i1.len;have e:∀(K:Unit→CK→Option R) (Kp:Int→CK→Option R),zIaa (fun w61 w62=>ziaa w62 w61.2.2.1 fun b63=>K () b63) (fun y65 w64=>Kp y65 w64) ⟨b,emb c l v1⟩=if b.1≠4∨b.2.1=b.2.2.1 then K () (emb c l (b.2.2.1.reverse++v1.1,v1.2)) else Kp 6 (emb c l v1):=by
  intro K Kp;unfold zIaa;simp only[zoIa];rw[zp1a _ _ (by omega)];simp only[zhKa];rw[ztXa v1 b.2.2.1 (by unfold G at hd; omega)];by_cases q1:b.1=4
  ·rw[if_pos q1];by_cases q2:b.2.1=b.2.2.1
   ·rw[if_pos (decide_eq_true q2),if_pos (Or.inr q2)]
   ·rw[if_neg (by simpa using q2),if_neg (fun h=>h.elim (fun h=>h q1) q2)]
  ·rw[if_neg q1,if_pos trivial,if_pos (Or.inl q1)]
 show Runs c l _ (V.bind (V.want (decide (b.1≠4∨b.2.1=b.2.2.1)) 6) (fun _=>V.push b.2.2.1) v1);unfold V.bind V.want;by_cases q:b.1≠4∨b.2.1=b.2.2.1
 ·rw[if_pos (decide_eq_true q)];exact Runs.mk fun K Kp=>by rw[e,if_pos q]
 ·rw[if_neg (by simpa using q)];exact Runs.mkE fun K Kp=>⟨emb c l v1,by rw[e,if_neg q]⟩
theorem ctl12 (hb:1≤B) (hc:CtxOk B c) (hB:B≤most) (y:Int×Int×Int×List Int×Unit) (hx:y.2.2.2.1.length≤64) (kr:Bool→CK→Option R):SimU R c l B (G B) (cJ (12,y) kr) (V.bind (V.label y.1) fun l=>V.bind (V.pops l) fun _=>V.dead):=by
 have h4:most=4294967296:=rfl;exact toU (SimU.labelB (d':=0) fun _ h=>SimU.popsB (by omega) fun _ _=>SimU.dead) (Nat.zero_le _) fun _ _ _=>by kernel_rfl
theorem ctl13 (hb:1≤B) (hc:CtxOk B c) (hB:B≤most) (y:Int×Int×Int×List Int×Unit) (hx:y.2.2.2.1.length≤64) (kr:Bool→CK→Option R):SimU R c l B (G B) (cJ (13,y) kr) (V.bind (V.label y.1) fun l=>V.bind (V.pop 127) fun _=>V.does l l):=by
 have h4:most=4294967296:=rfl;exact toU (SimU.labelB (d':=B) fun a h=>SimU.popB fun _=>(SimU.does a a (by omega)).mono h) (by unfold G; omega) fun _ _ _=>by kernel_rfl
theorem ctl14 (hb:1≤B) (hc:CtxOk B c) (hB:B≤most) (y:Int×Int×Int×List Int×Unit) (hx:y.2.2.2.1.length≤64) (kr:Bool→CK→Option R):SimU R c l B (G B) (cJ (14,y) kr) (V.table (14,y)):=by
 have h4:most=4294967296:=rfl;exact toU (za3a (14,y) hx hB) (by unfold G; omega) fun _ _ _=>by kernel_rfl
theorem ctl15 (hb:1≤B) (hc:CtxOk B c) (hB:B≤most) (y:Int×Int×Int×List Int×Unit) (hx:y.2.2.2.1.length≤64) (kr:Bool→CK→Option R):SimU R c l B (G B) (cJ (15,y) kr) (V.retn):=by
 have h4:most=4294967296:=rfl;intro S v hg hd;have hne:=hg.ne;obtain ⟨s,o⟩:=v;simp only at hne;obtain ⟨b,hb⟩:∃b,o.getLast?=some b:=⟨_,List.getLast?_eq_some_getLast hne⟩
 have hmem:=(hg.inv.blk b (List.mem_of_getLast? hb)).2;have e1:inB 0 o.reverse.length=true:=by
  have:0<o.length:=List.length_pos_iff.mpr hne;unfold inB;simp; omega
 have e2:∀d,o.reverse.getD 0 d=b:=by
  intro d;rw[List.getLast?_eq_head?_reverse]at hb;cases h:o.reverse with
  |nil=>rw[h]at hb; cases hb
  |cons z zs=>rw[h]at hb; cases hb; rfl
 show Runs c l _ (V.retn (s,o));unfold V.retn;simp only[hb];refine Runs.congr (fun K Kp=>?_) ((SimU.popsB (R:=R) (B:=B) (c:=c) (l:=l) (ts:=b.2.2.1) (by omega) (fun _ _=>SimU.dead)) S (s,o) hg (by omega));show cond (inB 0 o.reverse.length) (zcaa (emb c l (s,o)) (o.reverse.getD 0 (0,[],[],0,false,())).2.2.1 _ _) none=_;rw[e1,e2];rfl
theorem ctl16 (hb:1≤B) (hc:CtxOk B c) (hB:B≤most) (y:Int×Int×Int×List Int×Unit) (hx:y.2.2.2.1.length≤64) (kr:Bool→CK→Option R):SimU R c l B (G B) (cJ (16,y) kr) (match typeT c y.1 with
   |none=>V.fails 7
   |some t=>V.does t.1 t.2.1):=by
 have h4:most=4294967296:=rfl;show SimU R c l B (G B) _ (match typeT c y.1 with
  |none=>fails 7
  |some t=>V.does t.1 t.2.1)
 have e0:∀v K Kp,cJ (R:=R) (16,y) kr (emb c l v) K Kp=zPga c y.1 fun w102 w103=>zraa w103 (7:Int) (zlaa (emb c l v) w102.1 w102.2.1 (fun b105=>K b105) (fun y106 b107=>Kp y106 b107)) (fun y108=>Kp y108 (emb c l v)):=fun _ _ _=>by kernel_rfl
 cases ht:typeT c y.1 with
 |none =>
  refine toU (zm1a 7) (Nat.le_refl _) fun v K Kp=>?_
  rw[e0,zDZa hc hB,ht];rfl
 |some t =>
  obtain ⟨b1,b2⟩:=zfXa hc ht;refine toU (SimU.does t.1 t.2.1 (by omega)) (by unfold G; omega) fun v K Kp=>?_
  rw[e0,zDZa hc hB,ht];rfl
theorem ctl17 (hb:1≤B) (hc:CtxOk B c) (hB:B≤most) (y:Int×Int×Int×List Int×Unit) (hx:y.2.2.2.1.length≤64) (kr:Bool→CK→Option R):SimU R c l B (G B) (cJ (17,y) kr) (V.bind (V.has y.1 c.1.length) fun _=>V.bind (V.has y.2.1 c.2.2.2.1.length) fun _=>V.bind (V.pop 127) fun _=>V.does (c.1.getD y.1.toNat ([],[],())).1 (c.1.getD y.1.toNat ([],[],())).2.1):=by
 have h4:most=4294967296:=rfl;have:=zQwa hc y.1.toNat;exact toU (SimU.hasB (n:=y.1) (m:=(c.1.length:Nat)) fun h1=>SimU.hasB (n:=y.2.1) (m:=(c.2.2.2.1.length:Nat)) fun _=>SimU.guard h1 (SimU.popB fun _=>SimU.does _ _ (by omega))) (by unfold G; omega) fun v K Kp=>by kernel_rfl
theorem zt3a (hb:1≤B) (hc:CtxOk B c) (hB:B≤most) (x:Ins) (hx:x.2.2.2.2.1.length≤64):match ctl c x with
  |some m=>∀kr,SimU R c l B (G B) (cJ x kr) m
  |none=>∀(kr:Bool→CK→Option R) s K Kp,cJ x kr s K Kp=kr false s:=by
 obtain ⟨op,y⟩:=x;by_cases o0:op=0
 ·subst o0;exact ctl0 hb hc hB y hx
 by_cases o1:op=1
 ·subst o1;exact ctl1 hb hc hB y hx
 by_cases o2:op=2
 ·subst o2;exact ctl2 hb hc hB y hx
 by_cases o3:op=3
 ·subst o3;exact ctl3 hb hc hB y hx
 by_cases o4:op=4
 ·subst o4;exact ctl4 hb hc hB y hx
 by_cases o5:op=5
 ·subst o5;exact ctl5 hb hc hB y hx
 by_cases o11:op=11
 ·subst o11;exact ctl11 hb hc hB y hx
 by_cases o12:op=12
 ·subst o12;exact ctl12 hb hc hB y hx
 by_cases o13:op=13
 ·subst o13;exact ctl13 hb hc hB y hx
 by_cases o14:op=14
 ·subst o14;exact ctl14 hb hc hB y hx
 by_cases o15:op=15
 ·subst o15;exact ctl15 hb hc hB y hx
 by_cases o16:op=16
 ·subst o16;exact ctl16 hb hc hB y hx
 by_cases o17:op=17
 ·subst o17;exact ctl17 hb hc hB y hx
 have hn:ctl c (op,y)=none:=by
  unfold ctl;simp only;rw[if_neg o0,if_neg o1,if_neg (by omega),if_neg o5,if_neg o11,if_neg o12,if_neg o13,if_neg o14,if_neg o15,if_neg o16,if_neg o17]
 rw[hn];intro kr s K Kp;unfold cJ zbba;simp only[znCa];rw[if_neg o0,if_neg o1,if_neg o2,if_neg o3,if_neg o4,if_neg o5,if_neg o11,if_neg o12,if_neg o13,if_neg o14,if_neg o15,if_neg o16,if_neg o17]
end
end Go.Trm.V
namespace Go.Trm.V
open Go.Trm.G1
section
variable {R:Type} {c:Ctx} {l:List Int} {B:Nat}
def SimT (R:Type) (c:Ctx) (l:List Int) (B d:Nat) (p:CK→(Bool→CK→Option R)→(Int→CK→Option R)→Option R) (f:M Unit):Prop:=∀K0:CK→Option R,SimU R c l B d (fun s K Kp=>p s (fun b s=>cond b (K s) (K0 s)) Kp) f
theorem toT {d d':Nat} {p:CK→(Bool→CK→Option R)→(Int→CK→Option R)→Option R} {q:CK→(CK→Option R)→(Int→CK→Option R)→Option R} {f:M Unit} (h:SimU R c l B d q f) (hd:d≤d') (e:∀v K Kp,p (emb c l v) K Kp=q (emb c l v) (fun s=>K true s) Kp):SimT R c l B d' p f:=fun _=>toU h hd fun v _ _=>e v _ _
theorem zR1a (x:Ins):match vari c l x with
  |some m=>SimT R c l B (G B) (fun s K Kp=>zRaa s x K Kp) m
  |none=>∀s (K:Bool→CK→Option R) Kp,zRaa s x K Kp=K false s:=by
 obtain ⟨op,y⟩:=x;have hg:8≤G B:=by unfold G; omega
 by_cases o26:op=26
 ·subst o26;exact toT (SimU.popB (d':=0) fun _=>SimU.ret) (Nat.zero_le _) fun _ _ _=>by kernel_rfl
 by_cases o27:op=27
 ·subst o27;exact toT (SimU.popB (d':=1) fun _=>SimU.popB fun a=>SimU.popB fun b=>SimU.push [maxI a b]) (by omega) fun _ _ _=>by kernel_rfl
 by_cases o32:op=32
 ·subst o32;exact toT (SimU.hasB (n:=y.1) (m:=(l.length:Nat)) fun h=>SimU.guard h (SimU.push [l.getD y.1.toNat 0])) (by simp<;>omega) fun _ _ _=>by kernel_rfl
 by_cases o33:op=33
 ·subst o33;exact toT (SimU.hasB (d':=0) (n:=y.1) (m:=(l.length:Nat)) fun h=>SimU.guard h (SimU.popB (t:=l.getD y.1.toNat 0) fun _=>SimU.ret)) (by omega) fun _ _ _=>by kernel_rfl
 by_cases o34:op=34
 ·subst o34;exact toT (SimU.hasB (n:=y.1) (m:=(l.length:Nat)) fun h=>SimU.guard h (SimU.popB (t:=l.getD y.1.toNat 0) fun _=>SimU.push [l.getD y.1.toNat 0])) (by simp<;>omega) fun _ _ _=>by kernel_rfl
 by_cases o35:op=35
 ·subst o35;exact toT (SimU.hasB (n:=y.1) (m:=(c.2.2.1.length:Nat)) fun h=>SimU.guard h (SimU.push [(c.2.2.1.getD y.1.toNat (0,false,())).1])) (by simp<;>omega) fun _ _ _=>by kernel_rfl
 by_cases o36:op=36
 ·subst o36;exact toT (SimU.hasB (d':=0) (n:=y.1) (m:=(c.2.2.1.length:Nat)) fun h=>SimU.guard h (SimU.wantB (b:=(c.2.2.1.getD y.1.toNat (0,false,())).2.1) fun _=>SimU.guard h (SimU.popB (t:=(c.2.2.1.getD y.1.toNat (0,false,())).1) fun _=>SimU.ret))) (by omega) fun _ _ _=>by kernel_rfl
 by_cases o65:op=65
 ·subst o65;exact toT (SimU.push [127]) (by simp<;>omega) fun _ _ _=>by kernel_rfl
 by_cases o66:op=66
 ·subst o66;exact toT (SimU.push [126]) (by simp<;>omega) fun _ _ _=>by kernel_rfl
 have hn:vari c l (op,y)=none:=by
  unfold vari;simp only;rw[if_neg o26,if_neg o27,if_neg o32,if_neg o33,if_neg o34,if_neg o35,if_neg o36,if_neg o65,if_neg o66]
 rw[hn];intro s K Kp;unfold zRaa;simp only[znCa];rw[if_neg o26,if_neg o27,if_neg o32,if_neg o33,if_neg o34,if_neg o35,if_neg o36,if_neg o65,if_neg o66]
def AccOk (acc:Int→Option (Int×Int×Bool)):Prop:=∀(R:Type) n (K:Int→Int→Bool→Bool→Option R),zBea n K=match acc n with
 |some a=>K a.1 a.2.1 a.2.2 true
 |none=>K 0 0 false false
theorem segU (n:Int):SimU R c l B 0 (fun s K Kp=>zFca s n K Kp) (zRxa c n):=by
 have h:SimU R c l B 0 (fun s K Kp=>zraa c.2.2.2.2.2.2.2.2.2.1 7 (zLaa n c.2.2.2.2.2.2.2.2.1 (K s) (fun y=>Kp y s)) (fun y=>Kp y s)) (zRxa c n):=SimU.wantB fun _=>SimU.has n _
 exact h.congr fun _ _ _=>by kernel_rfl
theorem zgXa {d':Nat}:SimU R c l B d' (fun s K Kp=>zBma fun r58=>zcaa s r58 (fun _ b60=>K b60) (fun y61 b62=>Kp y61 b62)) (V.bind (V.pops three) fun _=>V.ret ()):=by
 have hm:most=4294967296:=rfl;have:SimU R c l B 0 (fun s K Kp=>zcaa s three (fun _ b60=>K b60) (fun y61 b62=>Kp y61 b62)) (V.bind (V.pops three) fun _=>V.ret ()):=SimU.popsB (by unfold three; simp; omega) fun _ _=>SimU.ret
 exact toU this (Nat.zero_le _) fun _ _ _=>by kernel_rfl
theorem zl2a {acc:Int→Option (Int×Int×Bool)} (ha:AccOk acc) (x:Ins):match memo acc c x with
  |some m=>SimT R c l B (G B) (fun s K Kp=>zkaa s x K Kp) m
  |none=>∀s (K:Bool→CK→Option R) Kp,zkaa s x K Kp=K false s:=by
 have hm:most=4294967296:=rfl;have hg:8≤G B:=by unfold G; omega
 unfold memo;cases h:acc x.1 with
 |some a =>
  dsimp only;refine toT (d:=1) (SimU.hasB (n:=0) (m:=(c.2.2.2.2.1.length:Nat)) fun _=>SimU.wantB (b:=decide (0≤x.2.1∧x.2.1≤3)&&decide (shlI .i64 1 x.2.1≤a.2.1)) (e:=5) (q:=fun s K Kp=>cond a.2.2 (zlaa s [127,a.1] [] K Kp) (zlaa s [127] [a.1] K Kp)) fun _=>?_) (by omega) ?_
  ·by_cases hs:a.2.2=true
   ·rw[if_pos hs];exact toU (SimU.does [127,a.1] [] (by simp<;>omega)) (by simp) fun v K Kp=>by rw[hs,cond_true]
   ·rw[if_neg hs];exact toU (SimU.does [127] [a.1] (by simp<;>omega)) (by simp) fun v K Kp=>by rw[show a.2.2=false by simpa using hs,cond_false]
  ·intro v K Kp;unfold zkaa;rw[ha,h];dsimp only;rw[cond_true];show zLaa 0 (c.2.2.2.2.1.length:Nat) _ _=zLaa 0 (c.2.2.2.2.1.length:Nat) _ _
   congr 1
   by_cases h1:0≤x.2.1
   ·by_cases h2:x.2.1≤3
    ·rw[zDaa,if_pos h1,zDaa,if_pos h2,w_u64 (by omega),zDaa,if_pos h1,decide_eq_true (show 0≤x.2.1∧x.2.1≤3 from ⟨h1,h2⟩),Bool.true_and];rfl
    ·rw[zDaa,if_pos h1,zDaa,if_neg h2,decide_eq_false (show ¬(0≤x.2.1∧x.2.1≤3) from fun h=>h2 h.2),Bool.false_and];rfl
   ·rw[zDaa,if_neg h1,decide_eq_false (show ¬(0≤x.2.1∧x.2.1≤3) from fun h=>h1 h.1),Bool.false_and];rfl
 |none =>
  obtain ⟨op,y⟩:=x;dsimp only at h ⊢;by_cases o63:op=63
  ·subst o63;refine toT (SimU.hasB (n:=0) (m:=(c.2.2.2.2.1.length:Nat)) fun _=>SimU.push [127]) (by simp<;>omega) fun v K Kp=>?_
   unfold zkaa;rw[ha,h]
   kernel_rfl
  by_cases o64:op=64
  ·subst o64;refine toT (SimU.hasB (n:=0) (m:=(c.2.2.2.2.1.length:Nat)) fun _=>SimU.does [127] [127] (by simp<;>omega)) (by simp<;>omega) fun v K Kp=>?_
   unfold zkaa;rw[ha,h]
   kernel_rfl
  by_cases o264:op=264
  ·subst o264;refine toT (SimU.hasB (d':=0) (n:=0) (m:=(c.2.2.2.2.1.length:Nat)) fun _=>(SimU.bindU (segU y.1) (Step.want.bind (d:=0) (d':=0) (χ:=fun v _ v'=>v'=v) (fun _ _=>Step.has) (fun _ _ _ _ _ h1 h2=>h2.trans h1)) zo1a (d':=0) fun _ _ _=>zgXa)) (by omega) fun v K Kp=>?_
   unfold zkaa;rw[ha,h]
   kernel_rfl
  by_cases o266:op=266
  ·subst o266;refine toT (SimU.hasB (d':=0) (n:=0) (m:=(c.2.2.2.2.1.length:Nat)) fun _=>zgXa) (by omega) fun v K Kp=>?_
   unfold zkaa;rw[ha,h]
   kernel_rfl
  by_cases o267:op=267
  ·subst o267;refine toT (SimU.hasB (d':=0) (n:=0) (m:=(c.2.2.2.2.1.length:Nat)) fun _=>zgXa) (by omega) fun v K Kp=>?_
   unfold zkaa;rw[ha,h]
   kernel_rfl
  by_cases o265:op=265
  ·subst o265;refine toT (segU y.1) (by omega) fun v K Kp=>?_
   unfold zkaa;rw[ha,h]
   kernel_rfl
  by_cases o268:op=268
  ·subst o268;refine toT (SimU.hasB (d':=0) (n:=y.1) (m:=c.2.2.2.2.2.2.2.1) fun _=>SimU.hasB (n:=y.2.1) (m:=(c.2.2.2.1.length:Nat)) fun _=>zgXa) (by omega) fun v K Kp=>?_
   unfold zkaa;rw[ha,h]
   kernel_rfl
  by_cases o270:op=270
  ·subst o270;refine toT (SimU.hasB (d':=0) (n:=y.1) (m:=(c.2.2.2.1.length:Nat)) fun _=>SimU.hasB (n:=y.2.1) (m:=(c.2.2.2.1.length:Nat)) fun _=>zgXa) (by omega) fun v K Kp=>?_
   unfold zkaa;rw[ha,h]
   kernel_rfl
  by_cases o269:op=269
  ·subst o269;refine toT (SimU.has y.1 c.2.2.2.2.2.2.2.1) (by omega) fun v K Kp=>?_
   unfold zkaa;rw[ha,h]
   kernel_rfl
  rw[if_neg o63,if_neg o64,if_neg o264,if_neg o266,if_neg o267,if_neg o265,if_neg o268,if_neg o270,if_neg o269];intro s K Kp;unfold zkaa;rw[ha,h];simp only[znCa,cond_false];rw[if_neg o63,if_neg o64,if_neg o264,if_neg o266,if_neg o267,if_neg o265,if_neg o268,if_neg o270,if_neg o269]
end
end Go.Trm.V
namespace Go.Trm.V
open Go.Trm.G1
section
variable {R:Type} {c:Ctx} {l:List Int} {B:Nat}
def TypOk (typ:Int→Option (List Int×Int)):Prop:=(∀n u,typ n=some u→u.1.length≤2)∧∀(R:Type) n (K:List Int→Int→Bool→Option R),zpea n K=match typ n with
 |some u=>K u.1 u.2 true
 |none=>K [] 0 false
theorem typU {typ:Int→Option (List Int×Int)} (ht:TypOk typ) (x:Ins):SimU R c l B 8 (fun s K Kp=>zpea x.1 fun r7 r8 r9=>zraa r9 (2:Int) (zlaa s r7 [r8] (fun b11=>K b11) (fun y12 b13=>Kp y12 b13)) (fun y14=>Kp y14 s)) (match typ x.1 with
  |some t=>does t.1 [t.2]
  |none=>fails 2):=by
 have hm:most=4294967296:=rfl;cases h:typ x.1 with
 |none=>exact toU (zm1a (d:=0) 2) (by omega) fun v K Kp=>by rw[ht.2,h]; rfl
 |some t =>
  have:=ht.1 _ _ h;exact toU (SimU.does t.1 [t.2] (by omega)) (by simp) fun v K Kp=>by rw[ht.2,h]; rfl
theorem zj3a {acc:Int→Option (Int×Int×Bool)} {typ:Int→Option (List Int×Int)} (ha:AccOk acc) (ht:TypOk typ) (hb:1≤B) (hc:CtxOk B c) (hB:B≤most) (x:Ins) (hx:x.2.2.2.2.1.length≤64):SimU R c l B (G B) (fun s K Kp=>zSaa s x K Kp) (instr acc typ c l x):=by
 refine zV0a fun S v hg hd K Kp=>?_
 have k1:=zt3a (R:=R) (l:=l) hb hc hB x hx;have k2:=zR1a (R:=R) (c:=c) (l:=l) (B:=B) x;have k3:=zl2a (R:=R) (c:=c) (l:=l) (B:=B) ha x;have k4:=typU (R:=R) (c:=c) (l:=l) (B:=B) ht x S v hg (by unfold G at hd; omega) (fun _ s=>K s) Kp;unfold instr;generalize hK3:(fun (r5:Bool) (b6:CK)=>cond r5 (K b6) (zpea x.1 fun r7 r8 r9=>zraa r9 (2:Int) (zlaa b6 r7 [r8] (fun b11=>K b11) (fun y12 b13=>Kp y12 b13)) (fun y14=>Kp y14 b6)))=K3;generalize hK2:(fun (r3:Bool) (b4:CK)=>cond r3 (K b4) (zkaa b4 x K3 (fun y w=>Kp y w)))=K2;generalize hK1:(fun (r1:Bool) (b2:CK)=>cond r1 (K b2) (zRaa b2 x K2 (fun y w=>Kp y w)))=K1;have e0:∀s,zSaa s x K Kp=cJ x K1 s (fun w=>K1 true w) Kp:=by
  intro s;rw[←hK1,←hK2,←hK3];rfl
 cases h1:ctl c x with
 |some m =>
  rw[h1]at k1;have:=k1 K1 S v hg hd (fun _ s=>K1 true s) Kp;have e1:∀s,K1 true s=K s:=fun s=>by rw[←hK1]; rfl
  dsimp only;cases hm:m v with
  |ok q=>rw[hm]at this; rw[e0]; exact this.trans (e1 _)
  |error e=>rw[hm]at this; rw[e0]; exact this
 |none =>
  rw[h1]at k1;have e1:zSaa (emb c l v) x K Kp=zRaa (emb c l v) x K2 (fun y w=>Kp y w):=by
   rw[e0,k1,←hK1]; rfl
  rw[e1];dsimp only;cases h2:vari c l x with
  |some m =>
   rw[h2]at k2;have:=k2 (fun s=>K2 false s) S v hg hd (fun _ s=>K2 true s) Kp;have e2:(fun (b:Bool) (s:CK)=>cond b (K2 true s) (K2 false s))=K2:=by funext b s; cases b<;>rfl
   have e3:∀s,K2 true s=K s:=fun s=>by rw[←hK2]; rfl
   dsimp only;cases hm:m v with
   |ok q=>rw[hm]at this; dsimp only at this; rw[e2]at this; exact this.trans (e3 _)
   |error e=>rw[hm]at this; dsimp only at this; rw[e2]at this; exact this
  |none =>
   rw[h2]at k2;rw[k2];have e2:K2 false (emb c l v)=zkaa (emb c l v) x K3 (fun y w=>Kp y w):=by rw[←hK2]; rfl
   rw[e2];dsimp only;cases h3:memo acc c x with
   |some m =>
    rw[h3]at k3;have:=k3 (fun s=>K3 false s) S v hg hd (fun _ s=>K3 true s) Kp;have e2:(fun (b:Bool) (s:CK)=>cond b (K3 true s) (K3 false s))=K3:=by funext b s; cases b<;>rfl
    have e3:∀s,K3 true s=K s:=fun s=>by rw[←hK3]; rfl
    dsimp only;cases hm:m v with
    |ok q=>rw[hm]at this; dsimp only at this; rw[e2]at this; exact this.trans (e3 _)
    |error e=>rw[hm]at this; dsimp only at this; rw[e2]at this; exact this
   |none =>
    rw[h3]at k3;rw[k3];have e3:K3 false (emb c l v)=zpea x.1 fun r7 r8 r9=>zraa r9 (2:Int) (zlaa (emb c l v) r7 [r8] (fun b11=>K b11) (fun y12 b13=>Kp y12 b13)) (fun y14=>Kp y14 (emb c l v)):=by rw[←hK3]; rfl
    rw[e3];dsimp only;cases h5:typ x.1 with
    |none=>rw[h5]at k4; exact k4
    |some t =>
     rw[h5]at k4;dsimp only at k4 ⊢;cases hq:does t.1 [t.2] v with
     |ok q=>rw[hq]at k4; exact k4
     |error e=>rw[hq]at k4; exact k4
def Rest (B:Nat) (zCaa:Ins→Bool) (rest:List Ins) (v:VS):Prop:=rest=[]∨∃n S,zBba zCaa rest n=true∧v.2.length=n.length+1∧n.length≤64∧Inv B S v∧S+rest.length*G B≤most
theorem Rest.step {zCaa:Ins→Bool} (hf:∀x,zCaa x=true→x.2.2.2.2.1.length≤64) {acc:Int→Option (Int×Int×Bool)} {typ:Int→Option (List Int×Int)} (hb:1≤B) (hc:CtxOk B c) {x:Ins} {rest:List Ins} {v:VS} (h:Rest B zCaa (x::rest) v):x.2.2.2.2.1.length≤64∧(∃S,Go B S v∧S+G B≤most)∧∀v',instr acc typ c l x v = .ok ((),v')→Rest B zCaa rest v':=by
 have hm:most=4294967296:=rfl;rcases h with h|⟨n,S,h1,h2,h3,h4,h5⟩
 ·cases h
 unfold zBba at h1;split at h1
 ·rename_i hfx;have hx:=hf x hfx;simp only[List.length_cons,Nat.add_mul,Nat.one_mul]at h5;refine ⟨hx,⟨S,⟨h4,by omega,by omega,fun hc=>by rw[hc]at h2; simp at h2⟩,by omega⟩,fun v' e=>?_⟩;obtain ⟨i1,i2⟩:=Step.instr hb hc hx S v () v' h4 e;unfold cnt at i2;unfold nest at h1;split at h1
  ·cases h1
  ·rename_i hn
   left
   exact List.isEmpty_iff.mp h1
  ·rename_i n' hn
   right
   refine ⟨n',S+G B,h1,?_,?_,i1,by omega⟩
   ·split at hn
    ·rename_i hop;split at hn
     ·cases hn
     ·injection hn with hn
      rw[←hn,if_pos hop]at *;simp; omega
    ·rename_i hop;rw[if_neg hop]at i2;split at hn
     ·rename_i h5;split at hn
      ·injection hn with hn
       rw[if_neg (by omega)]at i2;rw[←hn,i2,h2]; rfl
      ·cases hn
     ·split at hn
      ·rename_i h11;rw[if_pos h11]at i2;split at hn
       ·cases hn
       ·injection hn with hn
        rw[←hn]at *;simp at h2; omega
      ·rename_i h11;rw[if_neg h11]at i2
       injection hn with hn
       rw[←hn,i2,h2]
   ·split at hn
    ·split at hn
     ·cases hn
     ·injection hn with hn
      rw[←hn];simp; omega
    ·split at hn
     ·split at hn
      ·injection hn with hn
       rw[←hn];simpa using h3
      ·cases hn
     ·split at hn
      ·split at hn
       ·cases hn
       ·injection hn with hn
        rw[←hn];simp at h3; omega
      ·injection hn with hn
       rw[←hn]; exact h3
 ·cases h1
end
end Go.Trm.V
