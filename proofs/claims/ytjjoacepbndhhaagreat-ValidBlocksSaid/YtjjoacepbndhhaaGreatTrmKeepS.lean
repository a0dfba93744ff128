import Derived.Test.YtjjoacepbndhhaaGreatTrmRep
set_option linter.unusedVariables false
set_option linter.unusedSimpArgs false
namespace Go.Trm
def rs (w:World):(t:Ty)→Cells→Option (Nat×Nat)→List PE→Option (Ty×Cells×Option (Nat×Nat))
 |t,c,ad,[]=>some (t,c,ad)
 | .pair a _b,c,ad,.fld 0::p=>rs w a c ad p
 | .pair a b,c,ad,.fld (n+1)::p=>rs w b (fun j=>c (a.size+j)) (ad.map fun q=>(q.1,q.2+a.size)) (.fld n::p)
 | .ptr _ t,c,_,.der::p=>match c 0 with
  | .pointer (some a)=>rs w t (rowW w a.block a.off) (some (a.block,a.off)) p
  |_=>none
 | .sl _ t,c,_,.idx i::p=>match c 0 with
  | .slice (some a) _ _=>rs w t (rowW w a.block (a.off+i.toNat * t.size)) (some (a.block,a.off+i.toNat * t.size)) p
  |_=>none
 | .arr _ t,c,ad,.idx i::p=>rs w t (fun j=>c (i.toNat * t.size+j)) (ad.map fun q=>(q.1,q.2+i.toNat * t.size)) p
 |_,_,_,_=>none
def inP:(t:Ty)→t.I→List PE→Prop
 |_,_,[]=>True
 | .pair a _b,x,.fld 0::p=>inP a x.1 p
 | .pair _a b,x,.fld (n+1)::p=>inP b x.2 (.fld n::p)
 | .ptr _ t,x,.der::p=>match (x:Option t.I) with
  |some c=>inP t c p
  |none=>False
 | .sl _ t,x,.idx i::p=>i.toNat<List.length (x:List t.I)∧inP t (List.getD (x:List t.I) i.toNat t.dflt) p
 | .arr _ t,x,.idx i::p=>i.toNat<List.length (x:List t.I)∧inP t (List.getD (x:List t.I) i.toNat t.dflt) p
 |_,_,_=>False
theorem zMha (w:World) (b o k:Nat):(fun j=>rowW w b o (k+j))=rowW w b (o+k):=by
 funext j
 simp only[rowW];split
 ·simp only[rowOf,Nat.add_assoc]
 ·rfl
theorem zWba (w:World) (b o j:Nat):rowW w b o j=rowW w b 0 (o+j):=by
 simp only[rowW];split
 ·simp only[rowOf,Nat.zero_add]
 ·rfl
theorem zZ1a {w:World}:∀ {p:List PE} {t:Ty} {c:Cells} {ad:Option (Nat×Nat)} {u:Ty} {c':Cells} {b o:Nat},
  (∀q,ad=some q→c=rowW w q.1 q.2)→rs w t c ad p=some (u,c',some (b,o))→c'=rowW w b o:=by
 intro p t
 induction t generalizing p with
 |int k=>intro c ad u c' b o h hr; cases p with
  |nil=>simp only[rs,Option.some.injEq,Prod.mk.injEq]at hr; obtain ⟨_,rfl,h'⟩:=hr; exact h _ h'
  |cons q p=>cases q<;>simp[rs]at hr
 |bool=>intro c ad u c' b o h hr; cases p with
  |nil=>simp only[rs,Option.some.injEq,Prod.mk.injEq]at hr; obtain ⟨_,rfl,h'⟩:=hr; exact h _ h'
  |cons q p=>cases q<;>simp[rs]at hr
 |str=>intro c ad u c' b o h hr; cases p with
  |nil=>simp only[rs,Option.some.injEq,Prod.mk.injEq]at hr; obtain ⟨_,rfl,h'⟩:=hr; exact h _ h'
  |cons q p=>cases q<;>simp[rs]at hr
 |err=>intro c ad u c' b o h hr; cases p with
  |nil=>simp only[rs,Option.some.injEq,Prod.mk.injEq]at hr; obtain ⟨_,rfl,h'⟩:=hr; exact h _ h'
  |cons q p=>cases q<;>simp[rs]at hr
 |unit=>intro c ad u c' b o h hr; cases p with
  |nil=>simp only[rs,Option.some.injEq,Prod.mk.injEq]at hr; obtain ⟨_,rfl,h'⟩:=hr; exact h _ h'
  |cons q p=>cases q<;>simp[rs]at hr
 |sl e t ih=>intro c ad u c' b o h hr; cases p with
  |nil=>simp only[rs,Option.some.injEq,Prod.mk.injEq]at hr; obtain ⟨_,rfl,h'⟩:=hr; exact h _ h'
  |cons q p=>cases q with
   |idx i =>
         simp only[rs]at hr; split at hr
         ·exact ih (fun q hq=>by injection hq with hq; subst hq; rfl) hr
         ·cases hr
   |_=>simp[rs]at hr
 |ptr e t ih=>intro c ad u c' b o h hr; cases p with
  |nil=>simp only[rs,Option.some.injEq,Prod.mk.injEq]at hr; obtain ⟨_,rfl,h'⟩:=hr; exact h _ h'
  |cons q p=>cases q with
   |der =>
        simp only[rs]at hr; split at hr
        ·exact ih (fun q hq=>by injection hq with hq; subst hq; rfl) hr
        ·cases hr
   |_=>simp[rs]at hr
 |arr n t ih=>intro c ad u c' b o h hr; cases p with
  |nil=>simp only[rs,Option.some.injEq,Prod.mk.injEq]at hr; obtain ⟨_,rfl,h'⟩:=hr; exact h _ h'
  |cons q p=>cases q with
   |idx i =>
    simp only[rs]at hr;refine ih (fun q hq=>?_) hr;cases ad with
    |none=>cases hq
    |some q'=>injection hq with hq; subst hq; rw[h _ rfl]; exact zMha ..
   |_=>simp[rs]at hr
 |pair x y ihx ihy=>intro c ad u c' b o h hr; cases p with
  |nil=>simp only[rs,Option.some.injEq,Prod.mk.injEq]at hr; obtain ⟨_,rfl,h'⟩:=hr; exact h _ h'
  |cons q p=>cases q with
   |fld n=>cases n with
    |zero=>simp only[rs]at hr; exact ihx h hr
    |succ n =>
     simp only[rs]at hr;refine ihy (fun q hq=>?_) hr;cases ad with
     |none=>cases hq
     |some q'=>injection hq with hq; subst hq; rw[h _ rfl]; exact zMha ..
   |_=>simp[rs]at hr
theorem zbVa:∀ {p:List PE} {t:Ty} {x:t.I} {u:Ty} {mu:Md} {y:u.I},getP t .j x p=some ⟨u,mu,y⟩→mu = .j:=by
 intro p t
 induction t generalizing p with
 |int k=>intro x u mu y h; cases p with
  |nil=>simp only[getP,Option.some.injEq]at h; cases h; rfl
  |cons q p=>cases q<;>simp[getP]at h
 |bool=>intro x u mu y h; cases p with
  |nil=>simp only[getP,Option.some.injEq]at h; cases h; rfl
  |cons q p=>cases q<;>simp[getP]at h
 |str=>intro x u mu y h; cases p with
  |nil=>simp only[getP,Option.some.injEq]at h; cases h; rfl
  |cons q p=>cases q<;>simp[getP]at h
 |err=>intro x u mu y h; cases p with
  |nil=>simp only[getP,Option.some.injEq]at h; cases h; rfl
  |cons q p=>cases q<;>simp[getP]at h
 |unit=>intro x u mu y h; cases p with
  |nil=>simp only[getP,Option.some.injEq]at h; cases h; rfl
  |cons q p=>cases q<;>simp[getP]at h
 |sl e t ih=>intro x u mu y h; cases p with
  |nil=>simp only[getP,Option.some.injEq]at h; cases h; rfl
  |cons q p=>cases q with
   |idx i=>simp only[getP]at h; exact ih h
   |_=>simp[getP]at h
 |arr e t ih=>intro x u mu y h; cases p with
  |nil=>simp only[getP,Option.some.injEq]at h; cases h; rfl
  |cons q p=>cases q with
   |idx i=>simp only[getP]at h; exact ih h
   |_=>simp[getP]at h
 |ptr e t ih=>intro x u mu y h; cases p with
  |nil=>simp only[getP,Option.some.injEq]at h; cases h; rfl
  |cons q p=>cases q with
   |der=>simp only[getP]at h; cases x with
    |none=>simp at h
    |some c=>exact ih h
   |_=>simp[getP]at h
 |pair a b iha ihb=>intro x u mu y h; cases p with
  |nil=>simp only[getP,Option.some.injEq]at h; cases h; rfl
  |cons q p=>cases q with
   |fld n=>cases n with
    |zero=>simp only[getP]at h; exact iha h
    |succ n=>simp only[getP]at h; exact ihb h
   |_=>simp[getP]at h
theorem zrEa {F:Blks} {w:World}:∀ {p:List PE} {t:Ty} {m:Md} {x:t.I} {c:Cells} {ad:Option (Nat×Nat)} {fp:Blks} {u:Ty} {mu:Md} {y:u.I},
  rep F w t m x c fp→getP t m x p=some ⟨u,mu,y⟩→inP t x p→mu ≠ .j→∃c' ad' fp',rs w t c ad p=some (u,c',ad')∧rep F w u mu y c' fp'∧(∀b,fp' b→fp b):=by
 intro p t
 induction t generalizing p with
 |int k=>intro m x c ad fp u mu y h hg hi hj; cases p with
  |nil=>simp only[getP,Option.some.injEq]at hg; cases hg; exact ⟨c,ad,fp,rfl,h,fun _ hb=>hb⟩
  |cons q p=>cases q<;>simp[getP]at hg
 |bool=>intro m x c ad fp u mu y h hg hi hj; cases p with
  |nil=>simp only[getP,Option.some.injEq]at hg; cases hg; exact ⟨c,ad,fp,rfl,h,fun _ hb=>hb⟩
  |cons q p=>cases q<;>simp[getP]at hg
 |str=>intro m x c ad fp u mu y h hg hi hj; cases p with
  |nil=>simp only[getP,Option.some.injEq]at hg; cases hg; exact ⟨c,ad,fp,rfl,h,fun _ hb=>hb⟩
  |cons q p=>cases q<;>simp[getP]at hg
 |err=>intro m x c ad fp u mu y h hg hi hj; cases p with
  |nil=>simp only[getP,Option.some.injEq]at hg; cases hg; exact ⟨c,ad,fp,rfl,h,fun _ hb=>hb⟩
  |cons q p=>cases q<;>simp[getP]at hg
 |unit=>intro m x c ad fp u mu y h hg hi hj; cases p with
  |nil=>simp only[getP,Option.some.injEq]at hg; cases hg; exact ⟨c,ad,fp,rfl,h,fun _ hb=>hb⟩
  |cons q p=>cases q<;>simp[getP]at hg
 |sl e t ih=>intro m x c ad fp u mu y h hg hi hj; cases p with
  |nil=>simp only[getP,Option.some.injEq]at hg; cases hg; exact ⟨c,ad,fp,rfl,h,fun _ hb=>hb⟩
  |cons q p=>cases q with
   |idx i =>
    simp only[getP]at hg;simp only[inP]at hi;simp only[rs];cases m with
    |j=>exact absurd (zbVa hg) hj
    |s =>
     simp only[rep]at h;obtain ⟨A,cap,h1,h2,h3,h4,r⟩:=h;cases A with
     |none=>have:=h4 rfl; omega
     |some a =>
      rw[h1];obtain ⟨_,_,r⟩:=r a rfl;obtain ⟨c',ad',fp',k1,k2,k3⟩:=ih (ad:=some (a.block,a.off+i.toNat * t.size)) (r _ hi.1) hg hi.2 hj;exact ⟨c',ad',fp',k1,k2,fun b hb=>(k3 b hb).elim⟩
    |o m =>
     simp only[rep]at h;obtain ⟨A,cap,h1,h2,h3,h4,r⟩:=h;cases A with
     |none=>have:=h4 rfl; omega
     |some a =>
      rw[h1];obtain ⟨_,_,_,fs,_,k4,r⟩:=r a rfl;obtain ⟨c',ad',fp',k1,k2,k3⟩:=ih (ad:=some (a.block,a.off+i.toNat * t.size)) (r _ hi.1) hg hi.2 hj;exact ⟨c',ad',fp',k1,k2,fun b hb=>(k4 _ _ (k3 b hb)).1⟩
    |p _ _ =>
     simp only[rep]at h;obtain ⟨A,cap,h1,h2,h3,h4,r⟩:=h;cases A with
     |none=>have:=h4 rfl; omega
     |some a=>exact ((r a rfl).2).elim
   |_=>simp[getP]at hg
 |arr n t ih=>intro m x c ad fp u mu y h hg hi hj; cases p with
  |nil=>simp only[getP,Option.some.injEq]at hg; cases hg; exact ⟨c,ad,fp,rfl,h,fun _ hb=>hb⟩
  |cons q p=>cases q with
   |idx i =>
    simp only[getP]at hg;simp only[inP]at hi;simp only[rs];have key:m ≠ .j→∃fs:Nat→Blks,(∀i b,fs i b→fp b)∧rep F w t m.el (List.getD (x:List t.I) i.toNat t.dflt) (fun j=>c (i.toNat * t.size+j)) (fs i.toNat):=by
     intro hm;cases m with
     |j=>exact absurd rfl hm
     |_=>simp only[rep]at h; obtain ⟨hn,fs,_,h2,r⟩:=h; exact ⟨fs,h2,r _ (hn ▸ hi.1)⟩
    obtain ⟨fs,h2,r⟩:=key (fun hm=>by subst hm; exact hj (zbVa hg));obtain ⟨c',ad',fp',k1,k2,k3⟩:=ih (ad:=ad.map fun q=>(q.1,q.2+i.toNat * t.size)) r hg hi.2 hj;exact ⟨c',ad',fp',k1,k2,fun b hb=>h2 _ _ (k3 b hb)⟩
   |_=>simp[getP]at hg
 |ptr T t ih=>intro m x c ad fp u mu y h hg hi hj; cases p with
  |nil=>simp only[getP,Option.some.injEq]at hg; cases hg; exact ⟨c,ad,fp,rfl,h,fun _ hb=>hb⟩
  |cons q p=>cases q with
   |der =>
    cases x with
    |none=>simp[getP]at hg
    |some x =>
     simp only[getP]at hg;simp only[inP]at hi;simp only[rs];cases m with
     |j=>exact absurd (zbVa hg) hj
     |s =>
      simp only[rep]at h;obtain ⟨A,h1,a,ha,_,_,_,r⟩:=h;subst ha;rw[h1];obtain ⟨c',ad',fp',k1,k2,k3⟩:=ih (ad:=some (a.block,a.off)) r hg hi hj;exact ⟨c',ad',fp',k1,k2,fun b hb=>(k3 b hb).elim⟩
     |o m =>
      simp only[rep]at h;obtain ⟨A,h1,a,ha,_,_,_,f,k4,r⟩:=h;subst ha;rw[h1];obtain ⟨c',ad',fp',k1,k2,k3⟩:=ih (ad:=some (a.block,a.off)) r hg hi hj;exact ⟨c',ad',fp',k1,k2,fun b hb=>(k4 _ (k3 b hb)).1⟩
     |p _ _ =>
      simp only[rep]at h;obtain ⟨A,h1,a,ha,_,r⟩:=h;exact r.elim
   |_=>simp[getP]at hg
 |pair a b iha ihb=>intro m x c ad fp u mu y h hg hi hj; cases p with
  |nil=>simp only[getP,Option.some.injEq]at hg; cases hg; exact ⟨c,ad,fp,rfl,h,fun _ hb=>hb⟩
  |cons q p=>cases q with
   |fld n =>
    have key:m ≠ .j→∃fa fb:Blks,(∀i,fa i→fp i)∧(∀i,fb i→fp i)∧rep F w a m.fst x.1 c fa∧rep F w b m.snd x.2 (fun j=>c (a.size+j)) fb:=by
     intro hm;cases m with
     |j=>exact absurd rfl hm
     |_=>simp only[rep]at h; obtain ⟨fa,fb,h1,h2,_,r⟩:=h; exact ⟨fa,fb,h1,h2,r⟩
    cases n with
    |zero =>
     simp only[getP]at hg;simp only[inP]at hi;simp only[rs];obtain ⟨fa,fb,h1,h2,r,_⟩:=key (fun hm=>by subst hm; exact hj (zbVa hg));obtain ⟨c',ad',fp',k1,k2,k3⟩:=iha (ad:=ad) r hg hi hj;exact ⟨c',ad',fp',k1,k2,fun b hb=>h1 _ (k3 b hb)⟩
    |succ n =>
     simp only[getP]at hg;simp only[inP]at hi;simp only[rs];obtain ⟨fa,fb,h1,h2,_,r⟩:=key (fun hm=>by subst hm; exact hj (zbVa hg));obtain ⟨c',ad',fp',k1,k2,k3⟩:=ihb (ad:=ad.map fun q=>(q.1,q.2+a.size)) r hg hi hj;exact ⟨c',ad',fp',k1,k2,fun b hb=>h2 _ (k3 b hb)⟩
   |_=>simp[getP]at hg
theorem zjca {β:Type} {l:List β} {i:Nat} {y d:β} (h:i<l.length):(l.set i y).getD i d=y:=by
 simp[List.getD,h]
theorem zxha {β:Type} {l:List β} {i k:Nat} {y d:β} (h:k≠i):(l.set i y).getD k d=l.getD k d:=by
 simp only[List.getD,List.getElem?_set];rw[if_neg (Ne.symm h)]
structure At (F fp:Blks) (w w':World) (b0 b o n:Nat):Prop where
 other:∀b',b'≠b→(F b'∨fp b'∨b'=b0)→Same w w' b'
 row:∀j,(j<o∨o+n≤j)→rowW w' b 0 j=rowW w b 0 j
 keep:∀n wr,zTga w b n wr→zTga w' b n wr
 notF:¬F b
theorem At.sub {F fp fp':Blks} {w w':World} {b0 b1 b o n:Nat} (h:At F fp w w' b0 b o n) (hs:∀b,fp' b→fp b) (h1:fp b1∨b1=b0):At F fp' w w' b1 b o n :=
 ⟨fun b' hb hc=>h.other b' hb (by
                   rcases hc with hc|hc|hc
                   ·exact .inl hc
                   ·exact .inr (.inl (hs _ hc))
                   ·subst hc; exact .inr h1),h.row,h.keep,h.notF⟩
theorem zdca {t t':Ty} {x:t.I} {y:t'.I} (h:castI t t' x=some y):∃e:t=t',e ▸ x=y:=by
 unfold castI at h;split at h
 ·rename_i hb;exact ⟨Ty.eqb_eq hb,by injection h⟩
 ·cases h
theorem zIVa {F:Blks} {w:World} {a b:Ty} {ma mb:Md} {x:a.I} {y:b.I} {c:Cells} {fp fa fb:Blks} (h1:∀i,fa i→fp i) (h2:∀i,fb i→fp i) (h3:∀i,fa i→¬fb i)
  (ra:rep F w a ma x c fa) (rb:rep F w b mb y (fun j=>c (a.size+j)) fb):rep F w (.pair a b) (.mkp ma mb) (x,y) c fp:=by
 unfold Md.mkp;split
 ·simp only[rep,Md.fst,Md.snd]; exact ⟨fa,fb,h1,h2,h3,ra,rb⟩
 ·simp only[rep,Md.fst,Md.snd]; exact ⟨fa,fb,h1,h2,h3,ra,rb⟩
theorem zaka {F:Blks} {w:World} {a b:Ty} {m:Md} {x:a.I×b.I} {c:Cells} {fp:Blks} (h:rep F w (.pair a b) m x c fp) :
  ∃fa fb:Blks,(∀i,fa i→fp i)∧(∀i,fb i→fp i)∧(∀i,fa i→¬fb i)∧rep F w a m.fst x.1 c fa∧rep F w b m.snd x.2 (fun j=>c (a.size+j)) fb:=by
 cases m with
 |j=>exact ⟨fun _=>False,fun _=>False,fun _ h=>h.elim,fun _ h=>h.elim,fun _ h=>h.elim,rep_j,rep_j⟩
 |_=>simpa only[rep] using h
theorem Md.eqb_eq:∀ {a b:Md},a.eqb b=true→a=b
 | .s,b,h=>by cases b<;>first|rfl|simp[Md.eqb]at h
 | .j,b,h=>by cases b<;>first|rfl|simp[Md.eqb]at h
 | .o a,b,h=>by cases b<;>simp only[Md.eqb,Bool.false_eq_true]at h; rw[Md.eqb_eq h]
 | .p a c,b,h=>by
  cases b<;>simp only[Md.eqb,Bool.false_eq_true,Bool.and_eq_true]at h;rw[Md.eqb_eq h.1,Md.eqb_eq h.2]
def ownP:Ty→Md→List PE→Prop
 |_,_,[]=>True
 | .pair a _b,m,.fld 0::p=>ownP a m.fst p
 | .pair _a b,m,.fld (n+1)::p=>ownP b m.snd (.fld n::p)
 | .ptr _ t,.o m,.der::p=>ownP t m p
 | .sl _ t,.o m,.idx _::p=>ownP t m p
 | .arr _ t,m,.idx _::p=>m.isJ=false∧ownP t m.el p
 |_,_,_=>False
structure Lens (F:Blks) (w:World) (t:Ty) (m:Md) (x:t.I) (b0 o0:Nat) (fp:Blks) (p:List PE) (u:Ty) (b o:Nat) (fold:Blks):Prop where
 sub:∀b,fold b→fp b
 nb:¬fold b
 old:∃mo yo,getP t m x p=some ⟨u,mo,yo⟩∧rep F w u mo yo (rowW w b o) fold
 lies:(b=b0∧o0≤o∧o+u.size≤o0+t.size)∨(fp b∧b≠b0∧zTga w b (o+u.size) true)
 new:∀mu y m' x' (F':Blks) w' (fq:Blks),setP t m x p u mu y=some (m',x')→(∀b,F b→F' b)→At F fp w w' b0 b o u.size→(∀b',fq b'→¬(fp b'∧¬fold b')∧b'≠b∧b'≠b0) →
    rep F' w' u mu y (rowW w' b o) fq→rep F' w' t m' x' (rowW w' b0 o0) (fun b'=>(fp b'∧¬fold b')∨fq b')
theorem zHLa {F:Blks} {w:World} {t:Ty} {m:Md} {x:t.I} {b0 o0:Nat} {fp:Blks} {u:Ty} {c':Cells} {b o:Nat}
  (h:rep F w t m x (rowW w b0 o0) fp) (hb0:¬fp b0) (hr:some (t,rowW w b0 o0,some (b0,o0))=some (u,c',some (b,o))):∃fold,Lens F w t m x b0 o0 fp [] u b o fold:=by
 simp only[Option.some.injEq,Prod.mk.injEq]at hr;obtain ⟨rfl,_,rfl,rfl⟩:=hr;refine ⟨fp,fun _ hb=>hb,hb0,⟨m,x,by simp[getP],h⟩,.inl ⟨rfl,Nat.le_refl _,Nat.le_refl _⟩,?_⟩;intro mu y m' x' F' w' fq hs hF hat hq hrep;simp only[setP]at hs;split at hs
 ·rename_i y' hc;obtain ⟨e,he⟩:=zdca hc;simp only[Option.some.injEq,Prod.mk.injEq]at hs;obtain ⟨rfl,rfl⟩:=hs;subst he;exact zEoa (fun b hb => .inr hb) hrep
 ·cases hs
theorem zSpa {F:Blks} {w:World}:∀ {p:List PE} {t:Ty} {m:Md} {x:t.I} {b0 o0:Nat} {fp:Blks} {u:Ty} {c':Cells} {b o:Nat},
  rep F w t m x (rowW w b0 o0) fp→¬fp b0→inP t x p→ownP t m p→rs w t (rowW w b0 o0) (some (b0,o0)) p=some (u,c',some (b,o)) →
  ∃fold,Lens F w t m x b0 o0 fp p u b o fold:=by
 intro p t
 induction t generalizing p with
 |sl e t ih =>
  intro m (x:List t.I) b0 o0 fp u c' b o h hb0 hi ho hr;cases p with
  |nil=>simp only[rs]at hr; exact zHLa h hb0 hr
  |cons q p=>cases q with
   |idx i =>
    simp only[rs]at hr;simp only[inP]at hi;cases m with
    |o m =>
     simp only[ownP]at ho;simp only[rep]at h;obtain ⟨A,cap,h1,h2,h3,h4,r⟩:=h;cases A with
     |none=>have:=h4 rfl; omega
     |some a =>
      obtain ⟨hsp,r1,r2,fs,r3,r4,r5⟩:=r a rfl;rw[h1]at hr;simp only at hr;have hne:∀i b,fs i b→b≠a.block:=fun i b hb=>(r4 i b hb).2
      obtain ⟨fold,g⟩:=ih (r5 _ hi.1) (fun hc=>hne _ _ hc rfl) hi.2 ho hr;have hsz:i.toNat * t.size+t.size≤cap*t.size:=by
       rw[←Nat.succ_mul]; exact Nat.mul_le_mul_right _ (by omega)
      have hob:b≠b0:=by
       rcases g.lies with ⟨rfl,_⟩|⟨g7,_⟩
       ·exact fun hc=>hb0 (hc ▸ r1)
       ·exact fun hc=>hb0 (hc ▸ (r4 _ _ g7).1)
      refine ⟨fold,fun b hb=>(r4 _ _ (g.sub b hb)).1,g.nb,?_,.inr ?_,?_⟩
      ·obtain ⟨mo,yo,g1,g2⟩:=g.old; exact ⟨mo,yo,by simp only[getP]; exact g1,g2⟩
      ·rcases g.lies with ⟨rfl,g7,g8⟩|⟨g7,g8,g9⟩
       ·refine ⟨r1,hob,?_⟩;obtain ⟨cs,el,fz,k1,k2,k3⟩:=r2;exact ⟨cs,el,fz,k1,by omega,k3⟩
       ·exact ⟨(r4 _ _ g7).1,hob,g9⟩
      ·intro mu y m' x' F' w' fq hs' hF hat hq hrep;simp only[setP]at hs';cases hs2:setP t m (List.getD (x:List t.I) i.toNat t.dflt) p u mu y with
       |none=>rw[hs2]at hs'; cases hs'
       |some z =>
        obtain ⟨m2,x2⟩:=z;rw[hs2]at hs';simp only at hs';split at hs'
        ·rename_i he;obtain rfl:=Md.eqb_eq he;simp only[Option.some.injEq]at hs';obtain ⟨rfl,rfl⟩:=hs';have hnf:¬fold a.block:=fun hc=>hne _ _ (g.sub _ hc) rfl
         have hqa:∀b',fq b'→b'≠a.block:=fun b' hb hc=>(hq b' hb).1 ⟨hc ▸ r1,hc ▸ hnf⟩
         have hnew:=g.new mu y m2 x2 F' w' fq hs2 hF (hat.sub (fun b hb=>(r4 _ _ hb).1) (.inl r1))
          (fun b' hb=>⟨fun hc=>(hq b' hb).1 ⟨(r4 _ _ hc.1).1,hc.2⟩,(hq b' hb).2.1,hqa b' hb⟩) hrep
         have hb0s:rowW w' b0 o0 0=rowW w b0 o0 0:=by
          simp only[rowW]; rw[hat.other b0 (Ne.symm hob) (.inr (.inr rfl))]
         have hkeep:zTga w' a.block (a.off+cap*t.size) true:=by
          by_cases hc:a.block=b
          ·exact hc ▸ hat.keep _ _ (hc ▸ r2)
          ·exact (zAca (hat.other _ hc (.inr (.inl r1)))).2 r2
         simp only[rep];refine ⟨some a,cap,?_,?_,h3,(fun hc=>nomatch hc),?_⟩
         ·rw[hb0s,h1]; exact congrArg (fun n=>Value.slice (some a) n cap) (List.length_set (as:=(x:List t.I))).symm
         ·exact Nat.le_trans (Nat.le_of_eq (List.length_set (as:=(x:List t.I)))) h2
         ·rintro a' ⟨⟩
          refine ⟨hsp,.inl ⟨r1,hnf⟩,hkeep,fun k b'=>if k=i.toNat then (fs k b'∧¬fold b')∨fq b' else fs k b',⟨?_⟩,?_,?_⟩
          ·intro k k' hkk b' hb1 hb2;by_cases e1:k=i.toNat<;>by_cases e2:k'=i.toNat<;>simp only[e1,e2,if_true,if_false]at hb1 hb2
           ·exact hkk (e1.trans e2.symm)
           ·rcases hb1 with hb1|hb1
            ·exact r3.disj _ _ (fun hc=>e2 hc.symm) _ hb1.1 hb2
            ·exact (hq b' hb1).1 ⟨(r4 _ _ hb2).1,fun hc=>r3.disj _ _ e2 _ hb2 (g.sub _ hc)⟩
           ·rcases hb2 with hb2|hb2
            ·exact r3.disj _ _ e1 _ hb1 hb2.1
            ·exact (hq b' hb2).1 ⟨(r4 _ _ hb1).1,fun hc=>r3.disj _ _ e1 _ hb1 (g.sub _ hc)⟩
           ·exact r3.disj _ _ hkk _ hb1 hb2
          ·intro k b' hb;by_cases e1:k=i.toNat<;>simp only[e1,if_true,if_false]at hb
           ·rcases hb with hb|hb
            ·exact ⟨.inl ⟨(r4 _ _ hb.1).1,hb.2⟩,(r4 _ _ hb.1).2⟩
            ·exact ⟨.inr hb,hqa b' hb⟩
           ·exact ⟨.inl ⟨(r4 _ _ hb).1,fun hc=>r3.disj _ _ e1 _ hb (g.sub _ hc)⟩,(r4 _ _ hb).2⟩
          ·intro k hk;simp only[List.length_set]at hk;by_cases e1:k=i.toNat
           ·simp only[e1,if_true];rw[zjca hi.1];exact hnew
           ·simp only[e1,if_false];rw[zxha e1];have hbk:∀b',fs k b'→b'≠b:=by
             intro b' hb hc;subst hc;rcases g.lies with ⟨hc,_⟩|⟨hc,_⟩
             ·exact (r4 _ _ hb).2 hc
             ·exact r3.disj _ _ e1 _ hb hc
            have hrow:∀j,j<t.size→rowW w a.block (a.off+k*t.size) j=rowW w' a.block (a.off+k*t.size) j:=by
             intro j hj;by_cases hc:a.block=b
             ·rw[zWba w,zWba w',hc];refine (hat.row _ ?_).symm;rcases g.lies with ⟨_,g7,g8⟩|⟨_,g8,_⟩
              ·rcases Nat.lt_or_gt_of_ne e1 with hlt|hlt
               ·left
                have:k*t.size+t.size≤i.toNat * t.size:=by rw[←Nat.succ_mul]; exact Nat.mul_le_mul_right _ hlt
                omega
               ·right
                have:i.toNat * t.size+t.size≤k*t.size:=by rw[←Nat.succ_mul]; exact Nat.mul_le_mul_right _ hlt
                omega
              ·exact absurd hc.symm g8
             ·simp only[rowW]; rw[hat.other _ hc (.inr (.inl r1))]
            refine zEaa hrow (zxaa hF (fun b' hb=>hat.other _ (fun hc=>hat.notF (hc ▸ hb)) (.inl hb)) (fun b' hb=>hat.other _ (hbk b' hb) (.inr (.inl (r4 _ _ hb).1))) (r5 k hk))
        ·cases hs'
    |_=>simp[ownP]at ho
   |_=>simp[rs]at hr
 |ptr e t ih =>
  intro m x b0 o0 fp u c' b o h hb0 hi ho hr;cases p with
  |nil=>simp only[rs]at hr; exact zHLa h hb0 hr
  |cons q p=>cases q with
   |der =>
    simp only[rs]at hr;cases m with
    |o m =>
     cases x with
     |none=>simp[inP]at hi
     |some x =>
      simp only[inP]at hi;simp only[ownP]at ho;simp only[rep]at h;obtain ⟨A,h1,a,ha,hsp,r1,r2,f,r4,r5⟩:=h;subst ha;rw[h1]at hr;simp only at hr;obtain ⟨fold,g⟩:=ih r5 (fun hc=>(r4 _ hc).2 rfl) hi ho hr;have hob:b≠b0:=by
       rcases g.lies with ⟨rfl,_⟩|⟨g7,_⟩
       ·exact fun hc=>hb0 (hc ▸ r1)
       ·exact fun hc=>hb0 (hc ▸ (r4 _ g7).1)
      refine ⟨fold,fun b hb=>(r4 _ (g.sub b hb)).1,g.nb,?_,.inr ?_,?_⟩
      ·obtain ⟨mo,yo,g1,g2⟩:=g.old; exact ⟨mo,yo,by simp only[getP]; exact g1,g2⟩
      ·rcases g.lies with ⟨rfl,g7,g8⟩|⟨g7,g8,g9⟩
       ·refine ⟨r1,hob,?_⟩;obtain ⟨cs,el,fz,k1,k2,k3⟩:=r2;exact ⟨cs,el,fz,k1,by omega,k3⟩
       ·exact ⟨(r4 _ g7).1,hob,g9⟩
      ·intro mu y m' x' F' w' fq hs' hF hat hq hrep;simp only[setP]at hs';cases hs2:setP t m x p u mu y with
       |none=>rw[hs2]at hs'; cases hs'
       |some z =>
        obtain ⟨m2,x2⟩:=z;rw[hs2]at hs';simp only[Option.some.injEq]at hs';obtain ⟨rfl,rfl⟩:=hs';have hnf:¬fold a.block:=fun hc=>(r4 _ (g.sub _ hc)).2 rfl
        have hqa:∀b',fq b'→b'≠a.block:=fun b' hb hc=>(hq b' hb).1 ⟨hc ▸ r1,hc ▸ hnf⟩
        have hnew:=g.new mu y m2 x2 F' w' fq hs2 hF (hat.sub (fun b hb=>(r4 _ hb).1) (.inl r1))
         (fun b' hb=>⟨fun hc=>(hq b' hb).1 ⟨(r4 _ hc.1).1,hc.2⟩,(hq b' hb).2.1,hqa b' hb⟩) hrep
        have hb0s:rowW w' b0 o0 0=rowW w b0 o0 0:=by
         simp only[rowW]; rw[hat.other b0 (Ne.symm hob) (.inr (.inr rfl))]
        have hkeep:zTga w' a.block (a.off+t.size) true:=by
         by_cases hc:a.block=b
         ·exact hc ▸ hat.keep _ _ (hc ▸ r2)
         ·exact (zAca (hat.other _ hc (.inr (.inl r1)))).2 r2
        simp only[rep];refine ⟨some a,by rw[hb0s,h1],a,rfl,hsp,.inl ⟨r1,hnf⟩,hkeep,_,?_,hnew⟩
        rintro b' (hb|hb)
        ·exact ⟨.inl ⟨(r4 _ hb.1).1,hb.2⟩,(r4 _ hb.1).2⟩
        ·exact ⟨.inr hb,hqa b' hb⟩
    |_=>simp[ownP]at ho
   |_=>simp[rs]at hr
 |arr n t ih =>
  intro m (x:List t.I) b0 o0 fp u c' b o h hb0 hi ho hr;cases p with
  |nil=>simp only[rs]at hr; exact zHLa h hb0 hr
  |cons q p=>cases q with
   |idx i =>
    simp only[rs]at hr;simp only[inP]at hi;simp only[ownP]at ho;rw[zMha]at hr;obtain ⟨hmj,ho⟩:=ho;have key:∃fs:Nat→Blks,Disj fs∧(∀i b,fs i b→fp b)∧List.length (x:List t.I)=n ∧
      ∀i,i<n→rep F w t m.el (List.getD (x:List t.I) i t.dflt) (rowW w b0 (o0+i*t.size)) (fs i):=by
     cases m with
     |j=>cases hmj
     |_ =>
      simp only[rep]at h;obtain ⟨hn,fs,h1,h2,r⟩:=h;exact ⟨fs,h1,h2,hn,fun i hi=>by rw[←zMha]; exact r i hi⟩
    obtain ⟨fs,r3,r4,hn,r5⟩:=key;obtain ⟨fold,g⟩:=ih (r5 _ (hn ▸ hi.1)) (fun hc=>hb0 (r4 _ _ hc)) hi.2 ho hr;refine ⟨fold,fun b hb=>r4 _ _ (g.sub b hb),g.nb,?_,?_,?_⟩
    ·obtain ⟨mo,yo,g1,g2⟩:=g.old; exact ⟨mo,yo,by simp only[getP]; exact g1,g2⟩
    ·rcases g.lies with ⟨g6,g7,g8⟩|⟨g7,g8,g9⟩
     ·have:i.toNat * t.size+t.size≤n*t.size:=by
       rw[←Nat.succ_mul]; exact Nat.mul_le_mul_right _ (by omega)
      exact .inl ⟨g6,by omega,by simp only[Ty.size]; omega⟩
     ·exact .inr ⟨r4 _ _ g7,g8,g9⟩
    ·intro mu y m' x' F' w' fq hs' hF hat hq hrep;simp only[setP,hmj]at hs';cases hs2:setP t m.el (List.getD (x:List t.I) i.toNat t.dflt) p u mu y with
     |none=>rw[hs2]at hs'; cases hs'
     |some z =>
      obtain ⟨m2,x2⟩:=z;rw[hs2]at hs';simp only at hs';split at hs'
      ·rename_i he;obtain rfl:=Md.eqb_eq he;simp only[Option.some.injEq]at hs';obtain ⟨rfl,rfl⟩:=hs';have hnew:=g.new mu y m.el x2 F' w' fq hs2 hF (hat.sub (fun b hb=>r4 _ _ hb) (.inr rfl))
        (fun b' hb=>⟨fun hc=>(hq b' hb).1 ⟨r4 _ _ hc.1,hc.2⟩,(hq b' hb).2.1,(hq b' hb).2.2⟩) hrep
       have goal:List.length (List.set (x:List t.I) i.toNat x2)=n∧∃fs:Nat→Blks,Disj fs∧(∀i b,fs i b→((fp b∧¬fold b)∨fq b)) ∧
         ∀k,k<n→rep F' w' t m.el (List.getD (List.set (x:List t.I) i.toNat x2) k t.dflt) (fun j=>rowW w' b0 o0 (k*t.size+j)) (fs k):=by
        refine ⟨by simpa using hn,fun k b'=>if k=i.toNat then (fs k b'∧¬fold b')∨fq b' else fs k b',⟨?_⟩,?_,?_⟩
        ·intro k k' hkk b' hb1 hb2;by_cases e1:k=i.toNat<;>by_cases e2:k'=i.toNat<;>simp only[e1,e2,if_true,if_false]at hb1 hb2
         ·exact hkk (e1.trans e2.symm)
         ·rcases hb1 with hb1|hb1
          ·exact r3.disj _ _ (fun hc=>e2 hc.symm) _ hb1.1 hb2
          ·exact (hq b' hb1).1 ⟨r4 _ _ hb2,fun hc=>r3.disj _ _ e2 _ hb2 (g.sub _ hc)⟩
         ·rcases hb2 with hb2|hb2
          ·exact r3.disj _ _ e1 _ hb1 hb2.1
          ·exact (hq b' hb2).1 ⟨r4 _ _ hb1,fun hc=>r3.disj _ _ e1 _ hb1 (g.sub _ hc)⟩
         ·exact r3.disj _ _ hkk _ hb1 hb2
        ·intro k b' hb;by_cases e1:k=i.toNat<;>simp only[e1,if_true,if_false]at hb
         ·rcases hb with hb|hb
          ·exact .inl ⟨r4 _ _ hb.1,hb.2⟩
          ·exact .inr hb
         ·exact .inl ⟨r4 _ _ hb,fun hc=>r3.disj _ _ e1 _ hb (g.sub _ hc)⟩
        ·intro k hk;rw[zMha];by_cases e1:k=i.toNat
         ·simp only[e1,if_true];rw[zjca hi.1];exact hnew
         ·simp only[e1,if_false];rw[zxha e1];have hbk:∀b',fs k b'→b'≠b:=by
           intro b' hb hc;subst hc;rcases g.lies with ⟨hc,_⟩|⟨hc,_⟩
           ·exact hb0 (hc ▸ r4 _ _ hb)
           ·exact r3.disj _ _ e1 _ hb hc
          have hrow:∀j,j<t.size→rowW w b0 (o0+k*t.size) j=rowW w' b0 (o0+k*t.size) j:=by
           intro j hj;by_cases hc:b0=b
           ·rw[zWba w,zWba w',hc];refine (hat.row _ ?_).symm;rcases g.lies with ⟨_,g7,g8⟩|⟨_,g8,_⟩
            ·rcases Nat.lt_or_gt_of_ne e1 with hlt|hlt
             ·left
              have:k*t.size+t.size≤i.toNat * t.size:=by rw[←Nat.succ_mul]; exact Nat.mul_le_mul_right _ hlt
              omega
             ·right
              have:i.toNat * t.size+t.size≤k*t.size:=by rw[←Nat.succ_mul]; exact Nat.mul_le_mul_right _ hlt
              omega
            ·exact absurd hc.symm g8
           ·simp only[rowW]; rw[hat.other _ hc (.inr (.inr rfl))]
          exact zEaa hrow (zxaa hF (fun b' hb=>hat.other _ (fun hc=>hat.notF (hc ▸ hb)) (.inl hb)) (fun b' hb=>hat.other _ (hbk b' hb) (.inr (.inl (r4 _ _ hb)))) (r5 k hk))
       cases m with
       |j=>cases hmj
       |_=>simp only[rep]; exact goal
      ·cases hs'
   |_=>simp[rs]at hr
 |pair t1 t2 iha ihb =>
  intro m x b0 o0 fp u c' b o h hb0 hi ho hr;cases p with
  |nil=>simp only[rs]at hr; exact zHLa h hb0 hr
  |cons q p=>cases q with
   |fld n =>
    obtain ⟨fa,fb,h1,h2,h3,ra,rb⟩:=zaka h;cases n with
    |zero =>
     simp only[rs]at hr;simp only[inP]at hi;simp only[ownP]at ho;obtain ⟨fold,g⟩:=iha ra (fun hc=>hb0 (h1 _ hc)) hi ho hr;refine ⟨fold,fun b hb=>h1 _ (g.sub b hb),g.nb,?_,?_,?_⟩
     ·obtain ⟨mo,yo,g1,g2⟩:=g.old; exact ⟨mo,yo,by simp only[getP]; exact g1,g2⟩
     ·rcases g.lies with ⟨g6,g7,g8⟩|⟨g7,g8,g9⟩
      ·exact .inl ⟨g6,g7,by simp only[Ty.size]; omega⟩
      ·exact .inr ⟨h1 _ g7,g8,g9⟩
     ·intro mu y m' x' F' w' fq hs' hF hat hq hrep;simp only[setP]at hs';cases hs2:setP t1 m.fst x.1 p u mu y with
      |none=>rw[hs2]at hs'; cases hs'
      |some z =>
       obtain ⟨m2,x2⟩:=z;rw[hs2]at hs';simp only[Option.some.injEq]at hs';obtain ⟨rfl,rfl⟩:=hs';have hnew:=g.new mu y m2 x2 F' w' fq hs2 hF (hat.sub (fun b hb=>h1 _ hb) (.inr rfl))
        (fun b' hb=>⟨fun hc=>(hq b' hb).1 ⟨h1 _ hc.1,hc.2⟩,(hq b' hb).2.1,(hq b' hb).2.2⟩) hrep
       have hbb:∀b',fb b'→b'≠b:=by
        intro b' hb hc;subst hc;rcases g.lies with ⟨hc,_⟩|⟨hc,_⟩
        ·exact hb0 (hc ▸ h2 _ hb)
        ·exact h3 _ hc hb
       refine zIVa (fa:=fun b'=>(fa b'∧¬fold b')∨fq b') (fb:=fb) ?_ ?_ ?_ hnew ?_
       ·rintro b' (hb|hb)
        ·exact .inl ⟨h1 _ hb.1,hb.2⟩
        ·exact .inr hb
       ·exact fun b' hb => .inl ⟨h2 _ hb,fun hc=>h3 _ (g.sub _ hc) hb⟩
       ·rintro b' (hb|hb) hb2
        ·exact h3 _ hb.1 hb2
        ·exact (hq b' hb).1 ⟨h2 _ hb2,fun hc=>h3 _ (g.sub _ hc) hb2⟩
       ·rw[zMha];rw[zMha]at rb;refine zEaa (fun j hj=>?_) (zxaa hF (fun b' hb=>hat.other _ (fun hc=>hat.notF (hc ▸ hb)) (.inl hb)) (fun b' hb=>hat.other _ (hbb b' hb) (.inr (.inl (h2 _ hb)))) rb);by_cases hc:b0=b
        ·rw[zWba w,zWba w',hc];refine (hat.row _ (.inr ?_)).symm;rcases g.lies with ⟨_,g7,g8⟩|⟨_,g8,_⟩
         ·omega
         ·exact absurd hc.symm g8
        ·simp only[rowW]; rw[hat.other _ hc (.inr (.inr rfl))]
    |succ n =>
     simp only[rs,Option.map_some]at hr;simp only[inP]at hi;simp only[ownP]at ho;rw[zMha]at rb hr;obtain ⟨fold,g⟩:=ihb rb (fun hc=>hb0 (h2 _ hc)) hi ho hr;refine ⟨fold,fun b hb=>h2 _ (g.sub b hb),g.nb,?_,?_,?_⟩
     ·obtain ⟨mo,yo,g1,g2⟩:=g.old; exact ⟨mo,yo,by simp only[getP]; exact g1,g2⟩
     ·rcases g.lies with ⟨g6,g7,g8⟩|⟨g7,g8,g9⟩
      ·exact .inl ⟨g6,by omega,by simp only[Ty.size]; omega⟩
      ·exact .inr ⟨h2 _ g7,g8,g9⟩
     ·intro mu y m' x' F' w' fq hs' hF hat hq hrep;simp only[setP]at hs';cases hs2:setP t2 m.snd x.2 (.fld n::p) u mu y with
      |none=>rw[hs2]at hs'; cases hs'
      |some z =>
       obtain ⟨m2,x2⟩:=z;rw[hs2]at hs';simp only[Option.some.injEq]at hs';obtain ⟨rfl,rfl⟩:=hs';have hnew:=g.new mu y m2 x2 F' w' fq hs2 hF (hat.sub (fun b hb=>h2 _ hb) (.inr rfl))
        (fun b' hb=>⟨fun hc=>(hq b' hb).1 ⟨h2 _ hc.1,hc.2⟩,(hq b' hb).2.1,(hq b' hb).2.2⟩) hrep
       have haa:∀b',fa b'→b'≠b:=by
        intro b' hb hc;subst hc;rcases g.lies with ⟨hc,_⟩|⟨hc,_⟩
        ·exact hb0 (hc ▸ h1 _ hb)
        ·exact h3 _ hb hc
       refine zIVa (fa:=fa) (fb:=fun b'=>(fb b'∧¬fold b')∨fq b') ?_ ?_ ?_ ?_ (by rw[zMha]; exact hnew)
       ·exact fun b' hb => .inl ⟨h1 _ hb,fun hc=>h3 _ hb (g.sub _ hc)⟩
       ·rintro b' (hb|hb)
        ·exact .inl ⟨h2 _ hb.1,hb.2⟩
        ·exact .inr hb
       ·rintro b' hb (hb2|hb2)
        ·exact h3 _ hb hb2.1
        ·exact (hq b' hb2).1 ⟨h1 _ hb,fun hc=>h3 _ hb (g.sub _ hc)⟩
       ·refine zEaa (fun j hj=>?_) (zxaa hF (fun b' hb=>hat.other _ (fun hc=>hat.notF (hc ▸ hb)) (.inl hb)) (fun b' hb=>hat.other _ (haa b' hb) (.inr (.inl (h1 _ hb)))) ra);by_cases hc:b0=b
        ·rw[zWba w,zWba w',hc];refine (hat.row _ (.inl ?_)).symm;rcases g.lies with ⟨_,g7,g8⟩|⟨_,g8,_⟩
         ·omega
         ·exact absurd hc.symm g8
        ·simp only[rowW]; rw[hat.other _ hc (.inr (.inr rfl))]
   |_=>simp[rs]at hr
 |_ =>
  intro m x b0 o0 fp u c' b o h hb0 hi ho hr;cases p with
  |nil=>simp only[rs]at hr; exact zHLa h hb0 hr
  |cons q p=>simp[rs]at hr
end Go.Trm
namespace Go.Trm
theorem zIwa {F:Blks} {w w':World}:∀ {q:List PE} {t:Ty} {m:Md} {x:t.I} {c c2:Cells} {ad:Option (Nat×Nat)} {fp:Blks} {u:Ty} {c1:Cells} {ad1:Option (Nat×Nat)},
  rep F w t m x c fp→inP t x q→ownP t m q→(∀b,fp b→Same w w' b)→(∀j,j<t.size→c j=c2 j)→rs w t c ad q=some (u,c1,ad1) →
  ∃c3,rs w' t c2 ad q=some (u,c3,ad1)∧∀j,j<u.size→c1 j=c3 j:=by
 intro q t
 induction t generalizing q with
 |sl e t ih =>
  intro m x c c2 ad fp u c1 ad1 h hi ho hs hc hr;cases q with
  |nil=>simp only[rs,Option.some.injEq,Prod.mk.injEq]at hr ⊢; obtain ⟨rfl,rfl,rfl⟩:=hr; exact ⟨c2,⟨rfl,rfl,rfl⟩,hc⟩
  |cons q p=>cases q with
   |idx i =>
    cases m with
    |o m =>
     simp only[ownP]at ho;simp only[inP]at hi;simp only[rep]at h;obtain ⟨A,cap,h1,h2,h3,h4,r⟩:=h;cases A with
     |none=>have:=h4 rfl; omega
     |some a =>
      obtain ⟨hsp,r1,r2,fs,r3,r4,r5⟩:=r a rfl;simp only[rs]at hr ⊢;rw[←hc 0 (by simp[Ty.size]),h1];rw[h1]at hr;simp only at hr ⊢;rw[zRfa (hs _ r1)];exact ih (r5 _ hi.1) hi.2 ho (fun b hb=>hs _ (r4 _ _ hb).1) (fun _ _=>rfl) hr
    |_=>simp[ownP]at ho
   |_=>simp[rs]at hr
 |ptr e t ih =>
  intro m x c c2 ad fp u c1 ad1 h hi ho hs hc hr;cases q with
  |nil=>simp only[rs,Option.some.injEq,Prod.mk.injEq]at hr ⊢; obtain ⟨rfl,rfl,rfl⟩:=hr; exact ⟨c2,⟨rfl,rfl,rfl⟩,hc⟩
  |cons q p=>cases q with
   |der =>
    cases m with
    |o m =>
     cases x with
     |none=>simp[inP]at hi
     |some x =>
      simp only[ownP]at ho;simp only[inP]at hi;simp only[rep]at h;obtain ⟨A,h1,a,ha,hsp,r1,r2,f,r4,r5⟩:=h;subst ha;simp only[rs]at hr ⊢;rw[←hc 0 (by simp[Ty.size]),h1];rw[h1]at hr;simp only at hr ⊢;rw[zRfa (hs _ r1)];exact ih r5 hi ho (fun b hb=>hs _ (r4 _ hb).1) (fun _ _=>rfl) hr
    |_=>simp[ownP]at ho
   |_=>simp[rs]at hr
 |arr n t ih =>
  intro m x c c2 ad fp u c1 ad1 h hi ho hs hc hr;cases q with
  |nil=>simp only[rs,Option.some.injEq,Prod.mk.injEq]at hr ⊢; obtain ⟨rfl,rfl,rfl⟩:=hr; exact ⟨c2,⟨rfl,rfl,rfl⟩,hc⟩
  |cons q p=>cases q with
   |idx i =>
    simp only[ownP]at ho;obtain ⟨hmj,ho⟩:=ho;simp only[inP]at hi;simp only[rs]at hr ⊢;have key:∃fs:Nat→Blks,(∀i b,fs i b→fp b)∧List.length (x:List t.I)=n∧rep F w t m.el (List.getD (x:List t.I) i.toNat t.dflt) (fun j=>c (i.toNat * t.size+j)) (fs i.toNat):=by
     cases m with
     |j=>cases hmj
     |_=>simp only[rep]at h; obtain ⟨hn,fs,_,h2,r⟩:=h; exact ⟨fs,h2,hn,r _ (hn ▸ hi.1)⟩
    obtain ⟨fs,h2,hn,r⟩:=key;refine ih r hi.2 ho (fun b hb=>hs _ (h2 _ _ hb)) (fun j hj=>hc _ ?_) hr;have:i.toNat * t.size+t.size≤n*t.size:=by
     rw[←Nat.succ_mul]; exact Nat.mul_le_mul_right _ (by have:=hi.1; omega)
    simp only[Ty.size]; omega
   |_=>simp[rs]at hr
 |pair a b iha ihb =>
  intro m x c c2 ad fp u c1 ad1 h hi ho hs hc hr;cases q with
  |nil=>simp only[rs,Option.some.injEq,Prod.mk.injEq]at hr ⊢; obtain ⟨rfl,rfl,rfl⟩:=hr; exact ⟨c2,⟨rfl,rfl,rfl⟩,hc⟩
  |cons q p=>cases q with
   |fld n =>
    obtain ⟨fa,fb,h1,h2,h3,ra,rb⟩:=zaka h;cases n with
    |zero =>
     simp only[ownP]at ho;simp only[inP]at hi;simp only[rs]at hr ⊢;exact iha ra hi ho (fun b hb=>hs _ (h1 _ hb)) (fun j hj=>hc _ (by simp only[Ty.size]; omega)) hr
    |succ n =>
     simp only[ownP]at ho;simp only[inP]at hi;simp only[rs]at hr ⊢;exact ihb rb hi ho (fun b hb=>hs _ (h2 _ hb)) (fun j hj=>hc _ (by simp only[Ty.size]; omega)) hr
   |_=>simp[rs]at hr
 |_ =>
  intro m x c c2 ad fp u c1 ad1 h hi ho hs hc hr;cases q with
  |nil=>simp only[rs,Option.some.injEq,Prod.mk.injEq]at hr ⊢; obtain ⟨rfl,rfl,rfl⟩:=hr; exact ⟨c2,⟨rfl,rfl,rfl⟩,hc⟩
  |cons q p=>simp[rs]at hr
theorem keepM {F:Blks} {w w':World}:∀ {q p:List PE} {t:Ty} {m:Md} {x:t.I} {b0 o0:Nat} {fp:Blks} {u:Ty} {c1:Cells} {ad1:Option (Nat×Nat)} {uu:Ty} {cc:Cells} {b o:Nat} {mu:Md} {y:uu.I} {m':Md} {x':t.I},
  rep F w t m x (rowW w b0 o0) fp→¬fp b0→inP t x p→ownP t m p→rs w t (rowW w b0 o0) (some (b0,o0)) p=some (uu,cc,some (b,o)) →
  pre q p=true→inP t x q→ownP t m q→rs w t (rowW w b0 o0) (some (b0,o0)) q=some (u,c1,ad1)→At F fp w w' b0 b o uu.size→setP t m x p uu mu y=some (m',x') →
  inP t x' q∧ownP t m' q∧∃c2,rs w' t (rowW w' b0 o0) (some (b0,o0)) q=some (u,c2,ad1):=by
 intro q p t
 induction t generalizing q p with
 |sl e t ih =>
  intro m (x:List t.I) b0 o0 fp u c1 ad1 uu cc b o mu y m' x' h hb0 hi ho hr hp hiq hoq hrq hat hset;cases q with
  |nil=>simp only[rs,Option.some.injEq,Prod.mk.injEq]at hrq ⊢; obtain ⟨rfl,rfl,rfl⟩:=hrq; exact ⟨by simp[inP],by simp[ownP],_,rfl,rfl,rfl⟩
  |cons e1 q=>cases e1 with
   |idx k=>cases p with
    |nil=>simp[pre]at hp
    |cons e2 p=>cases e2 with
     |idx i =>
      cases m with
      |o m =>
       simp only[ownP]at ho hoq;simp only[inP]at hi hiq;simp only[pre]at hp;have hl:=zSpa (p := .idx i::p) h hb0 (by simp only[inP]; exact hi) (by simp only[ownP]; exact ho) hr;simp only[rep]at h;obtain ⟨A,cap,h1,h2,h3,h4,r⟩:=h;cases A with
       |none=>have:=h4 rfl; omega
       |some a =>
        obtain ⟨hsp,r1,r2,fs,r3,r4,r5⟩:=r a rfl;simp only[rs]at hr hrq ⊢;rw[h1]at hr hrq;simp only at hr hrq;simp only[setP]at hset;cases hs2:setP t m (List.getD (x:List t.I) i.toNat t.dflt) p uu mu y with
        |none=>rw[hs2]at hset; cases hset
        |some z =>
         obtain ⟨m2,x2⟩:=z;rw[hs2]at hset;simp only at hset;split at hset
         ·rename_i he;obtain rfl:=Md.eqb_eq he;simp only[Option.some.injEq]at hset;obtain ⟨rfl,rfl⟩:=hset;have hne:∀i b,fs i b→b≠a.block:=fun i b hb=>(r4 i b hb).2
          obtain ⟨fold,g⟩:=zSpa (r5 _ hi.1) (fun hc=>hne _ _ hc rfl) hi.2 ho hr;have hob:b≠b0:=by
           rcases g.lies with ⟨rfl,_⟩|⟨g7,_⟩
           ·exact fun hc=>hb0 (hc ▸ r1)
           ·exact fun hc=>hb0 (hc ▸ (r4 _ _ g7).1)
          have hb0s:rowW w' b0 o0 0=rowW w b0 o0 0:=by
           simp only[rowW]; rw[hat.other b0 (Ne.symm hob) (.inr (.inr rfl))]
          rw[hb0s,h1];simp only[inP,ownP];by_cases e1:k.toNat=i.toNat
          ·rw[e1]at hiq hrq ⊢;obtain ⟨k1,k2,k3⟩:=ih (r5 _ hi.1) (fun hc=>hne _ _ hc rfl) hi.2 ho hr hp hiq.2 hoq hrq (hat.sub (fun b hb=>(r4 _ _ hb).1) (.inl r1)) hs2;refine ⟨⟨Nat.lt_of_lt_of_eq hi.1 (List.length_set (as:=x)).symm,?_⟩,k2,k3⟩;rw[zjca (l:=x) hi.1]; exact k1
          ·have hbk:∀b',fs k.toNat b'→b'≠b:=by
            intro b' hb hc;subst hc;rcases g.lies with ⟨hc,_⟩|⟨hc,_⟩
            ·exact (r4 _ _ hb).2 hc
            ·exact r3.disj _ _ e1 _ hb hc
           have hrow:∀j,j<t.size→rowW w a.block (a.off+k.toNat * t.size) j=rowW w' a.block (a.off+k.toNat * t.size) j:=by
            intro j hj;by_cases hc:a.block=b
            ·rw[zWba w,zWba w',hc];refine (hat.row _ ?_).symm;rcases g.lies with ⟨_,g7,g8⟩|⟨_,g8,_⟩
             ·rcases Nat.lt_or_gt_of_ne e1 with hlt|hlt
              ·left
               have:k.toNat * t.size+t.size≤i.toNat * t.size:=by rw[←Nat.succ_mul]; exact Nat.mul_le_mul_right _ hlt
               omega
              ·right
               have:i.toNat * t.size+t.size≤k.toNat * t.size:=by rw[←Nat.succ_mul]; exact Nat.mul_le_mul_right _ hlt
               omega
             ·exact absurd hc.symm g8
            ·simp only[rowW]; rw[hat.other _ hc (.inr (.inl r1))]
           obtain ⟨c3,k3,_⟩:=zIwa (r5 _ hiq.1) hiq.2 hoq (fun b' hb=>hat.other _ (hbk b' hb) (.inr (.inl (r4 _ _ hb).1))) hrow hrq;refine ⟨⟨Nat.lt_of_lt_of_eq hiq.1 (List.length_set (as:=x)).symm,?_⟩,hoq,c3,k3⟩;rw[zxha (l:=x) e1]; exact hiq.2
         ·cases hset
      |_=>simp[ownP]at ho
     |_=>simp[rs]at hr
   |_=>simp[rs]at hrq
 |ptr e t ih =>
  intro m x b0 o0 fp u c1 ad1 uu cc b o mu y m' x' h hb0 hi ho hr hp hiq hoq hrq hat hset;cases q with
  |nil=>simp only[rs,Option.some.injEq,Prod.mk.injEq]at hrq ⊢; obtain ⟨rfl,rfl,rfl⟩:=hrq; exact ⟨by simp[inP],by simp[ownP],_,rfl,rfl,rfl⟩
  |cons e1 q=>cases e1 with
   |der=>cases p with
    |nil=>simp[pre]at hp
    |cons e2 p=>cases e2 with
     |der =>
      cases m with
      |o m =>
       cases x with
       |none=>simp[inP]at hi
       |some x =>
        simp only[ownP]at ho hoq;simp only[inP]at hi hiq;simp only[pre]at hp;simp only[rep]at h;obtain ⟨A,h1,a,ha,hsp,r1,r2,f,r4,r5⟩:=h;subst ha;simp only[rs]at hr hrq ⊢;rw[h1]at hr hrq;simp only at hr hrq;simp only[setP]at hset;cases hs2:setP t m x p uu mu y with
        |none=>rw[hs2]at hset; cases hset
        |some z =>
         obtain ⟨m2,x2⟩:=z;rw[hs2]at hset;simp only[Option.some.injEq]at hset;obtain ⟨rfl,rfl⟩:=hset;obtain ⟨fold,g⟩:=zSpa r5 (fun hc=>(r4 _ hc).2 rfl) hi ho hr;have hob:b≠b0:=by
          rcases g.lies with ⟨rfl,_⟩|⟨g7,_⟩
          ·exact fun hc=>hb0 (hc ▸ r1)
          ·exact fun hc=>hb0 (hc ▸ (r4 _ g7).1)
         have hb0s:rowW w' b0 o0 0=rowW w b0 o0 0:=by
          simp only[rowW]; rw[hat.other b0 (Ne.symm hob) (.inr (.inr rfl))]
         rw[hb0s,h1];simp only[inP,ownP];exact ih r5 (fun hc=>(r4 _ hc).2 rfl) hi ho hr hp hiq hoq hrq (hat.sub (fun b hb=>(r4 _ hb).1) (.inl r1)) hs2
      |_=>simp[ownP]at ho
     |_=>simp[rs]at hr
   |_=>simp[rs]at hrq
 |arr n t ih =>
  intro m (x:List t.I) b0 o0 fp u c1 ad1 uu cc b o mu y m' x' h hb0 hi ho hr hp hiq hoq hrq hat hset;cases q with
  |nil=>simp only[rs,Option.some.injEq,Prod.mk.injEq]at hrq ⊢; obtain ⟨rfl,rfl,rfl⟩:=hrq; exact ⟨by simp[inP],by simp[ownP],_,rfl,rfl,rfl⟩
  |cons e1 q=>cases e1 with
   |idx k=>cases p with
    |nil=>simp[pre]at hp
    |cons e2 p=>cases e2 with
     |idx i =>
      simp only[ownP]at ho hoq;obtain ⟨hmj,ho⟩:=ho;simp only[inP]at hi hiq;simp only[pre]at hp;simp only[rs]at hr hrq ⊢;rw[zMha]at hr hrq ⊢;have key:∃fs:Nat→Blks,Disj fs∧(∀i b,fs i b→fp b)∧List.length (x:List t.I)=n ∧
        ∀i,i<n→rep F w t m.el (List.getD (x:List t.I) i t.dflt) (rowW w b0 (o0+i*t.size)) (fs i):=by
       cases m with
       |j=>cases hmj
       |_ =>
        simp only[rep]at h;obtain ⟨hn,fs,h1,h2,r⟩:=h;exact ⟨fs,h1,h2,hn,fun i hi=>by rw[←zMha]; exact r i hi⟩
      obtain ⟨fs,r3,r4,hn,r5⟩:=key;simp only[setP,hmj]at hset;cases hs2:setP t m.el (List.getD (x:List t.I) i.toNat t.dflt) p uu mu y with
      |none=>rw[hs2]at hset; cases hset
      |some z =>
       obtain ⟨m2,x2⟩:=z;rw[hs2]at hset;simp only at hset;split at hset
       ·rename_i he;obtain rfl:=Md.eqb_eq he;simp only[Option.some.injEq]at hset;obtain ⟨rfl,rfl⟩:=hset;obtain ⟨fold,g⟩:=zSpa (r5 _ (hn ▸ hi.1)) (fun hc=>hb0 (r4 _ _ hc)) hi.2 ho hr;simp only[inP,ownP];by_cases e1:k.toNat=i.toNat
        ·rw[e1]at hiq hrq ⊢;obtain ⟨k1,k2,k3⟩:=ih (r5 _ (hn ▸ hi.1)) (fun hc=>hb0 (r4 _ _ hc)) hi.2 ho hr hp hiq.2 hoq.2 hrq (hat.sub (fun b hb=>r4 _ _ hb) (.inr rfl)) hs2;refine ⟨⟨Nat.lt_of_lt_of_eq hi.1 (List.length_set (as:=x)).symm,?_⟩,⟨hmj,k2⟩,k3⟩;rw[zjca (l:=x) hi.1]; exact k1
        ·have hbk:∀b',fs k.toNat b'→b'≠b:=by
          intro b' hb hc;subst hc;rcases g.lies with ⟨hc,_⟩|⟨hc,_⟩
          ·exact hb0 (hc ▸ r4 _ _ hb)
          ·exact r3.disj _ _ e1 _ hb hc
         have hrow:∀j,j<t.size→rowW w b0 (o0+k.toNat * t.size) j=rowW w' b0 (o0+k.toNat * t.size) j:=by
          intro j hj;by_cases hc:b0=b
          ·rw[zWba w,zWba w',hc];refine (hat.row _ ?_).symm;rcases g.lies with ⟨_,g7,g8⟩|⟨_,g8,_⟩
           ·rcases Nat.lt_or_gt_of_ne e1 with hlt|hlt
            ·left
             have:k.toNat * t.size+t.size≤i.toNat * t.size:=by rw[←Nat.succ_mul]; exact Nat.mul_le_mul_right _ hlt
             omega
            ·right
             have:i.toNat * t.size+t.size≤k.toNat * t.size:=by rw[←Nat.succ_mul]; exact Nat.mul_le_mul_right _ hlt
             omega
           ·exact absurd hc.symm g8
          ·simp only[rowW]; rw[hat.other _ hc (.inr (.inr rfl))]
         obtain ⟨c3,k3,_⟩:=zIwa (r5 _ (hn ▸ hiq.1)) hiq.2 hoq.2 (fun b' hb=>hat.other _ (hbk b' hb) (.inr (.inl (r4 _ _ hb)))) hrow hrq;refine ⟨⟨Nat.lt_of_lt_of_eq hiq.1 (List.length_set (as:=x)).symm,?_⟩,hoq,c3,k3⟩;rw[zxha (l:=x) e1]; exact hiq.2
       ·cases hset
     |_=>simp[rs]at hr
   |_=>simp[rs]at hrq
 |pair t1 t2 iha ihb =>
  intro m x b0 o0 fp u c1 ad1 uu cc b o mu y m' x' h hb0 hi ho hr hp hiq hoq hrq hat hset;cases q with
  |nil=>simp only[rs,Option.some.injEq,Prod.mk.injEq]at hrq ⊢; obtain ⟨rfl,rfl,rfl⟩:=hrq; exact ⟨by simp[inP],by simp[ownP],_,rfl,rfl,rfl⟩
  |cons e1 q=>cases e1 with
   |fld k=>cases p with
    |nil=>simp[pre]at hp
    |cons e2 p=>cases e2 with
     |fld n =>
      obtain ⟨fa,fb,h1,h2,h3,ra,rb⟩:=zaka h;by_cases hkn:k=n
      case neg =>
       cases k with
       |zero =>
        obtain ⟨n,rfl⟩:∃j,n=j+1:=⟨n-1,by omega⟩
        simp only[rs,Option.map_some]at hr hrq ⊢;simp only[inP]at hi hiq ⊢;simp only[ownP]at ho hoq;rw[zMha]at rb hr;simp only[setP]at hset;cases hs2:setP t2 m.snd x.2 (.fld n::p) uu mu y with
        |none=>rw[hs2]at hset; cases hset
        |some z =>
         obtain ⟨m2,x2⟩:=z;rw[hs2]at hset;simp only[Option.some.injEq]at hset;obtain ⟨rfl,rfl⟩:=hset;obtain ⟨fold,g⟩:=zSpa rb (fun hc=>hb0 (h2 _ hc)) hi ho hr;have hbk:∀b',fa b'→b'≠b:=by
          intro b' hb hc;subst hc;rcases g.lies with ⟨hc,_⟩|⟨hc,_⟩
          ·exact hb0 (hc ▸ h1 _ hb)
          ·exact h3 _ hb hc
         have hrow:∀j,j<t1.size→rowW w b0 o0 j=rowW w' b0 o0 j:=by
          intro j hj;by_cases hc:b0=b
          ·rw[zWba w,zWba w',hc];refine (hat.row _ ?_).symm;rcases g.lies with ⟨_,g7,g8⟩|⟨_,g8,_⟩
           ·left; omega
           ·exact absurd hc.symm g8
          ·simp only[rowW]; rw[hat.other _ hc (.inr (.inr rfl))]
         obtain ⟨c3,k3,_⟩:=zIwa ra hiq hoq (fun b' hb=>hat.other _ (hbk b' hb) (.inr (.inl (h1 _ hb)))) hrow hrq;refine ⟨hiq,?_,c3,k3⟩;simp only[ownP];generalize m.fst=mf at hoq ⊢;unfold Md.mkp;split<;>exact hoq
       |succ k =>
        cases n with
        |zero =>
         simp only[rs,Option.map_some]at hr hrq ⊢;simp only[inP]at hi hiq ⊢;simp only[ownP]at ho hoq;rw[zMha]at rb hrq ⊢;simp only[setP]at hset;cases hs2:setP t1 m.fst x.1 p uu mu y with
         |none=>rw[hs2]at hset; cases hset
         |some z =>
          obtain ⟨m2,x2⟩:=z;rw[hs2]at hset;simp only[Option.some.injEq]at hset;obtain ⟨rfl,rfl⟩:=hset;obtain ⟨fold,g⟩:=zSpa ra (fun hc=>hb0 (h1 _ hc)) hi ho hr;have hbk:∀b',fb b'→b'≠b:=by
           intro b' hb hc;subst hc;rcases g.lies with ⟨hc,_⟩|⟨hc,_⟩
           ·exact hb0 (hc ▸ h2 _ hb)
           ·exact h3 _ hc hb
          have hrow:∀j,j<t2.size→rowW w b0 (o0+t1.size) j=rowW w' b0 (o0+t1.size) j:=by
           intro j hj;by_cases hc:b0=b
           ·rw[zWba w,zWba w',hc];refine (hat.row _ ?_).symm;rcases g.lies with ⟨_,g7,g8⟩|⟨_,g8,_⟩
            ·right; omega
            ·exact absurd hc.symm g8
           ·simp only[rowW]; rw[hat.other _ hc (.inr (.inr rfl))]
          obtain ⟨c3,k3,_⟩:=zIwa rb hiq hoq (fun b' hb=>hat.other _ (hbk b' hb) (.inr (.inl (h2 _ hb)))) hrow hrq;refine ⟨hiq,?_,c3,k3⟩;simp only[ownP];generalize m.snd=mf at hoq ⊢;unfold Md.mkp;split<;>exact hoq
        |succ n =>
         simp only[rs,Option.map_some]at hr hrq ⊢;simp only[inP]at hi hiq ⊢;simp only[ownP]at ho hoq;rw[zMha]at rb hr hrq ⊢;simp only[setP]at hset;cases hs2:setP t2 m.snd x.2 (.fld n::p) uu mu y with
         |none=>rw[hs2]at hset; cases hset
         |some z =>
          obtain ⟨m2,x2⟩:=z;rw[hs2]at hset;simp only[Option.some.injEq]at hset;obtain ⟨rfl,rfl⟩:=hset;have hkn':Nat.beq k n=false:=by
           cases hq:Nat.beq k n with
           |false=>rfl
           |true=>exact absurd (Nat.eq_of_beq_eq_true hq) (by omega)
          obtain ⟨k1,k2,k3⟩:=ihb rb (fun hc=>hb0 (h2 _ hc)) hi ho hr (by simp only[pre,hkn',cond_false]) hiq hoq hrq (hat.sub (fun b hb=>h2 _ hb) (.inr rfl)) hs2;refine ⟨k1,?_,k3⟩;simp only[ownP];unfold Md.mkp;split<;>exact k2
      subst hkn;have hp2:pre q p=true:=by simpa only[pre,Nat.beq_refl,cond_true] using hp
      clear hp;have hp:=hp2;clear hp2;cases k with
      |zero =>
       simp only[rs]at hr hrq ⊢;simp only[inP]at hi hiq ⊢;simp only[ownP]at ho hoq;simp only[setP]at hset;cases hs2:setP t1 m.fst x.1 p uu mu y with
       |none=>rw[hs2]at hset; cases hset
       |some z =>
        obtain ⟨m2,x2⟩:=z;rw[hs2]at hset;simp only[Option.some.injEq]at hset;obtain ⟨rfl,rfl⟩:=hset;obtain ⟨k1,k2,k3⟩:=iha ra (fun hc=>hb0 (h1 _ hc)) hi ho hr hp hiq hoq hrq (hat.sub (fun b hb=>h1 _ hb) (.inr rfl)) hs2;refine ⟨k1,?_,k3⟩;simp only[ownP];unfold Md.mkp;split<;>exact k2
      |succ k =>
       simp only[rs,Option.map_some]at hr hrq ⊢;simp only[inP]at hi hiq ⊢;simp only[ownP]at ho hoq;rw[zMha]at rb hr hrq ⊢;simp only[setP]at hset;cases hs2:setP t2 m.snd x.2 (.fld k::p) uu mu y with
       |none=>rw[hs2]at hset; cases hset
       |some z =>
        obtain ⟨m2,x2⟩:=z;rw[hs2]at hset;simp only[Option.some.injEq]at hset;obtain ⟨rfl,rfl⟩:=hset;obtain ⟨k1,k2,k3⟩:=ihb rb (fun hc=>hb0 (h2 _ hc)) hi ho hr (by simp only[pre,Nat.beq_refl,cond_true]; exact hp) hiq hoq hrq (hat.sub (fun b hb=>h2 _ hb) (.inr rfl)) hs2;refine ⟨k1,?_,k3⟩;simp only[ownP];unfold Md.mkp;split<;>exact k2
     |_=>simp[rs]at hr
   |_=>simp[rs]at hrq
 |_ =>
  intro m x b0 o0 fp u c1 ad1 uu cc b o mu y m' x' h hb0 hi ho hr hp hiq hoq hrq hat hset;cases q with
  |nil=>simp only[rs,Option.some.injEq,Prod.mk.injEq]at hrq ⊢; obtain ⟨rfl,rfl,rfl⟩:=hrq; exact ⟨by simp[inP],by simp[ownP],_,rfl,rfl,rfl⟩
  |cons q p=>simp[rs]at hrq
end Go.Trm
namespace Go.Trm
def cv (v:Value):Cells:=fun j=>v.cells.getD j undef
def isV (t:Ty) (v:Value):Prop:=v=valOf t (cv v)
theorem zfGa {t:Ty} (h:t.agg=false):t.size=1:=by cases t<;>first|rfl|(simp[Ty.agg]at h)
def one (v:Value):Prop:=v.cells=#[v]
theorem zPxa {t:Ty} {c:Cells} (h:t.agg=false→one (c 0)):∀j,j<t.size→cv (valOf t c) j=c j:=by
 intro j hj;unfold valOf;cases ha:t.agg with
 |false =>
  rw[zfGa ha]at hj;obtain rfl:j=0:=by omega
  have h1:(c 0).cells=#[c 0]:=h ha;simp[cv,h1]
 |true=>simp[cv,Value.cells,hj]
theorem zOva {t:Ty} {c:Cells} (h:t.agg=false→one (c 0)):isV t (valOf t c):=by
 unfold isV;have h1:=zPxa h;cases ha:t.agg with
 |false =>
  have h2:valOf t c=c 0:=by simp[valOf,ha]
  have h3:valOf t (cv (valOf t c))=cv (valOf t c) 0:=by simp[valOf,ha]
  rw[h3,h1 0 (by rw[zfGa ha]; omega),h2]
 |true =>
  have h3:∀c',valOf t c' = .agg ((List.range t.size).map c').toArray:=fun c'=>by simp[valOf,ha]
  rw[h3,h3]
  congr 2
  exact List.map_congr_left fun j hj=>by rw[←h3 c]; exact (h1 j (List.mem_range.1 hj)).symm
theorem zn1a {x:Bool} {v:Value} (h:errV x v):one v:=by
 cases x with
 |false=>cases h; rfl
 |true=>obtain ⟨T,p,rfl⟩:=h; rfl
theorem zJwa {F:Blks} {w:World} {t:Ty} {m:Md} {x:t.I} {c:Cells} {fp:Blks} (h:rep F w t m x c fp) (hm:m ≠ .j) (ha:t.agg=false):one (c 0):=by
 cases t with
 |int k=>cases m<;>simp only[rep]at h<;>first|exact absurd rfl hm|(rw[h.1]; rfl)
 |bool=>cases m<;>simp only[rep]at h<;>first|exact absurd rfl hm|(rw[h]; rfl)
 |str=>cases m<;>simp only[rep]at h<;>first|exact absurd rfl hm|(rw[h.1]; rfl)
 |err=>cases m<;>simp only[rep]at h<;>first|exact absurd rfl hm|exact zn1a h
 |sl e t=>cases m<;>simp only[rep]at h<;>first|exact absurd rfl hm|(obtain ⟨A,cap,h,_⟩:=h; rw[h]; rfl)
 |ptr e t=>cases m<;>simp only[rep]at h<;>first|exact absurd rfl hm|(obtain ⟨A,h,_⟩:=h; rw[h]; rfl)
 |unit=>simp[Ty.agg]at ha
 |pair a b=>simp[Ty.agg]at ha
 |arr n t=>simp[Ty.agg]at ha
end Go.Trm
namespace Go.Trm
def pushW (w:World) (cs:Array Value):World:={ w with heap:=w.heap.push (.cells cs 0) }
theorem zAba {w:World} {cs:Array Value} {b:Nat} (h:b<w.heap.size):Same w (pushW w cs) b:=by
 unfold Same pushW;simp only[Array.getElem?_push];rw[if_neg (by omega)]
theorem zLYa (w:World) (cs:Array Value) (j:Nat):rowW (pushW w cs) w.heap.size 0 j=cs.getD j undef:=by
 have h:(pushW w cs).heap[w.heap.size]?=some (.cells cs 0 (0,0)):=Array.getElem?_push_size;simp only[rowW,h,rowOf,Nat.zero_add]
theorem zNja {w w':World} {b:Nat} (h:Same w w' b):Same w' w b:=Eq.symm h
theorem zMja {w w' w'':World} {b:Nat} (h:Same w w' b) (h':Same w' w'' b):Same w w'' b:=Eq.trans h' h
theorem rs_A {w:World}:∀ {p:List PE} {t:Ty} {c:Cells} {u:Ty} {c':Cells} {z:Nat×Nat},rs w t c none p=some (u,c',some z)→∀ad,rs w t c ad p=some (u,c',some z):=by
 intro p t
 induction t generalizing p with
 |sl e t ih=>intro c u c' z h ad; cases p with
  |nil=>simp[rs]at h
  |cons q p=>cases q with
   |idx i=>simp only[rs]at h ⊢; exact h
   |_=>simp[rs]at h
 |ptr e t ih=>intro c u c' z h ad; cases p with
  |nil=>simp[rs]at h
  |cons q p=>cases q with
   |der=>simp only[rs]at h ⊢; exact h
   |_=>simp[rs]at h
 |arr n t ih=>intro c u c' z h ad; cases p with
  |nil=>simp[rs]at h
  |cons q p=>cases q with
   |idx i=>simp only[rs,Option.map_none]at h ⊢; exact ih h _
   |_=>simp[rs]at h
 |pair a b iha ihb=>intro c u c' z h ad; cases p with
  |nil=>simp[rs]at h
  |cons q p=>cases q with
   |fld n=>cases n with
    |zero=>simp only[rs]at h ⊢; exact iha h _
    |succ n=>simp only[rs,Option.map_none]at h ⊢; exact ihb h _
   |_=>simp[rs]at h
 |_=>intro c u c' z h ad; cases p with
  |nil=>simp[rs]at h
  |cons q p=>simp[rs]at h
theorem zdKa {w:World}:∀ {p:List PE} {t:Ty} {c:Cells} {z:Nat×Nat} {u:Ty} {c':Cells} {r:Option (Nat×Nat)},rs w t c (some z) p=some (u,c',r)→r.isSome=true:=by
 intro p t
 induction t generalizing p with
 |sl e t ih=>intro c z u c' r h; cases p with
  |nil=>simp only[rs,Option.some.injEq,Prod.mk.injEq]at h; obtain ⟨_,_,rfl⟩:=h; rfl
  |cons q p=>cases q with
   |idx i =>
         simp only[rs]at h; split at h
         ·exact ih h
         ·cases h
   |_=>simp[rs]at h
 |ptr e t ih=>intro c z u c' r h; cases p with
  |nil=>simp only[rs,Option.some.injEq,Prod.mk.injEq]at h; obtain ⟨_,_,rfl⟩:=h; rfl
  |cons q p=>cases q with
   |der =>
        simp only[rs]at h; split at h
        ·exact ih h
        ·cases h
   |_=>simp[rs]at h
 |arr n t ih=>intro c z u c' r h; cases p with
  |nil=>simp only[rs,Option.some.injEq,Prod.mk.injEq]at h; obtain ⟨_,_,rfl⟩:=h; rfl
  |cons q p=>cases q with
   |idx i=>simp only[rs,Option.map_some]at h; exact ih h
   |_=>simp[rs]at h
 |pair a b iha ihb=>intro c z u c' r h; cases p with
  |nil=>simp only[rs,Option.some.injEq,Prod.mk.injEq]at h; obtain ⟨_,_,rfl⟩:=h; rfl
  |cons q p=>cases q with
   |fld n=>cases n with
    |zero=>simp only[rs]at h; exact iha h
    |succ n=>simp only[rs,Option.map_some]at h; exact ihb h
   |_=>simp[rs]at h
 |_=>intro c z u c' r h; cases p with
  |nil=>simp only[rs,Option.some.injEq,Prod.mk.injEq]at h; obtain ⟨_,_,rfl⟩:=h; rfl
  |cons q p=>simp[rs]at h
theorem rs_B {w:World}:∀ {p:List PE} {t:Ty} {c:Cells} {u:Ty} {c':Cells},rs w t c none p=some (u,c',none)→∀b o,∃o',rs w t c (some (b,o)) p=some (u,c',some (b,o')):=by
 intro p t
 induction t generalizing p with
 |sl e t ih=>intro c u c' h b o; cases p with
  |nil=>simp only[rs,Option.some.injEq,Prod.mk.injEq,and_true]at h ⊢; obtain ⟨rfl,rfl⟩:=h; exact ⟨o,rfl,rfl,trivial,rfl⟩
  |cons q p=>cases q with
   |idx i =>
    simp only[rs]at h;split at h
    ·exfalso;have:=zdKa h;cases this
    ·cases h
   |_=>simp[rs]at h
 |ptr e t ih=>intro c u c' h b o; cases p with
  |nil=>simp only[rs,Option.some.injEq,Prod.mk.injEq,and_true]at h ⊢; obtain ⟨rfl,rfl⟩:=h; exact ⟨o,rfl,rfl,trivial,rfl⟩
  |cons q p=>cases q with
   |der =>
    simp only[rs]at h;split at h
    ·exfalso;have:=zdKa h;cases this
    ·cases h
   |_=>simp[rs]at h
 |arr n t ih=>intro c u c' h b o; cases p with
  |nil=>simp only[rs,Option.some.injEq,Prod.mk.injEq,and_true]at h ⊢; obtain ⟨rfl,rfl⟩:=h; exact ⟨o,rfl,rfl,trivial,rfl⟩
  |cons q p=>cases q with
   |idx i=>simp only[rs,Option.map_none,Option.map_some]at h ⊢; exact ih h _ _
   |_=>simp[rs]at h
 |pair x y iha ihb=>intro c u c' h b o; cases p with
  |nil=>simp only[rs,Option.some.injEq,Prod.mk.injEq,and_true]at h ⊢; obtain ⟨rfl,rfl⟩:=h; exact ⟨o,rfl,rfl,trivial,rfl⟩
  |cons q p=>cases q with
   |fld n=>cases n with
    |zero=>simp only[rs]at h ⊢; exact iha h _ _
    |succ n=>simp only[rs,Option.map_none,Option.map_some]at h ⊢; exact ihb h _ _
   |_=>simp[rs]at h
 |_=>intro c u c' h b o; cases p with
  |nil=>simp only[rs,Option.some.injEq,Prod.mk.injEq,and_true]at h ⊢; obtain ⟨rfl,rfl⟩:=h; exact ⟨o,rfl,rfl,trivial,rfl⟩
  |cons q p=>simp[rs]at h
theorem rs_fp {F:Blks} {w:World}:∀ {p:List PE} {t:Ty} {m:Md} {x:t.I} {c:Cells} {fp:Blks} {u:Ty} {c':Cells} {b o:Nat},
  rep F w t m x c fp→inP t x p→ownP t m p→rs w t c none p=some (u,c',some (b,o))→fp b:=by
 intro p t
 induction t generalizing p with
 |sl e t ih=>intro m x c fp u c' b o h hi ho hr; cases p with
  |nil=>simp[rs]at hr
  |cons q p=>cases q with
   |idx i =>
    cases m with
    |o m =>
     simp only[ownP]at ho;simp only[inP]at hi;simp only[rep]at h;obtain ⟨A,cap,h1,h2,h3,h4,r⟩:=h;cases A with
     |none=>have:=h4 rfl; omega
     |some a =>
      obtain ⟨hsp,r1,r2,fs,r3,r4,r5⟩:=r a rfl;simp only[rs,h1]at hr;obtain ⟨fold,g⟩:=zSpa (r5 _ hi.1) (fun hc=>(r4 _ _ hc).2 rfl) hi.2 ho hr;rcases g.lies with ⟨rfl,_⟩|⟨g7,_⟩
      ·exact r1
      ·exact (r4 _ _ g7).1
    |_=>simp[ownP]at ho
   |_=>simp[rs]at hr
 |ptr e t ih=>intro m x c fp u c' b o h hi ho hr; cases p with
  |nil=>simp[rs]at hr
  |cons q p=>cases q with
   |der =>
    cases m with
    |o m =>
     cases x with
     |none=>simp[inP]at hi
     |some x =>
      simp only[ownP]at ho;simp only[inP]at hi;simp only[rep]at h;obtain ⟨A,h1,a,ha,hsp,r1,r2,f,r4,r5⟩:=h;subst ha;simp only[rs,h1]at hr;obtain ⟨fold,g⟩:=zSpa r5 (fun hc=>(r4 _ hc).2 rfl) hi ho hr;rcases g.lies with ⟨rfl,_⟩|⟨g7,_⟩
      ·exact r1
      ·exact (r4 _ g7).1
    |_=>simp[ownP]at ho
   |_=>simp[rs]at hr
 |arr n t ih=>intro m x c fp u c' b o h hi ho hr; cases p with
  |nil=>simp[rs]at hr
  |cons q p=>cases q with
   |idx i =>
    simp only[ownP]at ho;obtain ⟨hmj,ho⟩:=ho;simp only[inP]at hi;simp only[rs,Option.map_none]at hr;have key:∃fs:Nat→Blks,(∀i b,fs i b→fp b)∧rep F w t m.el (List.getD (x:List t.I) i.toNat t.dflt) (fun j=>c (i.toNat * t.size+j)) (fs i.toNat):=by
     cases m with
     |j=>cases hmj
     |_=>simp only[rep]at h; obtain ⟨hn,fs,_,h2,r⟩:=h; exact ⟨fs,h2,r _ (hn ▸ hi.1)⟩
    obtain ⟨fs,h2,r⟩:=key;exact h2 _ _ (ih r hi.2 ho hr)
   |_=>simp[rs]at hr
 |pair a b iha ihb=>intro m x c fp u c' b' o h hi ho hr; cases p with
  |nil=>simp[rs]at hr
  |cons q p=>cases q with
   |fld n =>
    obtain ⟨fa,fb,h1,h2,h3,ra,rb⟩:=zaka h;cases n with
    |zero=>simp only[rs]at hr; simp only[inP]at hi; simp only[ownP]at ho; exact h1 _ (iha ra hi ho hr)
    |succ n=>simp only[rs,Option.map_none]at hr; simp only[inP]at hi; simp only[ownP]at ho; exact h2 _ (ihb rb hi ho hr)
   |_=>simp[rs]at hr
 |_=>intro m x c fp u c' b o h hi ho hr; cases p with
  |nil=>simp[rs]at hr
  |cons q p=>simp[rs]at hr
def Chg (F:Blks) (w w':World) (fp:Blks) (u:Ty):Option (Nat×Nat)→Prop
 |some (b,o)=>At F fp w w' b b o u.size
 |none=>∀b,(F b∨fp b)→Same w w' b
def zDXa (w':World) (c':Cells):Option (Nat×Nat)→Cells
 |some (b,o)=>rowW w' b o
 |none=>c'
structure Put (F:Blks) (w:World) (t:Ty) (m:Md) (x:t.I) (V:Value) (fp:Blks) (p:List PE) (u:Ty) (c':Cells) (ad:Option (Nat×Nat)) (fold:Blks):Prop where
 sub:∀b,fold b→fp b
 old:∃mo yo,getP t m x p=some ⟨u,mo,yo⟩∧rep F w u mo yo c' fold
 lies:∀b o,ad=some (b,o)→fp b∧¬fold b∧zTga w b (o+u.size) true∧c'=rowW w b o
 new:∀mu y m' x' (F':Blks) w' (fq:Blks),setP t m x p u mu y=some (m',x')→(∀b,F b→F' b)→w'.heap.size=w.heap.size→Chg F w w' fp u ad →
   rep F' w' u mu y (zDXa w' c' ad) fq→(∀b',fq b'→¬(fp b'∧¬fold b')∧b'<w.heap.size)→(∀b',F' b'→b'<w.heap.size)→rep F' w' t m' x' (cv V) (fun b'=>(fp b'∧¬fold b')∨fq b')
theorem zA0a {F:Blks} {w:World} {t:Ty} {m:Md} {x:t.I} {V:Value} {fp:Blks} {p:List PE} {u:Ty} {c':Cells} {ad:Option (Nat×Nat)}
  (h:rep F w t m x (cv V) fp) (hfp:∀b,fp b→b<w.heap.size) (hF:∀b,F b→b<w.heap.size) (hi:inP t x p) (ho:ownP t m p) (hr:rs w t (cv V) none p=some (u,c',ad)) :
  ∃fold,Put F w t m x V fp p u c' ad fold:=by
 have hrow:∀w:World,rowW (pushW w V.cells) w.heap.size 0=cv V:=by
  intro w; funext j; rw[zLYa]; rfl
 have hs:∀b,(F b∨fp b)→Same w (pushW w V.cells) b:=fun b hb=>zAba (by rcases hb with hb|hb; exact hF _ hb; exact hfp _ hb)
 have h':rep F (pushW w V.cells) t m x (rowW (pushW w V.cells) w.heap.size 0) fp:=by
  rw[hrow]; exact zxaa (fun _ hb=>hb) (fun b hb=>hs b (.inl hb)) (fun b hb=>hs b (.inr hb)) h
 have hb0:¬fp w.heap.size:=fun hc=>Nat.lt_irrefl _ (hfp _ hc)
 obtain ⟨c3,hr3,hc3⟩:=zIwa (ad:=none) h hi ho (fun b hb=>hs b (.inr hb)) (fun _ _=>rfl) hr;cases ad with
 |some z =>
  obtain ⟨b,o⟩:=z;have hbf:=rs_fp h hi ho hr;have hbs:=hfp _ hbf;have hrc:c'=rowW w b o:=zZ1a (fun q hq=>by cases hq) hr;have hr4:=rs_A hr3 (some (w.heap.size,0));rw[←hrow w]at hr4;obtain ⟨fold,g⟩:=zSpa h' hb0 hi ho hr4;have hlies:fp b∧b≠w.heap.size∧zTga (pushW w V.cells) b (o+u.size) true:=by
   rcases g.lies with ⟨hc,_⟩|g7
   ·omega
   ·exact g7
  have hfold:∀b',fold b'→b'<w.heap.size:=fun b' hb=>hfp _ (g.sub _ hb)
  refine ⟨fold,g.sub,?_,?_,?_⟩
  ·obtain ⟨mo,yo,g1,g2⟩:=g.old;refine ⟨mo,yo,g1,?_⟩;rw[hrc,←zRfa (zAba (cs:=V.cells) hbs)];exact zxaa (fun _ hb=>hb) (fun b hb=>zNja (hs b (.inl hb))) (fun b hb=>zNja (zAba (hfold _ hb))) g2
  ·rintro b' o' hbo
   simp only[Option.some.injEq,Prod.mk.injEq]at hbo;obtain ⟨rfl,rfl⟩:=hbo;exact ⟨hbf,g.nb,(zAca (zAba hbs)).1 hlies.2.2,hrc⟩
  ·intro mu y m' x' F' w' fq hset hFF hsz hat hrep hq hF';simp only[zDXa]at hrep;have hat':At F fp (pushW w V.cells) (pushW w' V.cells) w.heap.size b o u.size:=by
    refine ⟨?_,?_,?_,hat.notF⟩
    ·intro b' hb' hc;by_cases hlt:b'<w.heap.size
     ·have h1:Same w w' b':=hat.other b' hb' (by
       rcases hc with hc|hc|hc
       ·exact .inl hc
       ·exact .inr (.inl hc)
       ·omega)
      exact zMja (zNja (zAba hlt)) (zMja h1 (zAba (by omega)))
     ·have:b'=w.heap.size:=by
       rcases hc with hc|hc|hc
       ·exact absurd (hF _ hc) hlt
       ·exact absurd (hfp _ hc) hlt
       ·exact hc
      subst this;have e1:(pushW w V.cells).heap[w.heap.size]?=some (.cells V.cells 0 (0,0)):=Array.getElem?_push_size;have e2:(pushW w' V.cells).heap[w'.heap.size]?=some (.cells V.cells 0 (0,0)):=Array.getElem?_push_size;unfold Same;rw[e1,←hsz,e2]
    ·intro j hj;rw[zRfa (zAba (by omega)),zRfa (zAba hbs)];exact hat.row j hj
    ·intro n wr hh;exact (zAca (zAba (by omega))).2 (hat.keep _ _ ((zAca (zAba hbs)).1 hh))
   have hnew:=g.new mu y m' x' F' (pushW w' V.cells) fq hset hFF hat' (fun b' hb=>⟨(hq b' hb).1,fun hc=>(hq b' hb).1 ⟨hc ▸ hbf,hc ▸ g.nb⟩,by have:=(hq b' hb).2; omega⟩)
    (by
      rw[zRfa (zAba (by omega))];exact zxaa (fun _ hb=>hb) (fun b hb=>zAba (by have:=hF' _ hb; omega)) (fun b hb=>zAba (by have:=(hq _ hb).2; omega)) hrep)
   rw[←hsz,hrow w']at hnew;exact zxaa (fun _ hb=>hb) (fun b hb=>zNja (zAba (by have:=hF' _ hb; omega)))
    (fun b hb=>zNja (zAba (by rcases hb with hb|hb; have:=hfp _ hb.1; omega; have:=(hq _ hb).2; omega))) hnew
 |none =>
  obtain ⟨o,hr4⟩:=rs_B hr3 w.heap.size 0;rw[←hrow w]at hr4;obtain ⟨fold,g⟩:=zSpa h' hb0 hi ho hr4;have hrc:c3=rowW (pushW w V.cells) w.heap.size o:=zZ1a (fun q hq=>by injection hq with hq; subst hq; rfl) hr4;have hfold:∀b',fold b'→b'<w.heap.size:=fun b' hb=>hfp _ (g.sub _ hb)
  refine ⟨fold,g.sub,?_,(fun _ _ hc=>nomatch hc),?_⟩
  ·obtain ⟨mo,yo,g1,g2⟩:=g.old;refine ⟨mo,yo,g1,?_⟩;rw[←hrc]at g2;exact zEaa (fun j hj=>(hc3 j hj).symm) (zxaa (fun _ hb=>hb) (fun b hb=>zNja (hs b (.inl hb))) (fun b hb=>zNja (zAba (hfold _ hb))) g2)
  ·intro mu y m' x' F' w' fq hset hFF hsz hat hrep hq hF';simp only[zDXa]at hrep;have e1:(pushW w V.cells).heap[w.heap.size]?=some (.cells V.cells 0 (0,0)):=Array.getElem?_push_size;have e2:(pushW w' V.cells).heap[w.heap.size]?=some (.cells V.cells 0 (0,0)):=by rw[←hsz]; exact Array.getElem?_push_size
   have hsame0:Same (pushW w V.cells) (pushW w' V.cells) w.heap.size:=by unfold Same; rw[e1,e2]
   have hat':At F fp (pushW w V.cells) (pushW w' V.cells) w.heap.size w.heap.size o u.size:=by
    refine ⟨?_,fun j _=>by rw[zRfa hsame0],fun n wr hh=>(zAca hsame0).2 hh,fun hc=>Nat.lt_irrefl _ (hF _ hc)⟩;intro b' hb' hc;have hlt:b'<w.heap.size∧(F b'∨fp b'):=by
     rcases hc with hc|hc|hc
     ·exact ⟨hF _ hc,.inl hc⟩
     ·exact ⟨hfp _ hc,.inr hc⟩
     ·exact absurd hc hb'
    exact zMja (zNja (zAba hlt.1)) (zMja (hat b' hlt.2) (zAba (by omega)))
   have hlies:w.heap.size=w.heap.size:=rfl;have hnew:=g.new mu y m' x' F' (pushW w' V.cells) fq hset hFF hat' (fun b' hb=>⟨(hq b' hb).1,by have:=(hq b' hb).2; omega,by have:=(hq b' hb).2; omega⟩)
    (by
      rw[zRfa hsame0,←hrc];exact zEaa hc3 (zxaa (fun _ hb=>hb) (fun b hb=>zAba (by have:=hF' _ hb; omega)) (fun b hb=>zAba (by have:=(hq _ hb).2; omega)) hrep))
   rw[zRfa hsame0,hrow w]at hnew;exact zxaa (fun _ hb=>hb) (fun b hb=>zNja (zAba (by have:=hF' _ hb; omega)))
    (fun b hb=>zNja (zAba (by rcases hb with hb|hb; have:=hfp _ hb.1; omega; have:=(hq _ hb).2; omega))) hnew
end Go.Trm
namespace Go.Trm
theorem zwMa {w:World}:∀ {q:List PE} {t:Ty} {x:t.I} {c:Cells} {ad:Option (Nat×Nat)} {res:Ty×Cells×Option (Nat×Nat)},flds q=true→rs w t c ad q=some res→inP t x q:=by
 intro q t
 induction t generalizing q with
 |pair a b iha ihb=>intro x c ad res hq h; cases q with
  |nil=>simp[inP]
  |cons e q=>cases e with
   |fld n=>simp only[flds]at hq; cases n with
    |zero=>simp only[rs]at h; simp only[inP]; exact iha hq h
    |succ n=>simp only[rs]at h; simp only[inP]; exact ihb (q := .fld n::q) (by simpa only[flds] using hq) h
   |_=>simp[flds]at hq
 |_=>intro x c ad res hq h; cases q with
  |nil=>simp[inP]
  |cons e q=>cases e with
   |fld n=>simp[rs]at h
   |_=>simp[flds]at hq
theorem zfKa {w:World}:∀ {q:List PE} {t:Ty} {m:Md} {c:Cells} {ad:Option (Nat×Nat)} {res:Ty×Cells×Option (Nat×Nat)},flds q=true→rs w t c ad q=some res→ownP t m q:=by
 intro q t
 induction t generalizing q with
 |pair a b iha ihb=>intro m c ad res hq h; cases q with
  |nil=>simp[ownP]
  |cons e q=>cases e with
   |fld n=>simp only[flds]at hq; cases n with
    |zero=>simp only[rs]at h; simp only[ownP]; exact iha hq h
    |succ n=>simp only[rs]at h; simp only[ownP]; exact ihb (q := .fld n::q) (by simpa only[flds] using hq) h
   |_=>simp[flds]at hq
 |_=>intro m c ad res hq h; cases q with
  |nil=>simp[ownP]
  |cons e q=>cases e with
   |fld n=>simp[rs]at h
   |_=>simp[flds]at hq
theorem za2a {w w':World}:∀ {q:List PE} {t:Ty} {c c2:Cells} {ad ad1:Option (Nat×Nat)} {u:Ty} {c1:Cells},flds q=true→rs w t c ad q=some (u,c1,ad1)→∃c3,rs w' t c2 ad q=some (u,c3,ad1):=by
 intro q t
 induction t generalizing q with
 |pair a b iha ihb=>intro c c2 ad ad1 u c1 hq h; cases q with
  |nil=>simp only[rs,Option.some.injEq,Prod.mk.injEq]at h ⊢; obtain ⟨rfl,_,rfl⟩:=h; exact ⟨c2,rfl,rfl,rfl⟩
  |cons e q=>cases e with
   |fld n=>simp only[flds]at hq; cases n with
    |zero=>simp only[rs]at h ⊢; exact iha hq h
    |succ n=>simp only[rs]at h ⊢; exact ihb (q := .fld n::q) (by simpa only[flds] using hq) h
   |_=>simp[flds]at hq
 |_=>intro c c2 ad ad1 u c1 hq h; cases q with
  |nil=>simp only[rs,Option.some.injEq,Prod.mk.injEq]at h ⊢; obtain ⟨rfl,_,rfl⟩:=h; exact ⟨c2,rfl,rfl,rfl⟩
  |cons e q=>cases e with
   |fld n=>simp[rs]at h
   |_=>simp[flds]at hq
theorem keepS {F:Blks} {w w':World} {t:Ty} {m:Md} {x:t.I} {V:Value} {fp:Blks} {p q:List PE} {uu:Ty} {cc:Cells} {ad:Option (Nat×Nat)} {mu:Md} {y:uu.I} {m':Md} {x':t.I} {u:Ty} {c1:Cells} {z:Nat×Nat}
  (h:rep F w t m x (cv V) fp) (hi:inP t x p) (ho:ownP t m p) (hr:rs w t (cv V) none p=some (uu,cc,ad)) (hset:setP t m x p uu mu y=some (m',x')) (hat:Chg F w w' fp uu ad)
  (hst:stays p q=true) (hrt:rootB t q=true) (hiq:inP t x q) (hoq:ownP t m q) (hrq:rs w t (cv V) none q=some (u,c1,some z)) :
  inP t x' q∧ownP t m' q∧∃c2,rs w' t (cv V) none q=some (u,c2,some z):=by
 cases t with
 |ptr T t =>
  cases q with
  |nil=>simp[rootB]at hrt
  |cons e1 q=>cases e1 with
   |der =>
    cases m with
    |o m =>
     cases x with
     |none=>simp[inP]at hiq
     |some x =>
      simp only[ownP]at hoq;simp only[inP]at hiq;simp only[rep]at h;obtain ⟨A,h1,a,ha,hsp,r1,r2,f,r4,r5⟩:=h;subst ha;cases p with
      |nil=>simp[stays]at hst
      |cons e2 p=>cases e2 with
       |der =>
        simp only[ownP]at ho;simp only[inP]at hi;simp only[rs,h1]at hr hrq ⊢;simp only[setP]at hset;cases hs2:setP t m x p uu mu y with
        |none=>rw[hs2]at hset; cases hset
        |some zz =>
         obtain ⟨m2,x2⟩:=zz;rw[hs2]at hset;simp only[Option.some.injEq]at hset;obtain ⟨rfl,rfl⟩:=hset;simp only[inP,ownP];have had:=zdKa hr;cases ad with
         |none=>cases had
         |some bo =>
          obtain ⟨b,o⟩:=bo;simp only[stays,pre,Bool.true_and,shal,List.isEmpty_cons,Bool.not_false,Bool.or_eq_true]at hst;rcases hst with hst|hst
          ·exact keepM r5 (fun hc=>(r4 _ hc).2 rfl) hi ho hr hst hiq hoq hrq (At.sub hat (fun b hb=>(r4 _ hb).1) (.inl r1)) hs2
          ·exact ⟨zwMa hst hrq,zfKa hst hrq,za2a hst hrq⟩
       |_=>simp[rs]at hr
    |_=>simp[ownP]at hoq
   |_=>simp[rootB]at hrt
 |sl e t =>
  cases q with
  |nil=>simp[rootB]at hrt
  |cons e1 q=>cases e1 with
   |idx k =>
    cases m with
    |o m =>
     simp only[ownP]at hoq;simp only[inP]at hiq;simp only[stays,shal,Bool.or_false]at hst;cases p with
     |nil=>simp at hst
     |cons e2 p=>cases e2 with
      |idx i =>
       simp only[pre,List.isEmpty_cons,Bool.not_false,Bool.true_and]at hst;simp only[ownP]at ho;simp only[inP]at hi;simp only[rep]at h;obtain ⟨A,cap,h1,h2,h3,h4,r⟩:=h;cases A with
       |none=>have:=h4 rfl; omega
       |some a =>
        obtain ⟨hsp,r1,r2,fs,r3,r4,r5⟩:=r a rfl;simp only[rs,h1]at hr hrq ⊢;have had:=zdKa hr;cases ad with
        |none=>cases had
        |some bo =>
         obtain ⟨b,o⟩:=bo;have hat:At F fp w w' b b o uu.size:=hat;simp only[setP]at hset;cases hs2:setP t m (List.getD (x:List t.I) i.toNat t.dflt) p uu mu y with
         |none=>rw[hs2]at hset; cases hset
         |some zz =>
          obtain ⟨m2,x2⟩:=zz;rw[hs2]at hset;simp only at hset;split at hset
          ·rename_i he;obtain rfl:=Md.eqb_eq he;simp only[Option.some.injEq]at hset;obtain ⟨rfl,rfl⟩:=hset;have hne:∀i b,fs i b→b≠a.block:=fun i b hb=>(r4 i b hb).2
           obtain ⟨fold,g⟩:=zSpa (r5 _ hi.1) (fun hc=>hne _ _ hc rfl) hi.2 ho hr;simp only[inP,ownP];by_cases e1:k.toNat=i.toNat
           ·rw[e1]at hiq hrq ⊢;obtain ⟨k1,k2,k3⟩:=keepM (r5 _ hi.1) (fun hc=>hne _ _ hc rfl) hi.2 ho hr hst hiq.2 hoq hrq (At.sub hat (fun b hb=>(r4 _ _ hb).1) (.inl r1)) hs2;refine ⟨⟨Nat.lt_of_lt_of_eq hi.1 (List.length_set (as:=(x:List t.I))).symm,?_⟩,k2,k3⟩;rw[zjca (l:=(x:List t.I)) hi.1]; exact k1
           ·have hbk:∀b',fs k.toNat b'→b'≠b:=by
             intro b' hb hc;subst hc;rcases g.lies with ⟨hc,_⟩|⟨hc,_⟩
             ·exact (r4 _ _ hb).2 hc
             ·exact r3.disj _ _ e1 _ hb hc
            have hrow:∀j,j<t.size→rowW w a.block (a.off+k.toNat * t.size) j=rowW w' a.block (a.off+k.toNat * t.size) j:=by
             intro j hj;by_cases hc:a.block=b
             ·rw[zWba w,zWba w',hc];refine (hat.row _ ?_).symm;rcases g.lies with ⟨_,g7,g8⟩|⟨_,g8,_⟩
              ·rcases Nat.lt_or_gt_of_ne e1 with hlt|hlt
               ·left
                have:k.toNat * t.size+t.size≤i.toNat * t.size:=by rw[←Nat.succ_mul]; exact Nat.mul_le_mul_right _ hlt
                omega
               ·right
                have:i.toNat * t.size+t.size≤k.toNat * t.size:=by rw[←Nat.succ_mul]; exact Nat.mul_le_mul_right _ hlt
                omega
              ·exact absurd hc.symm g8
             ·simp only[rowW]; rw[hat.other _ hc (.inr (.inl r1))]
            obtain ⟨c3,k3,_⟩:=zIwa (r5 _ hiq.1) hiq.2 hoq (fun b' hb=>hat.other _ (hbk b' hb) (.inr (.inl (r4 _ _ hb).1))) hrow hrq;refine ⟨⟨Nat.lt_of_lt_of_eq hiq.1 (List.length_set (as:=(x:List t.I))).symm,?_⟩,hoq,c3,k3⟩;rw[zxha (l:=(x:List t.I)) e1]; exact hiq.2
          ·cases hset
      |_=>simp[rs]at hr
    |_=>simp[ownP]at hoq
   |_=>simp[rootB]at hrt
 |_=>cases q<;>simp[rootB]at hrt
end Go.Trm
