import Derived.Test.YtjjoacepbndhhaaGreatTrmKeepS
import Derived.Laws.Cells
import Derived.Laws.IdiomCopy
import Derived.Laws.StructEq
set_option linter.unusedVariables false
set_option linter.unusedSimpArgs false
namespace Go.Trm
def AlOk (w:World) (st:St) (V:Nat→Value) (r:Nat) (p:List PE) (v:Value):Prop :=
 ∀t m x,st r = .v t m x→rootB t p=true∧ownP t m p∧inP t x p∧∃u c' b o,rs w t (cv (V r)) none p=some (u,c',some (b,o))∧v = .pointer (some ⟨b,o,none⟩)
def PlOk (Φ:Ty→Cells→Value→Prop) (w:World) (st:St) (V:Nat→Value) (r:Nat) (p:List PE) (v:Value):Prop :=
 ∀t m x,st r = .v t m x→ownP t m p∧inP t x p∧∃u c' ad,rs w t (cv (V r)) none p=some (u,c',ad)∧Φ u c' v
def zqTa (A:Option Addr) (cap lo hi sz:Nat):Value := .slice (if cap=lo then A else A.map (·.add (lo*sz))) (hi-lo) (cap-lo)
def SubP (lo hi:Int) (u:Ty) (c:Cells) (v:Value):Prop:=∃e t A n cap,u = .sl e t∧c 0 = .slice A n cap∧0≤lo∧lo≤hi∧hi≤(n:Int)∧v=zqTa A cap lo.toNat hi.toNat t.size
def LzOk (w:World) (st:St) (V:Nat→Value) (r:Nat) (p:List PE) (v:Value):Prop :=
 ∀t m x,st r = .v t m x→ownP t m p∧inP t x p∧∃u c' ad,rs w t (cv (V r)) none p=some (u,c',ad)∧v=valOf u c'
def SubOk (lo hi:Int) (w:World) (st:St) (V:Nat→Value) (r:Nat) (p:List PE) (v:Value):Prop:=PlOk (SubP lo hi) w st V r p v
def BxOk (F:Blks) (w:World) (V:Nat→Value) (r:Nat) (v:Value):Prop :=
 gh0≤r∧∃b o,v = .pointer (some ⟨b,o,none⟩)∧F b∧zTga w b (o+1) true∧rowW w b o 0=V r
def CapOk (F:Blks) (w:World) (st:St) (V:Nat→Value) (r:Nat) (p:List PE) (v:Value):Prop :=
 match p with
 |[]=>BxOk F w V r v
 |e::p=>AlOk w st V r (e::p) v
def CapsOk (F:Blks) (w:World) (st:St) (V:Nat→Value) (caps:List (Nat×List PE)) (vs:List Value):Prop :=
 vs.length=caps.length∧∀(k:Nat) q,caps[k]?=some q→∃u,vs[k]?=some u∧CapOk F w st V q.1 q.2 u
def FnOk (F:Blks) (w:World) (st:St) (V:Nat→Value) (f:FuncId) (fst caps:List (Nat×List PE)) (v:Value):Prop :=
 ∃us vs:List Value,v = .func (.func f) us.toArray vs.toArray∧CapsOk F w st V fst us∧CapsOk F w st V caps vs
def IfcOk (F:Blks) (w:World) (T:TypeId) (t:Ty) (x:t.I) (v:Value):Prop :=
 ∃u,v = .iface T u∧t.flat=true∧isV t u∧rep F w t .s x (cv u) (fun _=>False)
def TupOk (F:Blks) (w:World) (l:List SV) (v:Value) (fp:Blks):Prop :=
 ∃vs:List Value,v = .tuple vs.toArray∧vs.length=l.length∧∃fs:Nat→Blks,Disj fs∧(∀k b,fs k b→fp b) ∧
  ∀(k:Nat) t m x,l[k]?=some (.v t m x)→∃u,vs[k]?=some u∧(m ≠ .j→isV t u)∧rep F w t m x (cv u) (fs k)
def svR (F:Blks) (w:World) (st:St) (V:Nat→Value) (fp:Blks) (v:Value):SV→Prop
 | .v t m x=>(m ≠ .j→isV t v)∧rep F w t m x (cv v) fp
 | .al r p=>AlOk w st V r p v
 | .lz r p=>LzOk w st V r p v
 | .sub r p lo hi=>SubOk lo hi w st V r p v
 | .fn f fst caps=>FnOk F w st V f fst caps v
 | .bx r _=>BxOk F w V r v
 | .ifc T t x=>IfcOk F w T t x v
 | .tup l=>TupOk F w l v fp
 | .nil=>v = .slice none 0 0
 | .un=>True
structure Entry where
 w0:World
 O:Blks
 F0:Blks
def glReq (nm:String):List (Nat×(Value→Prop)) :=
 if nm = "internal/bytealg.MaxLen" then [(0,fun v=>∃m,v = .int .i64 m)]
 else if nm = "strconv.ErrSyntax"∨nm = "strconv.ErrRange" then [(0,fun v=>v = .nilIface∨∃te pe,v = .iface te pe)]
 else []
def GlOk (P:Program) (F:Blks) (w:World):Prop:=∀nm g q,P.globalNamed nm=some g→q∈glReq nm→F g∧∃v,w.cell? ⟨g,q.1,none⟩=some v∧q.2 v
theorem zvZa {w w':World} {b k:Nat} (h:w'.heap[b]?=w.heap[b]?):w'.cell? ⟨b,k,none⟩=w.cell? ⟨b,k,none⟩:=by
 unfold World.cell?;simp only[h]
theorem GlOk.mono {P:Program} {F F':Blks} {w w':World} (h:GlOk P F w) (hF:∀b,F b→F' b) (hs:∀b,F b→Same w w' b):GlOk P F' w':=by
 intro nm g q h1 h2;obtain ⟨h3,v,h4,h5⟩:=h nm g q h1 h2;exact ⟨hF g h3,v,(zvZa (hs g h3)).trans h4,h5⟩
def GlE (P:Program) (e:Entry):Prop:=GlOk P e.F0 e.w0∧∀b,e.F0 b→¬e.O b∧b<e.w0.heap.size
structure SR (e:Entry) (F:Blks) (w:World) (st:St) (V:Nat→Value) (fp:Nat→Blks) (fl:Blks):Prop where
 sv:∀i,svR F w st V (fp i) (V i) (st i)
 disj:Disj fp
 notF:∀i b,fp i b→¬F b
 inH:∀i b,fp i b→b<w.heap.size
 inF:∀b,F b→b<w.heap.size
 flD:∀i b,fp i b→¬fl b
 flF:∀b,fl b→¬F b
 flH:∀b,fl b→b<w.heap.size
 g1:Grew e.w0 w
 g2:∀b,b<e.w0.heap.size→¬e.O b→Same e.w0 w b
 g3:∀i b,fp i b→e.O b∨e.w0.heap.size≤b
 g4:∀b,fl b→e.O b∨e.w0.heap.size≤b
 g5:∀b,e.F0 b→F b
 g6:∀b,F b→e.F0 b∨e.O b∨e.w0.heap.size≤b
theorem SR.gl {P:Program} {e:Entry} {F:Blks} {w:World} {st:St} {V:Nat→Value} {fp:Nat→Blks} {fl:Blks} (hS:SR e F w st V fp fl) (hg:GlE P e):GlOk P F w :=
 hg.1.mono hS.g5 fun b hb=>hS.g2 b (hg.2 b hb).2 (hg.2 b hb).1
theorem zRza {t:Ty} {c c':Cells} (h:∀j,j<t.size→c j=c' j):valOf t c=valOf t c':=by
 unfold valOf;cases ha:t.agg with
 |false=>simp only[Bool.false_eq_true,if_false]; exact h 0 (by rw[zfGa ha]; omega)
 |true =>
  simp only[if_true]
  congr 2
  exact List.map_congr_left fun j hj=>h j (List.mem_range.1 hj)
def ChgW (w w':World) (u:Ty):Option (Nat×Nat)→Prop
 |some (b,o)=>(∀b',b'≠b→Same w w' b')∧(∀j,(j<o∨o+u.size≤j)→rowW w' b 0 j=rowW w b 0 j)∧(∀n wr,zTga w b n wr→zTga w' b n wr)
 |none=>∀b,Same w w' b
theorem zYYa {st:St} {r:Nat} {p:List PE} {i:Nat} {t:Ty} {m:Md} {x:t.I}:st.kill r p i = .v t m x↔st i = .v t m x:=by
 unfold St.kill;cases h:st i with
 |v t' m' x'=>simp
 |al r' q=>simp only; cases (Nat.beq r r'&&!stays p q)<;>simp
 |lz r' q=>simp only; cases (Nat.beq r r'&&!(q.isEmpty&&!p.isEmpty))<;>simp
 |sub r' q l h=>simp only; cases (Nat.beq r r')<;>simp
 |fn f s c=>simp only; cases ((s++c).any fun c=>Nat.beq r c.1&&!stays p c.2)<;>simp
 |bx r' q=>simp
 |ifc T t' x'=>simp
 |tup l=>simp
 |nil=>simp
 |un=>simp
theorem zRVa {st:St} {r:Nat} {p:List PE} {i:Nat} {t:Ty} {m:Md} {x:t.I} (h:st i = .v t m x):st.kill r p i = .v t m x:=zYYa.2 h
theorem zTVa {st:St} {r:Nat} {p:List PE} {i r':Nat} {q:List PE} (h:st i = .al r' q):st.kill r p i=cond (Nat.beq r r'&&!(stays p q)) .un (.al r' q):=by simp only[St.kill,h]
theorem zOXa {st:St} {r:Nat} {p:List PE} {i r':Nat} {q:List PE} (h:st i = .lz r' q):st.kill r p i=cond (Nat.beq r r'&&!(q.isEmpty&&!p.isEmpty)) .un (.lz r' q):=by simp only[St.kill,h]
theorem zqUa {st:St} {r:Nat} {p:List PE} {i r':Nat} {q:List PE} {lo hi:Int} (h:st i = .sub r' q lo hi):st.kill r p i=cond (Nat.beq r r') .un (.sub r' q lo hi):=by simp only[St.kill,h]
theorem zPXa {st:St} {r:Nat} {p:List PE} {i:Nat} {f:FuncId} {s c:List (Nat×List PE)} (h:st i = .fn f s c):st.kill r p i=cond ((s++c).any fun c=>Nat.beq r c.1&&!(stays p c.2)) .un (.fn f s c):=by simp only[St.kill,h]
theorem zSVa {st:St} {r:Nat} {p:List PE} {i r':Nat} {q:List PE} (h:st i = .bx r' q):st.kill r p i = .bx r' q:=by simp only[St.kill,h]
theorem zaQa {st:St} {r:Nat} {p:List PE} {i:Nat} {T:TypeId} {t:Ty} {x:t.I} (h:st i = .ifc T t x):st.kill r p i = .ifc T t x:=by simp only[St.kill,h]
theorem BxOk.imp {F F':Blks} {w w':World} {V V':Nat→Value} {r:Nat} {v:Value} (h:BxOk F w V r v) (hF:∀b,F b→F' b) (hw:∀b,F b→Same w w' b) (hV:gh0≤r→V' r=V r):BxOk F' w' V' r v:=by
 obtain ⟨h0,b,o,e1,e2,e3,e4⟩:=h;exact ⟨h0,b,o,e1,hF b e2,(zAca (hw b e2)).2 e3,by rw[zRfa (hw b e2),hV h0]; exact e4⟩
theorem CapsOk.imp {F F':Blks} {w w':World} {st st':St} {V V':Nat→Value} {caps:List (Nat×List PE)} {vs:List Value} (h:CapsOk F w st V caps vs) (hb:∀r u,BxOk F w V r u→BxOk F' w' V' r u) (hi:∀q u,q∈caps→AlOk w st V q.1 q.2 u→AlOk w' st' V' q.1 q.2 u):CapsOk F' w' st' V' caps vs:=by
 refine ⟨h.1,fun k q hq=>?_⟩;obtain ⟨u,h1,h2⟩:=h.2 k q hq;refine ⟨u,h1,?_⟩;have h3:=hi q u (List.mem_of_getElem? hq);obtain ⟨r,p⟩:=q;cases p with
 |nil=>exact hb r u h2
 |cons e p=>exact h3 h2
theorem zyYa {α:Type} {l m:List α} {f:α→Bool} (h:(l++m).any f=false):(∀q∈l,f q=false)∧∀q∈m,f q=false:=by
 rw[List.any_append,Bool.or_eq_false_iff,List.any_eq_false,List.any_eq_false]at h;exact ⟨fun q hq=>Bool.eq_false_iff.2 (h.1 q hq),fun q hq=>Bool.eq_false_iff.2 (h.2 q hq)⟩
theorem SubP.congr {lo hi:Int} {u:Ty} {c c':Cells} {v:Value} (h:SubP lo hi u c v) (hc:∀j,j<u.size→c j=c' j):SubP lo hi u c' v:=by
 obtain ⟨e,t,A,n,cap,rfl,h1,h2⟩:=h;exact ⟨e,t,A,n,cap,rfl,by rw[←hc 0 (by simp[Ty.size])]; exact h1,h2⟩
theorem zYPa {st:St} {r:Nat} {p:List PE} {i:Nat} {l:List SV} (h:st i = .tup l):st.kill r p i = .tup l:=by simp only[St.kill,h]
theorem zZPa {st:St} {r:Nat} {p:List PE} {i:Nat} (h:st i = .nil):st.kill r p i = .nil:=by simp only[St.kill,h]
theorem zGHa {st:St} {r:Nat} {p:List PE} {i:Nat} (h:st i = .un):st.kill r p i = .un:=by simp only[St.kill,h]
theorem zWca {st:St} {r:Nat} {v:SV}:st.put r v r=v:=by simp[St.put,Nat.beq_refl]
theorem zsba {st:St} {r i:Nat} {v:SV} (h:i≠r):st.put r v i=st i:=by
 have:Nat.beq i r=false:=by
  cases hb:Nat.beq i r with
  |false=>rfl
  |true=>exact absurd (Nat.eq_of_beq_eq_true hb) h
 simp[St.put,this]
section
variable {e:Entry} {F F':Blks} {w w':World} {st:St} {V:Nat→Value} {fp:Nat→Blks} {fl fl' fq fold:Blks} {r:Nat} {t:Ty} {m:Md} {x:t.I} {p:List PE} {u:Ty} {c':Cells} {ad:Option (Nat×Nat)}
 {mu:Md} {y:u.I} {m':Md} {x':t.I}
theorem SR.place (h:SR e F w st V fp fl) (hr:st r = .v t m x) (hm:m ≠ .j) (P:Put F w t m x (V r) (fp r) p u c' ad fold) (hi:inP t x p) (ho:ownP t m p) (hrs:rs w t (cv (V r)) none p=some (u,c',ad))
  (hset:setP t m x p u mu y=some (m',x')) (hF:∀b,F b→F' b) (hsz:w'.heap.size=w.heap.size) (hst:Still w w') (hat:ChgW w w' u ad) (hrep:rep F' w' u mu y (zDXa w' c' ad) fq)
  (hq:∀b,fq b→fold b∨fl b) (hfl:∀b,fl' b→(fl b∨fold b)∧¬fq b) (hFF:∀b,F' b→F b∨((fold b∨fl b)∧¬fq b∧¬fl' b)) :
  SR e F' w' ((st.kill r p).put r (.v t m' x')) V (fun i b=>(i≠r∧fp i b)∨(i=r∧((fp r b∧¬fold b)∨fq b))) fl':=by
 have hfqs:∀b,fq b→b<w.heap.size:=fun b hb=>by
  rcases hq b hb with hb|hb
  ·exact h.inH r b (P.sub _ hb)
  ·exact h.flH b hb
 have hF's:∀b,F' b→b<w.heap.size:=fun b hb=>by
  rcases hFF b hb with hb|⟨hb|hb,_⟩
  ·exact h.inF b hb
  ·exact h.inH r b (P.sub _ hb)
  ·exact h.flH b hb
 have hqd:∀b,fq b→¬(fp r b∧¬fold b):=fun b hb hc=>by
  rcases hq b hb with hb|hb
  ·exact hc.2 hb
  ·exact h.flD r b hc.1 hb
 have hsame:∀b,(F b∨∃i,i≠r∧fp i b)→Same w w' b:=by
  intro b hb;cases ad with
  |none=>exact hat b
  |some bo =>
   obtain ⟨b1,o⟩:=bo;refine hat.1 b ?_
   rintro rfl
   have h1:=(P.lies _ _ rfl).1;rcases hb with hb|⟨i,hi,hb⟩
   ·exact h.notF _ _ h1 hb
   ·exact h.disj.disj _ _ hi _ hb h1
 have hchg:Chg F w w' (fp r) u ad:=by
  cases ad with
  |none=>exact fun b _=>hat b
  |some bo =>
   obtain ⟨b1,o⟩:=bo;exact ⟨fun b' hb' _=>hat.1 b' hb',hat.2.1,hat.2.2,fun hc=>h.notF _ _ (P.lies _ _ rfl).1 hc⟩
 have hnew:rep F' w' t m' x' (cv (V r)) (fun b'=>(fp r b'∧¬fold b')∨fq b') :=
  P.new mu y m' x' F' w' fq hset hF hsz hchg hrep (fun b hb=>⟨hqd b hb,hfqs b hb⟩) hF's
 have hrsv:=h.sv r;rw[hr]at hrsv;have st'r:∀r',r'≠r→∀ {t1 m1 x1},((st.kill r p).put r (.v t m' x')) r' = .v t1 m1 x1→st r' = .v t1 m1 x1:=by
  intro r' hr' t1 m1 x1 h1;rw[zsba hr']at h1;exact zYYa.1 h1
 have hal:∀r' q v,(r'=r→stays p q=true)→AlOk w st V r' q v→AlOk w' ((st.kill r p).put r (.v t m' x')) V r' q v:=by
  intro r' q v hs ha t1 m1 x1 h1;by_cases hrr:r'=r
  ·subst hrr;rw[zWca]at h1;cases h1;obtain ⟨a1,a2,a3,u1,c1,b1,o1,a4,a5⟩:=ha t m x hr;obtain ⟨k1,k2,c2,k3⟩:=keepS hrsv.2 hi ho hrs hset hchg (hs rfl) a1 a3 a2 a4;exact ⟨a1,k2,k1,u1,c2,b1,o1,k3,a5⟩
  ·have h2:=st'r r' hrr h1;obtain ⟨a1,a2,a3,u1,c1,b1,o1,a4,a5⟩:=ha t1 m1 x1 h2;have h3:=h.sv r';rw[h2]at h3;obtain ⟨c3,k3,_⟩:=zIwa h3.2 a3 a2 (fun b hb=>hsame b (.inr ⟨r',hrr,hb⟩)) (fun _ _=>rfl) a4;exact ⟨a1,a2,a3,u1,c3,b1,o1,k3,a5⟩
 refine ⟨?_,⟨?_⟩,?_,?_,?_,?_,?_,?_,?_,?_,?_,?_,?_,?_⟩
 ·intro i;by_cases hir:i=r
  ·subst hir;rw[zWca];exact ⟨fun _=>hrsv.1 hm,zEoa (fun b hb => .inr ⟨rfl,hb⟩) hnew⟩
  ·rw[zsba hir];have hfi:∀b,fp i b→(i≠r∧fp i b)∨(i=r∧((fp r b∧¬fold b)∨fq b)):=fun b hb => .inl ⟨hir,hb⟩
   have h1:=h.sv i;unfold St.kill;cases hsi:st i with
   |v t1 m1 x1 =>
    rw[hsi]at h1;exact ⟨h1.1,zEoa hfi (zxaa hF (fun b hb=>hsame b (.inl hb)) (fun b hb=>hsame b (.inr ⟨i,hir,hb⟩)) h1.2)⟩
   |al r' q =>
    rw[hsi]at h1;simp only;cases hk:(Nat.beq r r'&&!stays p q) with
    |true=>trivial
    |false =>
     refine hal r' q _ (fun hc=>?_) h1;subst hc;simpa[Nat.beq_refl] using hk
   |lz r' q =>
    rw[hsi]at h1;simp only;cases hk:(Nat.beq r r'&&!(q.isEmpty&&!p.isEmpty)) with
    |true=>trivial
    |false =>
     intro t1 m1 x1 h2;by_cases hrr:r'=r
     ·subst hrr;simp only[Nat.beq_refl,Bool.true_and,Bool.not_eq_false',Bool.and_eq_true]at hk;obtain ⟨hk,_⟩:=hk;have:q=[]:=by simpa using hk
      subst this;rw[zWca]at h2;cases h2;obtain ⟨_,_,u1,c1,ad1,a4,a5⟩:=h1 t m x hr;refine ⟨by simp[ownP],by simp[inP],u1,c1,ad1,?_,a5⟩;simp only[rs]at a4 ⊢;exact a4
     ·have h2:=st'r r' hrr h2;obtain ⟨a2,a3,u1,c1,ad1,a4,a5⟩:=h1 t1 m1 x1 h2;have h3:=h.sv r';rw[h2]at h3;obtain ⟨c3,k3,k4⟩:=zIwa h3.2 a3 a2 (fun b hb=>hsame b (.inr ⟨r',hrr,hb⟩)) (fun _ _=>rfl) a4;exact ⟨a2,a3,u1,c3,ad1,k3,by rw[a5]; exact zRza k4⟩
   |sub r' q lo hi =>
    rw[hsi]at h1;simp only;cases hk:Nat.beq r r' with
    |true=>trivial
    |false =>
     intro t1 m1 x1 h2;have hrr:r'≠r:=fun hc=>by rw[hc,Nat.beq_refl]at hk; cases hk
     have h2:=st'r r' hrr h2;obtain ⟨a2,a3,u1,c1,ad1,a4,a5⟩:=h1 t1 m1 x1 h2;have h3:=h.sv r';rw[h2]at h3;obtain ⟨c3,k3,k4⟩:=zIwa h3.2 a3 a2 (fun b hb=>hsame b (.inr ⟨r',hrr,hb⟩)) (fun _ _=>rfl) a4;exact ⟨a2,a3,u1,c3,ad1,k3,a5.congr k4⟩
   |fn f s caps =>
    rw[hsi]at h1;simp only;cases hk:((s++caps).any fun c=>Nat.beq r c.1&&!stays p c.2) with
    |true=>trivial
    |false =>
     obtain ⟨k1,k2⟩:=zyYa hk;obtain ⟨us,vs,e1,e2,e3⟩:=h1;have hbx:∀r u,BxOk F w V r u→BxOk F' w' V r u:=fun r u hb=>hb.imp hF (fun b hb=>hsame b (.inl hb)) (fun _=>rfl)
     refine ⟨us,vs,e1,e2.imp hbx fun q u hq=>hal _ _ _ fun hc=>?_,e3.imp hbx fun q u hq=>hal _ _ _ fun hc=>?_⟩
     ·have h9:=k1 q hq;rw[hc,Nat.beq_refl]at h9;simpa using h9
     ·have h9:=k2 q hq;rw[hc,Nat.beq_refl]at h9;simpa using h9
   |bx r' q =>
    rw[hsi]at h1;exact BxOk.imp h1 hF (fun b hb=>hsame b (.inl hb)) (fun _=>rfl)
   |ifc T t1 x1 =>
    rw[hsi]at h1;obtain ⟨u,e1,e2,e3,e4⟩:=h1;exact ⟨u,e1,e2,e3,zxaa hF (fun b hb=>hsame b (.inl hb)) (fun _ hb=>hb.elim) e4⟩
   |tup l =>
    rw[hsi]at h1;obtain ⟨vs,e1,e2,fs,e3,e4,e5⟩:=h1;refine ⟨vs,e1,e2,fs,e3,fun k b hb=>hfi b (e4 k b hb),fun k t1 m1 x1 hk=>?_⟩;obtain ⟨u1,k1,k2,k3⟩:=e5 k t1 m1 x1 hk;exact ⟨u1,k1,k2,zxaa hF (fun b hb=>hsame b (.inl hb)) (fun b hb=>hsame b (.inr ⟨i,hir,e4 k b hb⟩)) k3⟩
   |nil=>rw[hsi]at h1; exact h1
   |un=>trivial
 ·intro i j hij b hb1 hb2;rcases hb1 with ⟨h1,hb1⟩|⟨rfl,hb1⟩<;>rcases hb2 with ⟨h2,hb2⟩|⟨rfl,hb2⟩
  ·exact h.disj.disj _ _ hij _ hb1 hb2
  ·rcases hb2 with hb2|hb2
   ·exact h.disj.disj _ _ hij _ hb1 hb2.1
   ·rcases hq b hb2 with hb2|hb2
    ·exact h.disj.disj _ _ hij _ hb1 (P.sub _ hb2)
    ·exact h.flD _ _ hb1 hb2
  ·rcases hb1 with hb1|hb1
   ·exact h.disj.disj _ _ hij _ hb1.1 hb2
   ·rcases hq b hb1 with hb1|hb1
    ·exact h.disj.disj _ _ hij _ (P.sub _ hb1) hb2
    ·exact h.flD _ _ hb2 hb1
  ·exact hij rfl
 ·intro i b hb hc;rcases hFF b hc with hc|⟨hc,hc2,_⟩
  ·rcases hb with ⟨_,hb⟩|⟨rfl,hb|hb⟩
   ·exact h.notF _ _ hb hc
   ·exact h.notF _ _ hb.1 hc
   ·rcases hq b hb with hb|hb
    ·exact h.notF _ _ (P.sub _ hb) hc
    ·exact h.flF _ hb hc
  ·rcases hb with ⟨hi,hb⟩|⟨rfl,hb|hb⟩
   ·rcases hc with hc|hc
    ·exact h.disj.disj _ _ hi _ hb (P.sub _ hc)
    ·exact h.flD _ _ hb hc
   ·rcases hc with hc|hc
    ·exact hb.2 hc
    ·exact h.flD _ _ hb.1 hc
   ·exact hc2 hb
 ·intro i b hb;rw[hsz];rcases hb with ⟨_,hb⟩|⟨rfl,hb|hb⟩
  ·exact h.inH _ _ hb
  ·exact h.inH _ _ hb.1
  ·exact hfqs _ hb
 ·intro b hb; rw[hsz]; exact hF's b hb
 ·intro i b hb hc;obtain ⟨h1,h2⟩:=hfl b hc;rcases hb with ⟨hi,hb⟩|⟨rfl,hb|hb⟩
  ·rcases h1 with h1|h1
   ·exact h.flD _ _ hb h1
   ·exact h.disj.disj _ _ hi _ hb (P.sub _ h1)
  ·rcases h1 with h1|h1
   ·exact h.flD _ _ hb.1 h1
   ·exact hb.2 h1
  ·exact h2 hb
 ·intro b hb hc;obtain ⟨h1,h2⟩:=hfl b hb;rcases hFF b hc with hc|⟨_,_,hc⟩
  ·rcases h1 with h1|h1
   ·exact h.flF _ h1 hc
   ·exact h.notF _ _ (P.sub _ h1) hc
  ·exact hc hb
 ·intro b hb;rw[hsz];rcases (hfl b hb).1 with h1|h1
  ·exact h.flH _ h1
  ·exact h.inH _ _ (P.sub _ h1)
 ·exact h.g1.trans ⟨hst,Nat.le_of_eq hsz.symm⟩
 ·intro b hb hO;refine zMja (h.g2 b hb hO) ?_;cases ad with
  |none=>exact hat b
  |some bo =>
   obtain ⟨b1,o⟩:=bo;refine hat.1 b ?_
   rintro rfl
   rcases h.g3 _ _ (P.lies _ _ rfl).1 with h1|h1
   ·exact hO h1
   ·omega
 ·intro i b hb;rcases hb with ⟨_,hb⟩|⟨rfl,hb|hb⟩
  ·exact h.g3 _ _ hb
  ·exact h.g3 _ _ hb.1
  ·rcases hq b hb with hb|hb
   ·exact h.g3 _ _ (P.sub _ hb)
   ·exact h.g4 _ hb
 ·intro b hb;rcases (hfl b hb).1 with h1|h1
  ·exact h.g4 _ h1
  ·exact h.g3 _ _ (P.sub _ h1)
 ·exact fun b hb=>hF _ (h.g5 b hb)
 ·intro b hb;rcases hFF b hb with hb|⟨hb|hb,_⟩
  ·exact h.g6 b hb
  ·exact .inr (h.g3 _ _ (P.sub _ hb))
  ·exact .inr (h.g4 _ hb)
theorem SR.world (h:SR e F w st V fp fl) (hs:∀b,b<w.heap.size→¬fl b→Same w w' b) (hg:Grew w w') (hfl:∀b,fl' b→(fl b∨w.heap.size≤b)∧b<w'.heap.size) :
  SR e F w' st V fp fl':=by
 have hF:∀b,F b→Same w w' b:=fun b hb=>hs b (h.inF b hb) (fun hc=>h.flF b hc hb)
 have hp:∀i b,fp i b→Same w w' b:=fun i b hb=>hs b (h.inH i b hb) (h.flD i b hb)
 have hal:∀r q v,AlOk w st V r q v→AlOk w' st V r q v:=by
  intro r q v ha t1 m1 x1 h2;obtain ⟨a1,a2,a3,u1,c1,b1,o1,a4,a5⟩:=ha t1 m1 x1 h2;have h3:=h.sv r;rw[h2]at h3;obtain ⟨c3,k3,_⟩:=zIwa h3.2 a3 a2 (fun b hb=>hp r b hb) (fun _ _=>rfl) a4;exact ⟨a1,a2,a3,u1,c3,b1,o1,k3,a5⟩
 refine ⟨fun i=>?_,h.disj,h.notF,fun i b hb=>Nat.lt_of_lt_of_le (h.inH i b hb) hg.size,fun b hb=>Nat.lt_of_lt_of_le (h.inF b hb) hg.size,fun i b hb hc=>?_,fun b hb hc=>?_,fun b hb=>(hfl b hb).2,h.g1.trans hg,fun b hb hO=>?_,h.g3,fun b hb=>?_,h.g5,h.g6⟩
 ·have h1:=h.sv i;cases hsi:st i with
  |v t1 m1 x1=>rw[hsi]at h1; exact ⟨h1.1,zxaa (fun _ hb=>hb) hF (hp i) h1.2⟩
  |al r' q=>rw[hsi]at h1; exact hal _ _ _ h1
  |lz r' q =>
   rw[hsi]at h1;intro t1 m1 x1 h2;obtain ⟨a2,a3,u1,c1,ad1,a4,a5⟩:=h1 t1 m1 x1 h2;have h3:=h.sv r';rw[h2]at h3;obtain ⟨c3,k3,k4⟩:=zIwa h3.2 a3 a2 (fun b hb=>hp r' b hb) (fun _ _=>rfl) a4;exact ⟨a2,a3,u1,c3,ad1,k3,by rw[a5]; exact zRza k4⟩
  |sub r' q lo hi =>
   rw[hsi]at h1;intro t1 m1 x1 h2;obtain ⟨a2,a3,u1,c1,ad1,a4,a5⟩:=h1 t1 m1 x1 h2;have h3:=h.sv r';rw[h2]at h3;obtain ⟨c3,k3,k4⟩:=zIwa h3.2 a3 a2 (fun b hb=>hp r' b hb) (fun _ _=>rfl) a4;exact ⟨a2,a3,u1,c3,ad1,k3,a5.congr k4⟩
  |fn f s caps =>
   rw[hsi]at h1;obtain ⟨us,vs,e1,e2,e3⟩:=h1;have hbx:∀r u,BxOk F w V r u→BxOk F w' V r u:=fun r u hb=>hb.imp (fun _ hb=>hb) hF (fun _=>rfl)
   exact ⟨us,vs,e1,e2.imp hbx fun q u _=>hal _ _ _,e3.imp hbx fun q u _=>hal _ _ _⟩
  |bx r' q =>
   rw[hsi]at h1;exact BxOk.imp h1 (fun _ hb=>hb) hF (fun _=>rfl)
  |ifc T t1 x1 =>
   rw[hsi]at h1;obtain ⟨u,e1,e2,e3,e4⟩:=h1;exact ⟨u,e1,e2,e3,zxaa (fun _ hb=>hb) hF (fun _ hb=>hb.elim) e4⟩
  |tup l =>
   rw[hsi]at h1;obtain ⟨vs,e1,e2,fs,e3,e4,e5⟩:=h1;refine ⟨vs,e1,e2,fs,e3,e4,fun k t1 m1 x1 hk=>?_⟩;obtain ⟨u1,k1,k2,k3⟩:=e5 k t1 m1 x1 hk;exact ⟨u1,k1,k2,zxaa (fun _ hb=>hb) hF (fun b hb=>hp i b (e4 k b hb)) k3⟩
  |nil=>rw[hsi]at h1; exact h1
  |un=>trivial
 ·rcases (hfl b hc).1 with h1|h1
  ·exact h.flD i b hb h1
  ·have:=h.inH i b hb; omega
 ·rcases (hfl b hb).1 with h1|h1
  ·exact h.flF b h1 hc
  ·have:=h.inF b hc; omega
 ·refine zMja (h.g2 b hb hO) (hs b (Nat.lt_of_lt_of_le hb h.g1.size) (fun hc=>?_));rcases h.g4 b hc with h1|h1
  ·exact hO h1
  ·omega
 ·rcases (hfl b hb).1 with h1|h1
  ·exact h.g4 b h1
  ·exact .inr (Nat.le_trans h.g1.size h1)
def updV (V:Nat→Value) (d:Nat) (v:Value):Nat→Value:=fun i=>if i=d then v else V i
theorem SR.fillV {d:Nat} {v:Value} (h:SR e F w st V fp fl) (hgd:gh0≤d→v=V d) (hv:m ≠ .j→isV t v) (hrep:rep F w t m x (cv v) fq) (hq:∀b,fq b→fl b) (hfl:∀b,fl' b→fl b∧¬fq b) :
  SR e F w ((st.kill d []).put d (.v t m x)) (updV V d v) (fun i b=>(i≠d∧fp i b)∨(i=d∧fq b)) fl':=by
 have hV:∀i,i≠d→updV V d v i=V i:=fun i hi=>by simp[updV,hi]
 have hbx:∀r u,BxOk F w V r u→BxOk F w (updV V d v) r u:=fun r u hb=>hb.imp (fun _ hb=>hb) (fun _ _=>rfl) (fun hr=>by
  by_cases hrd:r=d
  ·subst hrd; rw[show updV V r v r=v by simp[updV]]; exact hgd hr
  ·exact hV r hrd)
 have hst:∀r',r'≠d→∀ {t1 m1 x1},((st.kill d []).put d (.v t m x)) r' = .v t1 m1 x1→st r' = .v t1 m1 x1:=by
  intro r' hr' t1 m1 x1 h1;rw[zsba hr']at h1;exact zYYa.1 h1
 have hal:∀r' q v',r'≠d→AlOk w st V r' q v'→AlOk w ((st.kill d []).put d (.v t m x)) (updV V d v) r' q v':=by
  intro r' q v' hr' ha t1 m1 x1 h1;obtain ⟨a1,a2,a3,u1,c1,b1,o1,a4,a5⟩:=ha t1 m1 x1 (hst r' hr' h1);exact ⟨a1,a2,a3,u1,c1,b1,o1,by rw[hV r' hr']; exact a4,a5⟩
 refine ⟨fun i=>?_,⟨?_⟩,?_,?_,h.inF,?_,fun b hb=>h.flF b (hfl b hb).1,fun b hb=>h.flH b (hfl b hb).1,h.g1,h.g2,?_,fun b hb=>h.g4 b (hfl b hb).1,h.g5,h.g6⟩
 ·by_cases hid:i=d
  ·subst hid;rw[zWca,show updV V i v i=v by simp[updV]];exact ⟨hv,zEoa (fun b hb => .inr ⟨rfl,hb⟩) hrep⟩
  ·rw[zsba hid,hV i hid];have hfi:∀b,fp i b→(i≠d∧fp i b)∨(i=d∧fq b):=fun b hb => .inl ⟨hid,hb⟩
   have h1:=h.sv i;cases hsi:st i with
   |v t1 m1 x1=>rw[hsi]at h1; rw[zRVa hsi]; exact ⟨h1.1,zEoa hfi h1.2⟩
   |al r' q =>
    rw[hsi]at h1;rw[zTVa hsi,show stays [] q=false from rfl,Bool.not_false,Bool.and_true];cases hk:Nat.beq d r' with
    |true=>trivial
    |false=>exact hal _ _ _ (fun hc=>by subst hc; rw[Nat.beq_refl]at hk; cases hk) h1
   |lz r' q =>
    rw[hsi]at h1;rw[zOXa hsi,show (q.isEmpty&&!([]:List PE).isEmpty)=false by simp,Bool.not_false,Bool.and_true];cases hk:Nat.beq d r' with
    |true=>trivial
    |false =>
     have hrd:r'≠d:=fun hc=>by subst hc; rw[Nat.beq_refl]at hk; cases hk
     intro t1 m1 x1 h2;obtain ⟨a2,a3,u1,c1,ad1,a4,a5⟩:=h1 t1 m1 x1 (hst r' hrd h2);exact ⟨a2,a3,u1,c1,ad1,by rw[hV r' hrd]; exact a4,a5⟩
   |sub r' q lo hi =>
    rw[hsi]at h1;rw[zqUa hsi];cases hk:Nat.beq d r' with
    |true=>trivial
    |false =>
     have hrd:r'≠d:=fun hc=>by subst hc; rw[Nat.beq_refl]at hk; cases hk
     intro t1 m1 x1 h2;obtain ⟨a2,a3,u1,c1,ad1,a4,a5⟩:=h1 t1 m1 x1 (hst r' hrd h2);exact ⟨a2,a3,u1,c1,ad1,by rw[hV r' hrd]; exact a4,a5⟩
   |fn f s caps =>
    rw[hsi]at h1;rw[zPXa hsi];cases hk:((s++caps).any fun c=>Nat.beq d c.1&&!stays [] c.2) with
    |true=>trivial
    |false =>
     obtain ⟨k1,k2⟩:=zyYa hk;obtain ⟨us,vs,e1,e2,e3⟩:=h1;refine ⟨us,vs,e1,e2.imp hbx fun q u hq=>hal _ _ _ fun hc=>?_,e3.imp hbx fun q u hq=>hal _ _ _ fun hc=>?_⟩
     ·have h9:=k1 q hq;rw[hc,Nat.beq_refl]at h9;simp[stays]at h9
     ·have h9:=k2 q hq;rw[hc,Nat.beq_refl]at h9;simp[stays]at h9
   |bx r' q =>
    rw[hsi]at h1;rw[zSVa hsi];exact hbx _ _ h1
   |ifc T t1 x1=>rw[hsi]at h1; rw[zaQa hsi]; exact h1
   |tup l =>
    rw[hsi]at h1;rw[zYPa hsi];obtain ⟨vs,e1,e2,fs,e3,e4,e5⟩:=h1;exact ⟨vs,e1,e2,fs,e3,fun k b hb=>hfi b (e4 k b hb),e5⟩
   |nil=>rw[hsi]at h1; rw[zZPa hsi]; exact h1
   |un=>rw[zGHa hsi]; trivial
 ·intro i j hij b hb1 hb2;rcases hb1 with ⟨h1,hb1⟩|⟨rfl,hb1⟩<;>rcases hb2 with ⟨h2,hb2⟩|⟨rfl,hb2⟩
  ·exact h.disj.disj _ _ hij _ hb1 hb2
  ·exact h.flD _ _ hb1 (hq _ hb2)
  ·exact h.flD _ _ hb2 (hq _ hb1)
  ·exact hij rfl
 ·rintro i b (⟨_,hb⟩|⟨rfl,hb⟩) hc
  ·exact h.notF _ _ hb hc
  ·exact h.flF _ (hq _ hb) hc
 ·rintro i b (⟨_,hb⟩|⟨rfl,hb⟩)
  ·exact h.inH _ _ hb
  ·exact h.flH _ (hq _ hb)
 ·rintro i b (⟨_,hb⟩|⟨rfl,hb⟩) hc
  ·exact h.flD _ _ hb (hfl _ hc).1
  ·exact (hfl _ hc).2 hb
 ·rintro i b (⟨_,hb⟩|⟨rfl,hb⟩)
  ·exact h.g3 _ _ hb
  ·exact h.g4 _ (hq _ hb)
def notV:SV→Bool
 | .v _ _ _=>false
 |_=>true
theorem SR.fillO {d:Nat} {v:Value} {sv:SV} (h:SR e F w st V fp fl) (hgd:gh0≤d→v=V d) (hn:notV sv=true) (hsv:svR F w st V fq v sv) (hq:∀b,fq b→fl b) (hfl:∀b,fl' b→fl b∧¬fq b) :
  SR e F w (st.put d sv) (updV V d v) (fun i b=>(i≠d∧fp i b)∨(i=d∧fq b)) fl':=by
 have hV:∀i,i≠d→updV V d v i=V i:=fun i hi=>by simp[updV,hi]
 have hbx:∀r u,BxOk F w V r u→BxOk F w (updV V d v) r u:=fun r u hb=>hb.imp (fun _ hb=>hb) (fun _ _=>rfl) (fun hr=>by
  by_cases hrd:r=d
  ·subst hrd; rw[show updV V r v r=v by simp[updV]]; exact hgd hr
  ·exact hV r hrd)
 have hst:∀r',∀ {t1 m1 x1},(st.put d sv) r' = .v t1 m1 x1→r'≠d∧st r' = .v t1 m1 x1:=by
  intro r' t1 m1 x1 h1;by_cases hr':r'=d
  ·subst hr'; rw[zWca]at h1; subst h1; cases hn
  ·rw[zsba hr']at h1;exact ⟨hr',h1⟩
 have hal:∀r' q v',AlOk w st V r' q v'→AlOk w (st.put d sv) (updV V d v) r' q v':=by
  intro r' q v' ha t1 m1 x1 h1;obtain ⟨hr',h1⟩:=hst r' h1;obtain ⟨a1,a2,a3,u1,c1,b1,o1,a4,a5⟩:=ha t1 m1 x1 h1;exact ⟨a1,a2,a3,u1,c1,b1,o1,by rw[hV r' hr']; exact a4,a5⟩
 have hall:∀fp1 fp2:Blks,(∀b,fp1 b→fp2 b)→∀v' s,svR F w st V fp1 v' s→svR F w (st.put d sv) (updV V d v) fp2 v' s:=by
  intro fp1 fp2 hsub v' s h1;cases s with
  |v t1 m1 x1=>exact ⟨h1.1,zEoa hsub h1.2⟩
  |al r' q=>exact hal _ _ _ h1
  |lz r' q =>
   intro t1 m1 x1 h2;obtain ⟨hr',h2⟩:=hst r' h2;obtain ⟨a2,a3,u1,c1,ad1,a4,a5⟩:=h1 t1 m1 x1 h2;exact ⟨a2,a3,u1,c1,ad1,by rw[hV r' hr']; exact a4,a5⟩
  |sub r' q lo hi =>
   intro t1 m1 x1 h2;obtain ⟨hr',h2⟩:=hst r' h2;obtain ⟨a2,a3,u1,c1,ad1,a4,a5⟩:=h1 t1 m1 x1 h2;exact ⟨a2,a3,u1,c1,ad1,by rw[hV r' hr']; exact a4,a5⟩
  |fn f s caps =>
   obtain ⟨us,vs,e1,e2,e3⟩:=h1;exact ⟨us,vs,e1,e2.imp hbx fun q u _=>hal _ _ _,e3.imp hbx fun q u _=>hal _ _ _⟩
  |bx r' q=>exact hbx _ _ h1
  |ifc T t1 x1=>exact h1
  |tup l =>
   obtain ⟨vs,e1,e2,fs,e3,e4,e5⟩:=h1;exact ⟨vs,e1,e2,fs,e3,fun k b hb=>hsub b (e4 k b hb),e5⟩
  |nil=>exact h1
  |un=>trivial
 refine ⟨fun i=>?_,⟨?_⟩,?_,?_,h.inF,?_,fun b hb=>h.flF b (hfl b hb).1,fun b hb=>h.flH b (hfl b hb).1,h.g1,h.g2,?_,fun b hb=>h.g4 b (hfl b hb).1,h.g5,h.g6⟩
 ·by_cases hid:i=d
  ·subst hid;rw[zWca,show updV V i v i=v by simp[updV]];exact hall _ _ (fun b hb => .inr ⟨rfl,hb⟩) _ _ hsv
  ·rw[zsba hid,hV i hid];exact hall _ _ (fun b hb => .inl ⟨hid,hb⟩) _ _ (h.sv i)
 ·intro i j hij b hb1 hb2;rcases hb1 with ⟨h1,hb1⟩|⟨rfl,hb1⟩<;>rcases hb2 with ⟨h2,hb2⟩|⟨rfl,hb2⟩
  ·exact h.disj.disj _ _ hij _ hb1 hb2
  ·exact h.flD _ _ hb1 (hq _ hb2)
  ·exact h.flD _ _ hb2 (hq _ hb1)
  ·exact hij rfl
 ·rintro i b (⟨_,hb⟩|⟨rfl,hb⟩) hc
  ·exact h.notF _ _ hb hc
  ·exact h.flF _ (hq _ hb) hc
 ·rintro i b (⟨_,hb⟩|⟨rfl,hb⟩)
  ·exact h.inH _ _ hb
  ·exact h.flH _ (hq _ hb)
 ·rintro i b (⟨_,hb⟩|⟨rfl,hb⟩) hc
  ·exact h.flD _ _ hb (hfl _ hc).1
  ·exact (hfl _ hc).2 hb
 ·rintro i b (⟨_,hb⟩|⟨rfl,hb⟩)
  ·exact h.g3 _ _ hb
  ·exact h.g4 _ (hq _ hb)
end
end Go.Trm
namespace Go.Trm
def zwea:Ty→List Value
 | .int k=>[.int k 0]
 | .bool=>[.bool false]
 | .str=>[.string ⟨#[]⟩]
 | .err=>[.nilIface]
 | .sl _ _=>[.slice none 0 0]
 | .ptr _ _=>[.pointer none]
 | .unit=>[]
 | .pair a b=>zwea a++zwea b
 | .arr n t=>(List.replicate n (zwea t)).flatten
theorem zeba:∀t:Ty,(zwea t).length=t.size
 | .int _ | .bool | .str | .sl _ _ | .ptr _ _ | .unit | .err=>rfl
 | .pair a b=>by simp[zwea,Ty.size,zeba a,zeba b]
 | .arr n t=>by simp[zwea,Ty.size,zeba t]
def iterO (f:List Value→Option (List Value)):Nat→List Value→Option (List Value)
 |0,l=>some l
 |n+1,l=>match iterO f n l with
  |some l=>f l
  |none=>none
def zOk:Ty→List Value→Option (List Value)
 | .int k,.int k' n::l=>match kEq k k',n with
  |true,.ofNat 0=>some l
  |_,_=>none
 | .bool,.bool false::l=>some l
 | .str,.string ⟨⟨[]⟩⟩::l=>some l
 | .err,.nilIface::l=>some l
 | .sl _ _,.slice none 0 0::l=>some l
 | .ptr _ _,.pointer none::l=>some l
 | .unit,l=>some l
 | .pair a b,l=>match zOk a l with
  |some l=>zOk b l
  |none=>none
 | .arr n t,l=>iterO (zOk t) n l
 |_,_=>none
theorem zG1a:∀ {t:Ty} {l l':List Value},zOk t l=some l'→l=zwea t++l':=by
 intro t
 induction t with
 |int k =>
  intro l l' h;unfold zOk at h;split at h<;>try (first|(cases h; done)|contradiction)
  rename_i k0 k1 n0 l0 e1;cases e1;split at h
  ·rename_i hk;simp only[Option.some.injEq]at h;subst h;rw[zQXa hk];rfl
  ·cases h
 |bool =>
  intro l l' h;unfold zOk at h;split at h<;>first|(simp only[Option.some.injEq]at h; subst h; rfl)|(cases h; done)|contradiction
 |str =>
  intro l l' h;unfold zOk at h;split at h<;>first|(simp only[Option.some.injEq]at h; subst h; rfl)|(cases h; done)|contradiction
 |err =>
  intro l l' h;unfold zOk at h;split at h<;>first|(simp only[Option.some.injEq]at h; subst h; rfl)|(cases h; done)|contradiction
 |sl e t ih =>
  intro l l' h;unfold zOk at h;split at h<;>first|(simp only[Option.some.injEq]at h; subst h; rfl)|(cases h; done)|contradiction
 |ptr e t ih =>
  intro l l' h;unfold zOk at h;split at h<;>first|(simp only[Option.some.injEq]at h; subst h; rfl)|(cases h; done)|contradiction
 |unit =>
  intro l l' h;simp only[zOk,Option.some.injEq]at h;subst h; rfl
 |pair a b iha ihb =>
  intro l l' h;simp only[zOk]at h;split at h
  ·rename_i l1 h1;rw[iha h1,ihb h];simp[zwea]
  ·cases h
 |arr n t ih =>
  intro l l' h;simp only[zOk]at h
  induction n generalizing l' with
  |zero=>simp only[iterO,Option.some.injEq]at h; subst h; simp[zwea]
  |succ n ihn =>
   simp only[iterO]at h;split at h
   ·rename_i l1 h1;have:=ihn h1;rw[this,ih h];simp only[zwea,List.replicate_succ',List.flatten_append,List.flatten_cons,List.flatten_nil,List.append_nil,List.append_assoc]
   ·cases h
mutual
def wt (P:Program):Ty→TypeId→Bool
 | .int k,T=>base P (.int k) T&&(match P.underlying T with|some (.int k')=>kEq k k'|_=>false)
 | .bool,T=>base P .bool T&&(match P.underlying T with|some .bool=>true|_=>false)
 | .str,T=>base P .str T&&(match P.underlying T with|some .string=>true|_=>false)
 | .sl e t,T=>base P (.sl e t) T&&(match P.underlying T with|some (.slice e')=>Nat.beq e e'&&wt P t e|_=>false)
 | .ptr e t,T=>base P (.ptr e t) T&&(match P.underlying T with|some (.pointer e')=>Nat.beq e e'&&wt P t e|_=>false)
 | .err,T=>base P .err T&&(match P.underlying T with|some (.interface _)=>true|_=>false)
 | .unit,T=>base P .unit T&&(match P.underlying T with|some (.struct fs)=>fs.toList.isEmpty|_=>false)
 | .pair a b,T=>base P (.pair a b) T&&(match P.underlying T with
  |some (.struct fs)=>match fs.toList with
   |f::fs=>Nat.beq f.offset 0&&(wt P a f.type&&wtF P b fs a.size)
   |[]=>false
  |_=>false)
 | .arr n t,T=>base P (.arr n t) T&&(match P.underlying T with|some (.array n' e)=>Nat.beq n n'&&wt P t e|_=>false)
def wtF (P:Program):Ty→List Field→Nat→Bool
 | .unit,fs,_=>fs.isEmpty
 | .pair a b,f::fs,o=>Nat.beq f.offset o&&(wt P a f.type&&wtF P b fs (o+a.size))
 |_,_,_=>false
def base (P:Program) (t:Ty) (T:TypeId):Bool:=match P.info? T with
 |some i=>Nat.beq i.size t.size&&(Nat.ble i.bytes 4096&&(match i.zero with
  |some (.agg cs)=>t.agg&&(match zOk t cs.toList with|some []=>true|_=>false)
  |some v=>!t.agg&&(match zOk t [v] with|some []=>true|_=>false)
  |none=>false))
 |none=>false
end
def Ty.deep:Ty→Nat
 | .pair a b=>max (a.deep+1) b.deep
 |_=>0
mutual
def eqT (P:Program):Ty→TypeId→Bool
 | .int _,_ | .bool,_ | .str,_=>true
 | .unit,T=>!P.stoodInHeld T
 | .pair a b,T=>!P.stoodInHeld T&&(match (P.fieldsOf T).toList with
  |f::fs=>f.name != "_"&&(eqT P a f.type&&eqF P b fs)
  |[]=>false)
 |_,_=>false
def eqF (P:Program):Ty→List Field→Bool
 | .unit,fs=>fs.isEmpty
 | .pair a b,f::fs=>f.name != "_"&&(eqT P a f.type&&eqF P b fs)
 |_,_=>false
end
section
variable {P:Program} {t:Ty} {T:TypeId}
theorem zN1a (h:wt P t T=true):base P t T=true:=by
 cases t<;>simp only[wt,Bool.and_eq_true]at h<;>exact h.1
theorem zzwa (h:wt P t T=true):∃i z,P.info? T=some i∧i.size=t.size∧i.bytes≤4096∧i.zero=some z∧z=valOf t (fun j=>(zwea t).getD j undef)∧z.cells=(zwea t).toArray:=by
 have hb:=zN1a h;unfold base at hb;split at hb
 ·rename_i i hi;simp only[Bool.and_eq_true]at hb;obtain ⟨h1,h2,h3⟩:=hb;split at h3
  ·rename_i cs hz;simp only[Bool.and_eq_true]at h3;obtain ⟨ha,h3⟩:=h3;split at h3
   ·rename_i he;have:=zG1a he;simp only[List.append_nil]at this;have hc:cs=(zwea t).toArray:=by rw[←this]
    refine ⟨i,.agg cs,hi,Nat.eq_of_beq_eq_true h1,Nat.le_of_ble_eq_true h2,hz,?_,hc⟩;simp only[valOf,ha,if_true];rw[hc]
    congr 2
    refine List.ext_getElem (by simp[zeba]) fun j h1 h2=>?_
    simp[List.getD,List.getElem?_eq_getElem h1]
   ·cases h3
  ·rename_i v hnv hz;simp only[Bool.and_eq_true,Bool.not_eq_true']at h3;obtain ⟨ha,h3⟩:=h3;split at h3
   ·rename_i he;have:=zG1a he;simp only[List.append_nil]at this;have hv:v=valOf t (fun j=>(zwea t).getD j undef):=by simp[valOf,ha,←this]
    refine ⟨i,v,hi,Nat.eq_of_beq_eq_true h1,Nat.le_of_ble_eq_true h2,hz,hv,?_⟩;rw[←this];cases v with
    |agg cs=>exact absurd hz (by simpa using hnv cs)
    |_=>rfl
   ·cases h3
  ·cases h3
 ·cases hb
theorem zO1a (h:wt P t T=true):(match P.underlying T with|some (.struct _)|some (.array _ _)=>true|_=>false)=t.agg:=by
 cases t<;>simp only[wt,Bool.and_eq_true]at h<;>obtain ⟨_,h⟩:=h<;>split at h<;>first|(rename_i h2; rw[h2]; rfl)|(cases h; done)
theorem zrRa {k:IntKind} (h:wt P (.int k) T=true):P.underlying T=some (.int k):=by
 simp only[wt,Bool.and_eq_true]at h;obtain ⟨_,h⟩:=h;split at h
 ·rename_i h2; rw[h2,zQXa h]
 ·cases h
theorem zDVa (h:wt P .bool T=true):P.underlying T=some .bool:=by
 simp only[wt,Bool.and_eq_true]at h;obtain ⟨_,h⟩:=h;split at h
 ·assumption
 ·cases h
theorem zgPa (h:wt P .str T=true):P.underlying T=some .string:=by
 simp only[wt,Bool.and_eq_true]at h;obtain ⟨_,h⟩:=h;split at h
 ·assumption
 ·cases h
theorem zV2a (h:wt P .err T=true):∃ms,P.underlying T=some (.interface ms):=by
 simp only[wt,Bool.and_eq_true]at h;obtain ⟨_,h⟩:=h;split at h
 ·exact ⟨_,by assumption⟩
 ·cases h
theorem wt_sl {e:TypeId} {u:Ty} (h:wt P (.sl e u) T=true):P.underlying T=some (.slice e)∧wt P u e=true:=by
 simp only[wt,Bool.and_eq_true]at h;obtain ⟨_,h⟩:=h;split at h
 ·rename_i h2; simp only[Bool.and_eq_true]at h; rw[Nat.eq_of_beq_eq_true h.1]; exact ⟨h2,Nat.eq_of_beq_eq_true h.1 ▸ h.2⟩
 ·cases h
theorem zJ1a {e:TypeId} {u:Ty} (h:wt P (.ptr e u) T=true):P.underlying T=some (.pointer e)∧wt P u e=true:=by
 simp only[wt,Bool.and_eq_true]at h;obtain ⟨_,h⟩:=h;split at h
 ·rename_i h2; simp only[Bool.and_eq_true]at h; rw[Nat.eq_of_beq_eq_true h.1]; exact ⟨h2,Nat.eq_of_beq_eq_true h.1 ▸ h.2⟩
 ·cases h
theorem zCYa {n:Nat} {u:Ty} (h:wt P (.arr n u) T=true):∃e,P.underlying T=some (.array n e)∧wt P u e=true:=by
 simp only[wt,Bool.and_eq_true]at h;obtain ⟨_,h⟩:=h;split at h
 ·rename_i h2; simp only[Bool.and_eq_true]at h; rw[Nat.eq_of_beq_eq_true h.1]; exact ⟨_,h2,h.2⟩
 ·cases h
def fldT:Ty→Nat→Option (Ty×Nat)
 | .pair a _,0=>some (a,0)
 | .pair a b,i+1=>(fldT b i).map fun q=>(q.1,a.size+q.2)
 |_,_=>none
theorem zP1a:∀ {t:Ty} {fs:List Field} {o i:Nat} {u:Ty} {k:Nat},wtF P t fs o=true→fldT t i=some (u,k)→∃f,fs[i]?=some f∧f.offset=o+k∧wt P u f.type=true:=by
 intro t
 induction t with
 |pair a b iha ihb =>
  intro fs o i u k h hf;cases fs with
  |nil=>simp[wtF]at h
  |cons f fs =>
   simp only[wtF,Bool.and_eq_true]at h;cases i with
   |zero=>simp only[fldT,Option.some.injEq,Prod.mk.injEq]at hf; obtain ⟨rfl,rfl⟩:=hf; exact ⟨f,rfl,Nat.eq_of_beq_eq_true h.1,h.2.1⟩
   |succ i =>
    simp only[fldT,Option.map_eq_some_iff]at hf;obtain ⟨⟨u',k'⟩,hf,he⟩:=hf;simp only[Prod.mk.injEq]at he;obtain ⟨rfl,rfl⟩:=he;obtain ⟨f',h1,h2,h3⟩:=ihb h.2.2 hf;exact ⟨f',by simpa using h1,by omega,h3⟩
 |_=>intro fs o i u k h hf; simp[fldT]at hf
theorem zM1a {i k:Nat} {u:Ty} (h:wt P t T=true) (hf:fldT t i=some (u,k)):∃fs f,P.underlying T=some (.struct fs)∧fs[i]?=some f∧f.offset=k∧wt P u f.type=true:=by
 cases t with
 |pair a b =>
  simp only[wt,Bool.and_eq_true]at h;obtain ⟨_,h⟩:=h;split at h
  ·rename_i fs h2;split at h
   ·rename_i f fs' h3;simp only[Bool.and_eq_true]at h;refine ⟨fs,?_⟩;cases i with
    |zero =>
     simp only[fldT,Option.some.injEq,Prod.mk.injEq]at hf;obtain ⟨rfl,rfl⟩:=hf;exact ⟨f,h2,by rw[←Array.getElem?_toList,h3]; rfl,Nat.eq_of_beq_eq_true h.1,h.2.1⟩
    |succ i =>
     simp only[fldT,Option.map_eq_some_iff]at hf;obtain ⟨⟨u',k'⟩,hf,he⟩:=hf;simp only[Prod.mk.injEq]at he;obtain ⟨rfl,rfl⟩:=he;obtain ⟨f',h4,h5,h6⟩:=zP1a h.2.2 hf;exact ⟨f',h2,by rw[←Array.getElem?_toList,h3]; simpa using h4,h5,h6⟩
   ·cases h
  ·cases h
 |_=>simp[fldT]at hf
theorem zeYa:∀ {t:Ty} {m:Md} {x:t.I} {i:Nat} {u:Ty} {mu:Md} {y:u.I},getP t m x [.fld i]=some ⟨u,mu,y⟩→∃k,fldT t i=some (u,k)∧k+u.size≤t.size:=by
 intro t
 induction t with
 |pair a b iha ihb =>
  intro m x i u mu y h;cases i with
  |zero =>
   simp only[getP,Option.some.injEq]at h;cases h;exact ⟨0,rfl,by simp[Ty.size]⟩
  |succ i =>
   simp only[getP]at h;obtain ⟨k,h1,h2⟩:=ihb h;exact ⟨a.size+k,by simp[fldT,h1],by simp only[Ty.size]; omega⟩
 |_=>intro m x i u mu y h; simp[getP]at h
theorem zv0a {w:World}:∀ {t:Ty} {i:Nat} {u:Ty} {k:Nat} {c:Cells} {ad:Option (Nat×Nat)},fldT t i=some (u,k) →
  rs w t c ad [.fld i]=some (u,(fun j=>c (k+j)),ad.map fun q=>(q.1,q.2+k)):=by
 intro t
 induction t with
 |pair a b iha ihb =>
  intro i u k c ad h;cases i with
  |zero =>
   simp only[fldT,Option.some.injEq,Prod.mk.injEq]at h;obtain ⟨rfl,rfl⟩:=h;simp only[rs,Nat.zero_add,Nat.add_zero];cases ad<;>rfl
  |succ i =>
   simp only[fldT,Option.map_eq_some_iff]at h;obtain ⟨⟨u',k'⟩,h,he⟩:=h;simp only[Prod.mk.injEq]at he;obtain ⟨rfl,rfl⟩:=he;simp only[rs];rw[ihb h];simp only[Option.map_map,Option.some.injEq,Prod.mk.injEq,true_and];refine ⟨?_,?_⟩
   ·funext j; rw[Nat.add_assoc]
   ·cases ad with
    |none=>rfl
    |some q=>simp[Nat.add_assoc]
 |_=>intro i u k c ad h; simp[fldT]at h
theorem znWa {w:World}:∀ {p q:List PE} {t:Ty} {c:Cells} {ad:Option (Nat×Nat)} {u:Ty} {c':Cells} {ad':Option (Nat×Nat)},rs w t c ad p=some (u,c',ad')→rs w t c ad (p++q)=rs w u c' ad' q:=by
 intro p q t
 induction t generalizing p with
 |sl e t ih=>intro c ad u c' ad' h; cases p with
  |nil=>simp only[rs,Option.some.injEq,Prod.mk.injEq]at h; obtain ⟨rfl,rfl,rfl⟩:=h; rfl
  |cons z p=>cases z with
   |idx i =>
         simp only[rs,List.cons_append]at h ⊢; split at h
         ·exact ih h
         ·cases h
   |_=>simp[rs]at h
 |ptr e t ih=>intro c ad u c' ad' h; cases p with
  |nil=>simp only[rs,Option.some.injEq,Prod.mk.injEq]at h; obtain ⟨rfl,rfl,rfl⟩:=h; rfl
  |cons z p=>cases z with
   |der =>
        simp only[rs,List.cons_append]at h ⊢; split at h
        ·exact ih h
        ·cases h
   |_=>simp[rs]at h
 |arr n t ih=>intro c ad u c' ad' h; cases p with
  |nil=>simp only[rs,Option.some.injEq,Prod.mk.injEq]at h; obtain ⟨rfl,rfl,rfl⟩:=h; rfl
  |cons z p=>cases z with
   |idx i=>simp only[rs,List.cons_append]at h ⊢; exact ih h
   |_=>simp[rs]at h
 |pair a b iha ihb=>intro c ad u c' ad' h; cases p with
  |nil=>simp only[rs,Option.some.injEq,Prod.mk.injEq]at h; obtain ⟨rfl,rfl,rfl⟩:=h; rfl
  |cons z p=>cases z with
   |fld n=>cases n with
    |zero=>simp only[rs,List.cons_append]at h ⊢; exact iha h
    |succ n=>simp only[rs,List.cons_append]at h ⊢; exact ihb (p := .fld n::p) h
   |_=>simp[rs]at h
 |_=>intro c ad u c' ad' h; cases p with
  |nil=>simp only[rs,Option.some.injEq,Prod.mk.injEq]at h; obtain ⟨rfl,rfl,rfl⟩:=h; rfl
  |cons z p=>simp[rs]at h
theorem zf1a:∀ {p q:List PE} {t:Ty} {m:Md} {x:t.I} {u:Ty} {mu:Md} {y:u.I},getP t m x p=some ⟨u,mu,y⟩→getP t m x (p++q)=getP u mu y q:=by
 intro p q t
 induction t generalizing p with
 |sl e t ih=>intro m x u mu y h; cases p with
  |nil=>simp only[getP,Option.some.injEq]at h; cases h; rfl
  |cons z p=>cases z with
   |idx i=>simp only[getP,List.cons_append]at h ⊢; exact ih h
   |_=>simp[getP]at h
 |ptr e t ih=>intro m x u mu y h; cases p with
  |nil=>simp only[getP,Option.some.injEq]at h; cases h; rfl
  |cons z p=>cases z with
   |der =>
    cases x with
    |none=>simp[getP]at h
    |some x=>simp only[getP,List.cons_append]at h ⊢; exact ih h
   |_=>simp[getP]at h
 |arr n t ih=>intro m x u mu y h; cases p with
  |nil=>simp only[getP,Option.some.injEq]at h; cases h; rfl
  |cons z p=>cases z with
   |idx i=>simp only[getP,List.cons_append]at h ⊢; exact ih h
   |_=>simp[getP]at h
 |pair a b iha ihb=>intro m x u mu y h; cases p with
  |nil=>simp only[getP,Option.some.injEq]at h; cases h; rfl
  |cons z p=>cases z with
   |fld n=>cases n with
    |zero=>simp only[getP,List.cons_append]at h ⊢; exact iha h
    |succ n=>simp only[getP,List.cons_append]at h ⊢; exact ihb (p := .fld n::p) h
   |_=>simp[getP]at h
 |_=>intro m x u mu y h; cases p with
  |nil=>simp only[getP,Option.some.injEq]at h; cases h; rfl
  |cons z p=>simp[getP]at h
theorem zNOa:∀ {p q:List PE} {t:Ty} {m:Md} {x:t.I} {u:Ty} {mu:Md} {y:u.I},getP t m x p=some ⟨u,mu,y⟩→inP t x p→inP u y q→inP t x (p++q):=by
 intro p q t
 induction t generalizing p with
 |sl e t ih=>intro m x u mu y h h1 h2; cases p with
  |nil=>simp only[getP,Option.some.injEq]at h; cases h; exact h2
  |cons z p=>cases z with
   |idx i=>simp only[getP]at h; simp only[inP,List.cons_append]at h1 ⊢; exact ⟨h1.1,ih h h1.2 h2⟩
   |_=>simp[getP]at h
 |ptr e t ih=>intro m x u mu y h h1 h2; cases p with
  |nil=>simp only[getP,Option.some.injEq]at h; cases h; exact h2
  |cons z p=>cases z with
   |der =>
    cases x with
    |none=>simp[getP]at h
    |some x=>simp only[getP]at h; simp only[inP,List.cons_append]at h1 ⊢; exact ih h h1 h2
   |_=>simp[getP]at h
 |arr n t ih=>intro m x u mu y h h1 h2; cases p with
  |nil=>simp only[getP,Option.some.injEq]at h; cases h; exact h2
  |cons z p=>cases z with
   |idx i=>simp only[getP]at h; simp only[inP,List.cons_append]at h1 ⊢; exact ⟨h1.1,ih h h1.2 h2⟩
   |_=>simp[getP]at h
 |pair a b iha ihb=>intro m x u mu y h h1 h2; cases p with
  |nil=>simp only[getP,Option.some.injEq]at h; cases h; exact h2
  |cons z p=>cases z with
   |fld n=>cases n with
    |zero=>simp only[getP]at h; simp only[inP,List.cons_append]at h1 ⊢; exact iha h h1 h2
    |succ n=>simp only[getP]at h; simp only[inP,List.cons_append]at h1 ⊢; exact ihb (p := .fld n::p) h h1 h2
   |_=>simp[getP]at h
 |_=>intro m x u mu y h h1 h2; cases p with
  |nil=>simp only[getP,Option.some.injEq]at h; cases h; exact h2
  |cons z p=>simp[getP]at h
theorem zlGa:∀ {p q:List PE} {t:Ty} {m:Md} {x:t.I} {u:Ty} {mu:Md} {y:u.I},getP t m x p=some ⟨u,mu,y⟩→ownP t m p→ownP u mu q→ownP t m (p++q):=by
 intro p q t
 induction t generalizing p with
 |sl e t ih=>intro m x u mu y h h1 h2; cases p with
  |nil=>simp only[getP,Option.some.injEq]at h; cases h; exact h2
  |cons z p=>cases z with
   |idx i =>
    cases m with
    |o m=>simp only[getP]at h; simp only[ownP,List.cons_append]at h1 ⊢; exact ih h h1 h2
    |_=>simp[ownP]at h1
   |_=>simp[getP]at h
 |ptr e t ih=>intro m x u mu y h h1 h2; cases p with
  |nil=>simp only[getP,Option.some.injEq]at h; cases h; exact h2
  |cons z p=>cases z with
   |der =>
    cases m with
    |o m =>
     cases x with
     |none=>simp[getP]at h
     |some x=>simp only[getP]at h; simp only[ownP,List.cons_append]at h1 ⊢; exact ih h h1 h2
    |_=>simp[ownP]at h1
   |_=>simp[getP]at h
 |arr n t ih=>intro m x u mu y h h1 h2; cases p with
  |nil=>simp only[getP,Option.some.injEq]at h; cases h; exact h2
  |cons z p=>cases z with
   |idx i=>simp only[getP]at h; simp only[ownP,List.cons_append]at h1 ⊢; exact ⟨h1.1,ih h h1.2 h2⟩
   |_=>simp[getP]at h
 |pair a b iha ihb=>intro m x u mu y h h1 h2; cases p with
  |nil=>simp only[getP,Option.some.injEq]at h; cases h; exact h2
  |cons z p=>cases z with
   |fld n=>cases n with
    |zero=>simp only[getP]at h; simp only[ownP,List.cons_append]at h1 ⊢; exact iha h h1 h2
    |succ n=>simp only[getP]at h; simp only[ownP,List.cons_append]at h1 ⊢; exact ihb (p := .fld n::p) h h1 h2
   |_=>simp[getP]at h
 |_=>intro m x u mu y h h1 h2; cases p with
  |nil=>simp only[getP,Option.some.injEq]at h; cases h; exact h2
  |cons z p=>simp[getP]at h
end
end Go.Trm
namespace Go.Trm
theorem zSfa (b o j:Nat):(⟨b,o,none⟩:Addr).add j=⟨b,o+j,none⟩:=by
 unfold Addr.add;split
 ·rename_i h; subst h; rfl
 ·rfl
theorem zZla {w:World} {b n:Nat} {wr:Bool} (h:zTga w b n wr) {k:Nat} (hk:k<n):w.cell? ⟨b,k,none⟩=some (rowW w b 0 k):=by
 obtain ⟨cs,el,fz,h1,h2,_⟩:=h;have h3:k<cs.size:=by omega
 simp[World.cell?,rowW,h1,rowOf,h3]
theorem zCEa {w:World} {b n:Nat} (h:zTga w b n true) {k:Nat} (hk:k<n):w.frozen? ⟨b,k,none⟩=false:=by
 obtain ⟨cs,el,fz,h1,h2,h3⟩:=h;have h4:=h3 rfl;obtain ⟨lo,hi⟩:=fz;simp only[World.frozen?,h1];simp only at h4;simpa using fun h5=>Nat.le_of_not_lt fun h6=>by omega
section
variable {P:Program} {w:World} {t:Ty} {T:TypeId}
theorem zGVa (h:wt P t T=true):(isAgg T).run P w = .ok t.agg w:=by
 have h1:=zO1a h;cases hu:P.underlying T with
 |none=>cases t<;>simp only[wt,Bool.and_eq_true]at h<;>rw[hu]at h<;>simp at h
 |some d =>
  rw[hu]at h1;simp only[isAgg,Sem.run_bind,run_underlying hu,Result.andThen_ok];rw[←h1];cases d<;>rfl
theorem zNga (h:wt P t T=true):(sizeOf T).run P w = .ok t.size w:=by
 obtain ⟨i,z,h1,h2,_⟩:=zzwa h;simp[sizeOf,typeInfo,h1,h2]
theorem zjXa (h:wt P t T=true):(zeroValue T).run P w = .ok (valOf t (fun j=>(zwea t).getD j undef)) w:=by
 obtain ⟨i,z,h1,h2,h3,h4,h5,_⟩:=zzwa h;simp[zeroValue,typeInfo,h1,h4,h5]
theorem zwta {b o:Nat} {wr:Bool} (h:wt P t T=true) (hh:zTga w b (o+t.size) wr):(loadVar T ⟨b,o,none⟩).run P w = .ok (valOf t (rowW w b o)) w:=by
 simp only[loadVar,Sem.run_bind,zGVa h,Result.andThen_ok];unfold valOf;cases ha:t.agg with
 |true =>
  simp only[if_true,Sem.run_bind,zNga h,Result.andThen_ok];rw[run_loadCells w ⟨b,o,none⟩ t.size (rowW w b o) (fun j hj=>by rw[zSfa,zZla hh (by omega),←zWba])];rfl
 |false =>
  have h1:=zfGa ha;simp only[Bool.false_eq_true,if_false,run_load];have:=zZla hh (k:=o) (by omega);rw[this,zWba w b o 0,Nat.add_zero]
end
theorem zqZa {x:Bool} {v:Value} (h:errV x v):v.oneCell'=true:=by
 cases x with
 |false=>cases h; rfl
 |true=>obtain ⟨T,p,rfl⟩:=h; rfl
theorem zaUa {F:Blks} {w:World}:∀ {t:Ty} {m:Md} {x:t.I} {c:Cells} {fp:Blks},rep F w t m x c fp→m.noJ=true→∀j,j<t.size→(c j).oneCell'=true:=by
 intro t
 induction t with
 |int k =>
       intro m x c fp h hm j hj; simp only[Ty.size]at hj; obtain rfl:j=0:=by omega
       cases m<;>simp only[rep,Md.noJ,Bool.false_eq_true]at h hm<;>(rw[h.1]; rfl)
 |bool =>
      intro m x c fp h hm j hj; simp only[Ty.size]at hj; obtain rfl:j=0:=by omega
      cases m<;>simp only[rep,Md.noJ,Bool.false_eq_true]at h hm<;>(rw[h]; rfl)
 |str =>
      intro m x c fp h hm j hj; simp only[Ty.size]at hj; obtain rfl:j=0:=by omega
      cases m<;>simp only[rep,Md.noJ,Bool.false_eq_true]at h hm<;>(rw[h.1]; rfl)
 |err =>
      intro m x c fp h hm j hj; simp only[Ty.size]at hj; obtain rfl:j=0:=by omega
      cases m<;>simp only[rep,Md.noJ,Bool.false_eq_true]at h hm<;>exact zqZa h
 |sl e t ih =>
         intro m x c fp h hm j hj; simp only[Ty.size]at hj; obtain rfl:j=0:=by omega
         cases m<;>simp only[rep,Md.noJ,Bool.false_eq_true]at h hm<;>(obtain ⟨A,cap,h,_⟩:=h; rw[h]; rfl)
 |ptr e t ih =>
         intro m x c fp h hm j hj; simp only[Ty.size]at hj; obtain rfl:j=0:=by omega
         cases m<;>simp only[rep,Md.noJ,Bool.false_eq_true]at h hm<;>(obtain ⟨A,h,_⟩:=h; rw[h]; rfl)
 |unit=>intro m x c fp h hm j hj; simp[Ty.size]at hj
 |pair a b iha ihb =>
  intro m x c fp h hm j hj;obtain ⟨fa,fb,h1,h2,h3,ra,rb⟩:=zaka h;have hm':m.fst.noJ=true∧m.snd.noJ=true:=by
   cases m<;>simp only[Md.noJ,Md.fst,Md.snd,Bool.and_eq_true,Bool.false_eq_true]at hm ⊢<;>first|exact ⟨trivial,trivial⟩|exact hm|exact ⟨hm,hm⟩
  simp only[Ty.size]at hj;by_cases hlt:j<a.size
  ·exact iha ra hm'.1 j hlt
  ·have:=ihb rb hm'.2 (j-a.size) (by omega)
   rwa [show a.size+(j-a.size)=j by omega]at this
 |arr n t ih =>
  intro m x c fp h hm j hj;have hm':m.el.noJ=true:=by
   cases m<;>first|exact hm|cases hm
  have hj':m ≠ .j:=by rintro rfl; simp[Md.noJ]at hm
  have key:∃fs:Nat→Blks,∀i,i<n→rep F w t m.el (List.getD (x:List t.I) i t.dflt) (fun j=>c (i*t.size+j)) (fs i):=by
   cases m with
   |j=>exact absurd rfl hj'
   |_=>simp only[rep]at h; obtain ⟨hn,fs,_,h2,r⟩:=h; exact ⟨fs,r⟩
  obtain ⟨fs,r⟩:=key;simp only[Ty.size]at hj;have hs:0<t.size:=by
   rcases Nat.eq_zero_or_pos t.size with h0|h0
   ·rw[h0]at hj; simp at hj
   ·exact h0
  have h1:j/t.size<n:=Nat.div_lt_of_lt_mul (by rwa [Nat.mul_comm]);have:=ih (r _ h1) hm' (j%t.size) (Nat.mod_lt _ hs)
  rwa [Nat.mul_comm,Nat.div_add_mod]at this
theorem zRTa {t:Ty} {v:Value} (h:isV t v) (h1:t.agg=false→one v):v.cells.size=t.size:=by
 cases ha:t.agg with
 |true =>
  have:v = .agg ((List.range t.size).map (cv v)).toArray:=by
   have:=h; unfold isV valOf at this; rw[ha]at this; simpa using this
  rw[this];simp[Value.cells]
 |false =>
  have h2:v.cells=#[v]:=h1 ha;rw[h2,zfGa ha];rfl
theorem rep_s {F:Blks} {w:World}:∀ {t:Ty} {x:t.I} {c:Cells} {fp fp':Blks},rep F w t .s x c fp→rep F w t .s x c fp':=by
 intro t
 induction t with
 |pair a b iha ihb =>
  intro x c fp fp' h;simp only[rep,Md.fst,Md.snd]at h ⊢;obtain ⟨fa,fb,h1,h2,h3,ra,rb⟩:=h;exact ⟨fun _=>False,fun _=>False,fun _ h=>h.elim,fun _ h=>h.elim,fun _ h=>h.elim,iha ra,ihb rb⟩
 |arr n t ih =>
  intro x c fp fp' h;simp only[rep,Md.el]at h ⊢;obtain ⟨hn,fs,h1,h2,r⟩:=h;exact ⟨hn,fun _ _=>False,⟨fun _ _ _ _ h=>h.elim⟩,fun _ _ h=>h.elim,fun i hi=>ih (r i hi)⟩
 |_=>intro x c fp fp' h; simp only[rep]at h ⊢<;>exact h
def defOf:Value→List Deferred
 | .func f s c=>[⟨.fn f c,s⟩]
 |_=>[]
structure AR (env:Env) (gh:Nat→Value) (a:Act) (V:Nat→Value):Prop where
 size:a.tmps.size=env.n
 tmps:∀i,i<env.n→a.tmps.getD i undef=V (env.b+i)
 defers:a.defers=(match env.df with|true=>defOf (V (env.b+env.n))|false=>[])
 lim:env.b+env.n<gh0
 keep:∀i,i<env.b∨gh0≤i→V i=gh i
structure EnvTy (P:Program) (env:Env):Prop where
 ty:∀T t,env.ty T=some t→wt P t T=true
 eq:∀T t,env.eq T=true→env.ty T=some t→(eqT P t T&&(!P.eqGuardType P.depth T&&Nat.ble t.deep 9000))=true
theorem Env.is_ok {P:Program} {env:Env} {T:TypeId} {t:Ty} (hE:EnvTy P env) (h:env.is T t=true):wt P t T=true:=by
 unfold Env.is at h;split at h
 ·rename_i t' h1; rw[←Ty.eqb_eq h]; exact hE.ty _ _ h1
 ·cases h
def DataX (F:Blks) (w:World) (st:St) (V:Nat→Value) (val:Value) (t:Ty) (m:Md) (y:t.I):Src→Prop
 |none=>isV t val∧m ≠ .j∧rep F w t m y (cv val) (fun _=>False)
 |some (r,p)=>m ≠ .j∧∃t0 m0 x0,st r = .v t0 m0 x0∧getP t0 m0 x0 p=some ⟨t,m,y⟩∧ownP t0 m0 p∧inP t0 x0 p∧∃c' ad,rs w t0 (cv (V r)) none p=some (t,c',ad)∧val=valOf t c'
inductive PartOf (c':Cells):(t:Ty)→t.I→t.I→Value→Prop
 |all (t:Ty) (y:t.I):PartOf c' t y y (valOf t c')
 |cut (e:TypeId) (u:Ty) (y:List u.I) (lo hi:Int) (A:Option Addr) (cap:Nat) (h0:c' 0 = .slice A y.length cap) (h1:0≤lo∧lo≤hi∧hi≤(y.length:Int)) :
   PartOf c' (.sl e u) y (rng y lo hi) (zqTa A cap lo.toNat hi.toNat u.size)
def DataAt (F:Blks) (w:World) (st:St) (V:Nat→Value) (val:Value) (t:Ty) (m:Md) (y:t.I):Src→Prop
 |none=>isV t val∧m ≠ .j∧rep F w t m y (cv val) (fun _=>False)
 |some (r,p)=>m ≠ .j∧∃t0 m0 x0,st r = .v t0 m0 x0∧∃y0,getP t0 m0 x0 p=some ⟨t,m,y0⟩∧ownP t0 m0 p∧inP t0 x0 p∧∃c' ad,rs w t0 (cv (V r)) none p=some (t,c',ad)∧PartOf c' t y0 y val
theorem DataX.at {F:Blks} {w:World} {st:St} {V:Nat→Value} {val:Value} {t:Ty} {m:Md} {y:t.I} {src:Src} (h:DataX F w st V val t m y src):DataAt F w st V val t m y src:=by
 cases src with
 |none=>exact h
 |some q =>
  obtain ⟨r,p⟩:=q;obtain ⟨hm,t0,m0,x0,h1,h2,h3,h4,c',ad,h5,h6⟩:=h;exact ⟨hm,t0,m0,x0,h1,y,h2,h3,h4,c',ad,h5,by rw[h6]; exact .all t y⟩
theorem zJKa {β:Type} {l:List β} {lo hi:Int} (h:0≤lo∧lo≤hi∧hi≤(l.length:Int)):(rng l lo hi).length=hi.toNat-lo.toNat:=by
 simp only[rng,List.length_drop,List.length_take]; omega
theorem zYTa {β:Type} {l:List β} {lo hi:Int} {d:β} {i:Nat} (h:0≤lo∧lo≤hi∧hi≤(l.length:Int)) (hi':i<hi.toNat-lo.toNat):(rng l lo hi).getD i d=l.getD (lo.toNat+i) d:=by
 simp only[rng,List.getD_eq_getElem?_getD,List.getElem?_drop,List.getElem?_take];rw[if_pos (by omega)]
theorem zJZa {F:Blks} {w:World} {e:TypeId} {u:Ty} {m:Md} {y:List u.I} {lo hi:Int} {A:Option Addr} {cap:Nat} {c:Cells} {fq:Blks} (hm:m ≠ .j) (hr:rep F w (.sl e u) m y c fq) (h0:c 0 = .slice A y.length cap) (h:0≤lo∧lo≤hi∧hi≤(y.length:Int)) :
  rep F w (.sl e u) m (rng y lo hi) (cv (zqTa A cap lo.toNat hi.toNat u.size)) fq:=by
 have hlen:=zJKa (l:=y) h;have hcv:cv (zqTa A cap lo.toNat hi.toNat u.size) 0=zqTa A cap lo.toNat hi.toNat u.size:=rfl;have hA':∀A',A=some A'→0<cap→A'.spot=none→(if cap=lo.toNat then A else A.map (·.add (lo.toNat * u.size)))=some (if cap=lo.toNat then A' else ⟨A'.block,A'.off+lo.toNat * u.size,none⟩):=by
  rintro ⟨b,k,sp⟩ rfl _ hsp
  simp only at hsp;subst hsp;split<;>simp[zSfa]
 cases m with
 |j=>exact absurd rfl hm
 |p m1 m2 =>
  simp only[rep]at hr ⊢;obtain ⟨A1,cap1,q1,q2,q3,q4,q5⟩:=hr;rw[h0]at q1;obtain ⟨rfl,_,rfl⟩:A=A1∧y.length=y.length∧cap=cap1:=by simpa using q1
  cases A with
  |some A=>exact (q5 A rfl).2.elim
  |none =>
   have hc:=q4 rfl;refine ⟨none,cap-lo.toNat,?_,?_,by omega,fun _=>by omega,nofun⟩
   ·rw[hcv,hlen]; unfold zqTa; simp
   ·rw[hlen]; omega
 |s =>
  simp only[rep]at hr ⊢;obtain ⟨A1,cap1,q1,q2,q3,q4,q5⟩:=hr;rw[h0]at q1;obtain ⟨rfl,_,rfl⟩:A=A1∧y.length=y.length∧cap=cap1:=by simpa using q1
  refine ⟨(if cap=lo.toNat then A else A.map (·.add (lo.toNat * u.size))),cap-lo.toNat,?_,?_,?_,?_,fun A' hA=>?_⟩
  ·rw[hcv,hlen]; rfl
  ·rw[hlen]; omega
  ·omega
  ·intro hn;cases A with
   |none=>have:=q4 rfl; omega
   |some A =>
    split at hn
    ·cases hn
    ·simp at hn
  ·cases A with
   |none=>split at hA<;>simp at hA
   |some A =>
    obtain ⟨hsp,q6,q7⟩:=q5 A rfl;by_cases hcz:cap=0
    ·have hcl:cap=lo.toNat:=by omega
     rw[if_pos hcl]at hA;cases hA;have h0:hi.toNat-lo.toNat=0:=by omega
     refine ⟨fun hc=>by omega,.inl (by rw[hlen,h0,Nat.zero_mul]),fun i hi=>?_⟩;rw[hlen]at hi; omega
    replace hsp:=hsp (by omega)
    obtain ⟨b,k,sp⟩:=A;simp only at hsp;subst hsp;by_cases hcl:cap=lo.toNat
    ·rw[if_pos hcl]at hA;cases hA;have h0:hi.toNat-lo.toNat=0:=by omega
     refine ⟨fun _=>rfl,.inl (by rw[hlen,h0,Nat.zero_mul]),fun i hi=>?_⟩;rw[hlen]at hi; omega
    ·rw[if_neg hcl]at hA;simp only[Option.map_some,Option.some.injEq,zSfa]at hA;subst hA;refine ⟨fun _=>rfl,?_,fun i hi=>?_⟩
     ·rcases q6 with q6|⟨q6,q8⟩
      ·left
       rcases Nat.mul_eq_zero.1 q6 with q6|q6
       ·rw[hlen];have:hi.toNat-lo.toNat=0:=by omega
        rw[this,Nat.zero_mul]
       ·rw[q6,Nat.mul_zero]
      ·right
       refine ⟨q6,?_⟩;obtain ⟨cs,el,fz,p1,p2,p3⟩:=q8;refine ⟨cs,el,fz,p1,?_,p3⟩;simp only at p2 ⊢;rw[hlen];have:(lo.toNat+(hi.toNat-lo.toNat))*u.size≤y.length*u.size:=Nat.mul_le_mul_right _ (by omega);rw[Nat.add_mul]at this;omega
     ·rw[hlen]at hi;rw[zYTa h hi];have:=q7 (lo.toNat+i) (by omega);simp only at this ⊢
      rwa [Nat.add_mul,←Nat.add_assoc]at this
 |o m =>
  simp only[rep]at hr ⊢;obtain ⟨A1,cap1,q1,q2,q3,q4,q5⟩:=hr;rw[h0]at q1;obtain ⟨rfl,_,rfl⟩:A=A1∧y.length=y.length∧cap=cap1:=by simpa using q1
  refine ⟨(if cap=lo.toNat then A else A.map (·.add (lo.toNat * u.size))),cap-lo.toNat,?_,?_,?_,?_,fun A' hA=>?_⟩
  ·rw[hcv,hlen]; rfl
  ·rw[hlen]; omega
  ·omega
  ·intro hn;cases A with
   |none=>have:=q4 rfl; omega
   |some A =>
    split at hn
    ·cases hn
    ·simp at hn
  ·cases A with
   |none=>split at hA<;>simp at hA
   |some A =>
    obtain ⟨hsp,q6,q7,fs,q8,q9,q10⟩:=q5 A rfl;have hzero:hi.toNat-lo.toNat=0→A'=A→cap-lo.toNat=0→(0<cap-lo.toNat→A'.spot=none)∧fq A'.block∧zTga w A'.block (A'.off+(cap-lo.toNat)*u.size) true∧∃fs:Nat→Blks,Disj fs∧(∀i b,fs i b→fq b∧b≠A'.block) ∧
      ∀i,i<(rng y lo hi).length→rep F w u m ((rng y lo hi).getD i u.dflt) (rowW w A'.block (A'.off+i*u.size)) (fs i):=by
     rintro hz rfl hz2
     refine ⟨fun hc=>by omega,q6,?_,fun _ _=>False,⟨fun _ _ _ _ hb=>hb.elim⟩,fun _ _ hb=>hb.elim,fun i hi=>?_⟩
     ·obtain ⟨cs,el,fz,p1,p2,p3⟩:=q7;exact ⟨cs,el,fz,p1,by rw[hz2]; omega,p3⟩
     ·rw[hlen]at hi; omega
    by_cases hcl:cap=lo.toNat
    ·rw[if_pos hcl]at hA;cases hA;exact hzero (by omega) rfl (by omega)
    replace hsp:=hsp (by omega)
    obtain ⟨b,k,sp⟩:=A;simp only at hsp;subst hsp;rw[if_neg hcl]at hA;simp only[Option.map_some,Option.some.injEq,zSfa]at hA;subst hA;simp only at q6 q7 q9 q10 ⊢;refine ⟨fun _=>trivial,q6,?_,fun i=>fs (lo.toNat+i),⟨fun i j hij b hb hb'=>q8.disj _ _ (by omega) b hb hb'⟩,fun i b hb=>q9 _ b hb,fun i hi=>?_⟩
    ·obtain ⟨cs,el,fz,p1,p2,p3⟩:=q7;refine ⟨cs,el,fz,p1,?_,p3⟩;have:(lo.toNat+(cap-lo.toNat))*u.size=cap*u.size:=by congr 1; omega
     rw[Nat.add_mul]at this;omega
    ·rw[hlen]at hi;rw[zYTa h hi];have:=q10 (lo.toNat+i) (by omega)
     rwa [Nat.add_mul,←Nat.add_assoc]at this
theorem PartOf.rep {F:Blks} {w:World} {c':Cells} {t:Ty} {m:Md} {y0 y:t.I} {val:Value} {fq:Blks} (h:PartOf c' t y0 y val) (hm:m ≠ .j) (hr:Trm.rep F w t m y0 c' fq):isV t val∧Trm.rep F w t m y (cv val) fq:=by
 cases h with
 |all =>
  have h1':t.agg=false→one (c' 0):=fun ha=>zJwa hr hm ha
  exact ⟨zOva h1',zEaa (fun j hj=>(zPxa h1' j hj).symm) hr⟩
 |cut e u y lo hi A cap h0 h1=>exact ⟨by simp only[isV,valOf,Ty.agg,Bool.false_eq_true,if_false]; rfl,zJZa hm hr h0 h1⟩
section
variable {P:Program} {env:Env} {e:Entry} {F:Blks} {w:World} {st:St} {V:Nat→Value} {fp:Nat→Blks} {fl:Blks} {a:Act} {T:TypeId} {x:Operand} {α R:Type} {K:α→St→Option R} {res:R} {C:Cx R} {gh:Nat→Value}
theorem zmfa {k:SV→RM α} (h:(rdO env T x k).run C st K=some res) :
  ∃sv,(k sv).run C st K=some res∧((∃t,x = .tmp t∧t<env.n∧sv=st (env.b+t))∨(∃c,x = .const c∧sv=cst env T c)∨(∃f,x = .func f∧sv = .fn f [] [])):=by
 unfold rdO at h;split at h
 ·split at h
  ·rename_i t hb;exact ⟨_,h,.inl ⟨_,rfl,Nat.lt_of_lt_of_le (Nat.lt_succ_self _) (Nat.le_of_ble_eq_true hb),rfl⟩⟩
  ·simp[RM.run]at h
 ·exact ⟨_,h,.inr (.inl ⟨_,rfl,rfl⟩)⟩
 ·exact ⟨_,h,.inr (.inr ⟨_,rfl,rfl⟩)⟩
 ·simp[RM.run]at h
theorem zWZa {k:IntKind} {n:Int} (h:inK k n=true):k.has n:=by
 simp only[inK,Bool.and_eq_true,decide_eq_true_eq]at h;exact h
theorem zGMa {c:Value} {t:Ty} {m:Md} {y:t.I} (h:cst env T c = .v t m y):isV t c∧m ≠ .j∧rep F w t m y (cv c) (fun _=>False):=by
 unfold cst at h;split at h
 ·split at h
  ·rename_i hk;cases h;refine ⟨rfl,nofun,?_⟩;simp only[rep];exact ⟨rfl,zWZa hk⟩
  ·cases h
 ·cases h;exact ⟨rfl,nofun,by simp only[rep]; rfl⟩
 ·cases h;exact ⟨rfl,nofun,by simp only[rep]; rfl⟩
 ·split at h
  ·rename_i hz;cases h;refine ⟨rfl,nofun,?_⟩;simp only[rep];have hz':=Nat.le_of_ble_eq_true hz;unfold most at hz';exact ⟨rfl,by omega⟩
  ·cases h
 ·split at h
  ·cases h;refine ⟨rfl,nofun,?_⟩;simp only[rep];exact ⟨none,0,rfl,Nat.le_refl _,by decide,fun _=>rfl,nofun⟩
  ·cases h
 ·split at h
  ·cases h;refine ⟨rfl,nofun,?_⟩;simp only[rep];exact ⟨none,rfl,rfl⟩
  ·cases h
 ·cases h
theorem zFMa {k:(t:Ty)→Md→t.I→Src→RM α} (hS:SR e F w st V fp fl) (hA:AR env gh a V) {sv:SV} (hx:(∃t,x = .tmp t∧t<env.n∧sv=st (env.b+t))∨(∃c,x = .const c∧sv=cst env T c)∨(∃f,x = .func f∧sv = .fn f [] [])) (h1:(zlRa sv (self env x) k).run C st K=some res) :
  ∃t m y src,(k t m y src).run C st K=some res∧DataX F w st V (a.eval x) t m y src∧(src=none∨∃s,x = .tmp s):=by
 rcases hx with ⟨s,rfl,hs,rfl⟩|⟨c,rfl,rfl⟩|⟨f,rfl,rfl⟩
 ·have hev:a.eval (.tmp s)=V (env.b+s):=hA.tmps s hs;have hsv:=hS.sv (env.b+s);rw[hev];unfold zlRa at h1;split at h1
  ·rename_i t y hst;rw[hst]at hsv;exact ⟨t,.s,y,none,h1,⟨hsv.1 nofun,nofun,rep_s hsv.2⟩,.inl rfl⟩
  ·simp[RM.run]at h1
  ·rename_i t m y hm1 hm2 hst;have hm:m ≠ .j:=fun hc=>by subst hc; exact hm2 rfl
   rw[hst]at hsv;refine ⟨t,m,y,some (env.b+s,[]),h1,⟨hm,t,m,y,hst,by simp[getP],by simp[ownP],by simp[inP],cv (V (env.b+s)),none,by simp[rs],hsv.1 hm⟩,.inr ⟨s,rfl⟩⟩
  ·rename_i r p hst;rw[hst]at hsv;simp only[RM.run]at h1;split at h1
   ·rename_i t0 m0 x0 hr;obtain ⟨a1,a2,u1,c1,ad,a3,a4⟩:=hsv t0 m0 x0 hr;have hrr:=hS.sv r;rw[hr]at hrr;split at h1
    ·rename_i u y hg;obtain ⟨c2,ad2,fp2,b1,b2,b3⟩:=zrEa (ad:=none) hrr.2 hg a2 nofun;rw[a3]at b1;simp only[Option.some.injEq,Prod.mk.injEq]at b1;obtain ⟨rfl,rfl,rfl⟩:=b1;have h1':u1.agg=false→one (c1 0):=fun ha=>zJwa b2 nofun ha
     refine ⟨u1,.s,y,none,h1,⟨?_,nofun,?_⟩,.inl rfl⟩
     ·rw[a4]; exact zOva h1'
     ·rw[a4]; exact rep_s (zEaa (fun j hj=>(zPxa h1' j hj).symm) b2)
    ·simp[RM.run]at h1
    ·rename_i u mu y hm1 hm2 hg;have hm:mu ≠ .j:=fun hc=>by subst hc; exact hm2 rfl
     obtain ⟨c2,ad2,fp2,b1,b2,b3⟩:=zrEa (ad:=none) hrr.2 hg a2 hm;rw[a3]at b1;simp only[Option.some.injEq,Prod.mk.injEq]at b1;obtain ⟨rfl,rfl,rfl⟩:=b1;exact ⟨u1,mu,y,some (r,p),h1,⟨hm,t0,m0,x0,hr,hg,a1,a2,c1,ad,a3,a4⟩,.inr ⟨s,rfl⟩⟩
    ·simp[RM.run]at h1
   ·simp[RM.run]at h1
  ·simp[RM.run]at h1
 ·have hev:a.eval (.const c)=c:=rfl;rw[hev];unfold zlRa at h1;split at h1
  ·rename_i t y hst;exact ⟨t,.s,y,none,h1,zGMa hst,.inl rfl⟩
  ·simp[RM.run]at h1
  ·rename_i t m y hm1 hm2 hst;exact ⟨t,m,y,none,h1,zGMa hst,.inl rfl⟩
  ·rename_i r p hst;unfold cst at hst
   (repeat' split at hst)<;>cases hst
  ·simp[RM.run]at h1
 ·simp[zlRa,RM.run]at h1
theorem zc2a {k:(t:Ty)→Md→t.I→Src→RM α} (hS:SR e F w st V fp fl) (hA:AR env gh a V) (h:(rdX env T x k).run C st K=some res) :
  ∃t m y src,(k t m y src).run C st K=some res∧DataX F w st V (a.eval x) t m y src∧(src=none∨∃s,x = .tmp s):=by
 obtain ⟨sv,h1,hx⟩:=zmfa h;exact zFMa hS hA hx h1
theorem zaWa {k:(t:Ty)→Md→t.I→Src→RM α} (hS:SR e F w st V fp fl) (hA:AR env gh a V) {sv:SV} (hx:(∃t,x = .tmp t∧t<env.n∧sv=st (env.b+t))∨(∃c,x = .const c∧sv=cst env T c)∨(∃f,x = .func f∧sv = .fn f [] [])) (h1:(deref sv (self env x) k).run C st K=some res) :
  ∃t m y src,(k t m y src).run C st K=some res∧DataAt F w st V (a.eval x) t m y src∧(src=none∨∃s,x = .tmp s)∧((∀r p l h,sv ≠ .sub r p l h)→DataX F w st V (a.eval x) t m y src):=by
 unfold deref at h1;split at h1
 ·rename_i r p lo hi;rcases hx with ⟨s,rfl,hs,h3⟩|⟨c,rfl,h3⟩|⟨f,rfl,h3⟩
  ·have hev:a.eval (.tmp s)=V (env.b+s):=hA.tmps s hs;have hsv:=hS.sv (env.b+s);rw[←h3]at hsv;rw[hev];simp only[RM.run]at h1;split at h1
   ·rename_i t0 m0 x0 hr;obtain ⟨a1,a2,u1,c1,ad,a3,e0,u0,A,n,cap,rfl,b1,b2,b3,b4,b5⟩:=hsv t0 m0 x0 hr;have hrr:=hS.sv r;rw[hr]at hrr;have hlen:∀ {m:Md} {y:List u0.I} {fq:Blks},m ≠ .j→rep F w (.sl e0 u0) m y c1 fq→c1 0 = .slice A y.length cap∧n=y.length:=by
     intro m y fq hm hr;have:∃A' cap',c1 0 = .slice A' y.length cap':=by cases m<;>simp only[rep]at hr<;>first|exact absurd rfl hm|(obtain ⟨A',cap',q,_⟩:=hr; exact ⟨A',cap',q⟩)
     obtain ⟨A',cap',q⟩:=this;rw[b1]at q;simp only[Value.slice.injEq]at q;obtain ⟨rfl,rfl,rfl⟩:=q;exact ⟨b1,rfl⟩
    split at h1
    ·rename_i e1 u mu y hg;split at h1
     ·obtain ⟨c2,ad2,fp2,d1,d2,d3⟩:=zrEa (ad:=none) hrr.2 hg a2 nofun;rw[a3]at d1;simp only[Option.some.injEq,Prod.mk.injEq]at d1;obtain ⟨d0,rfl,rfl⟩:=d1;cases d0;obtain ⟨k1,hn⟩:=hlen (m := .s) (y:=y) nofun d2;subst hn;refine ⟨_,.s,_,none,h1,⟨?_,nofun,?_⟩,.inl rfl,fun hc=>absurd rfl (hc _ _ _ _)⟩
      ·rw[b5]; rfl
      ·rw[b5]; exact rep_s (zJZa nofun d2 k1 ⟨b2,b3,b4⟩)
     ·simp[RM.run]at h1
     ·rename_i hm1 hm2;have hm:mu ≠ .j:=fun hc=>hm2 hc
      obtain ⟨c2,ad2,fp2,d1,d2,d3⟩:=zrEa (ad:=none) hrr.2 hg a2 hm;rw[a3]at d1;simp only[Option.some.injEq,Prod.mk.injEq]at d1;obtain ⟨d0,rfl,rfl⟩:=d1;cases d0;obtain ⟨k1,hn⟩:=hlen (y:=y) hm d2;subst hn;refine ⟨_,mu,_,some (r,p),h1,⟨hm,t0,m0,x0,hr,y,hg,a1,a2,c1,ad,a3,?_⟩,.inr ⟨s,rfl⟩,fun hc=>absurd rfl (hc _ _ _ _)⟩;rw[b5];exact .cut _ _ y lo hi A cap k1 ⟨b2,b3,b4⟩
    ·simp[RM.run]at h1
   ·simp[RM.run]at h1
  ·unfold cst at h3; (repeat' split at h3)<;>cases h3
  ·cases h3
 ·obtain ⟨t,m,y,src,q1,q2,q3⟩:=zFMa hS hA hx h1;exact ⟨t,m,y,src,q1,q2.at,q3,fun _=>q2⟩
theorem zhja {k:(t:Ty)→Md→t.I→Src→RM α} (hS:SR e F w st V fp fl) (hA:AR env gh a V) (h:(rdV env T x k).run C st K=some res) :
  ∃t m y src,(k t m y src).run C st K=some res∧DataAt F w st V (a.eval x) t m y src∧(src=none∨∃s,x = .tmp s):=by
 obtain ⟨sv,h1,hx⟩:=zmfa h;obtain ⟨t,m,y,src,q1,q2,q3,_⟩:=zaWa hS hA hx h1;exact ⟨t,m,y,src,q1,q2,q3⟩
theorem DataAt.rep {val:Value} {t:Ty} {m:Md} {y:t.I} {src:Src} (hS:SR e F w st V fp fl) (h:DataAt F w st V val t m y src) :
  isV t val∧m ≠ .j∧∃fq:Blks,Trm.rep F w t m y (cv val) fq∧(∀b,fq b→∃r p,src=some (r,p)∧fp r b):=by
 cases src with
 |none=>exact ⟨h.1,h.2.1,_,h.2.2,fun _ h=>h.elim⟩
 |some q =>
  obtain ⟨r,p⟩:=q;obtain ⟨hm,t0,m0,x0,h1,y0,h2,h3,h4,c',ad,h5,h6⟩:=h;have hrr:=hS.sv r;rw[h1]at hrr;obtain ⟨c2,ad2,fp2,b1,b2,b3⟩:=zrEa (ad:=none) hrr.2 h2 h4 hm;rw[h5]at b1;simp only[Option.some.injEq,Prod.mk.injEq,true_and]at b1;obtain ⟨rfl,rfl⟩:=b1;obtain ⟨k1,k2⟩:=h6.rep hm b2;exact ⟨k1,hm,fp2,k2,fun b hb=>⟨r,p,rfl,b3 b hb⟩⟩
theorem DataX.rep {val:Value} {t:Ty} {m:Md} {y:t.I} {src:Src} (hS:SR e F w st V fp fl) (h:DataX F w st V val t m y src) :
  isV t val∧m ≠ .j∧∃fq:Blks,Trm.rep F w t m y (cv val) fq∧(∀b,fq b→∃r p,src=some (r,p)∧fp r b):=h.at.rep hS
end
end Go.Trm
namespace Go.Trm
theorem zxta {F F':Blks} {w:World} (hF:∀b,F b→F' b):∀ {t:Ty} {m:Md} {x:t.I} {c:Cells} {fq:Blks},rep F w t m x c fq→m.noJ=true→(∀b,fq b→F' b)→rep F' w t .s x c (fun _=>False):=by
 intro t
 induction t with
 |sl e t ih =>
  intro m (x:List t.I) c fq h hm hq;cases m with
  |s=>exact zxaa hF (fun _ _=>rfl) (fun _ hb=>hb.elim) (rep_s h)
  |o m =>
   simp only[rep]at h ⊢;obtain ⟨A,cap,h1,h2,h3,h4,r⟩:=h;refine ⟨A,cap,h1,h2,h3,h4,fun a ha=>?_⟩;obtain ⟨hsp,r1,r2,fs,r3,r4,r5⟩:=r a ha;refine ⟨hsp,.inr ⟨hq _ r1,?_⟩,fun i hi=>ih (r5 i hi) hm (fun b hb=>hq _ (r4 i b hb).1)⟩;obtain ⟨cs,el,fz,k1,k2,_⟩:=r2;have:List.length x*t.size≤cap*t.size:=Nat.mul_le_mul_right _ h2;exact ⟨cs,el,fz,k1,by omega,nofun⟩
  |j=>cases hm
  |p _ _ =>
   simp only[rep]at h ⊢;obtain ⟨A,cap,h1,h2,h3,h4,r⟩:=h;exact ⟨A,cap,h1,h2,h3,h4,fun a ha=>((r a ha).2).elim⟩
 |ptr e t ih =>
  intro m x c fq h hm hq;cases m with
  |s=>exact zxaa hF (fun _ _=>rfl) (fun _ hb=>hb.elim) (rep_s h)
  |o m =>
   simp only[rep]at h ⊢;obtain ⟨A,h1,r⟩:=h;refine ⟨A,h1,?_⟩;cases x with
   |none=>exact r
   |some y =>
    obtain ⟨a,ha,hsp,r1,r2,f,r4,r5⟩:=r;obtain ⟨cs,el,fz,k1,k2,_⟩:=r2;exact ⟨a,ha,hsp,hq _ r1,⟨cs,el,fz,k1,k2,nofun⟩,ih r5 hm (fun b hb=>hq _ (r4 b hb).1)⟩
  |j=>cases hm
  |p _ _ =>
   simp only[rep]at h ⊢;obtain ⟨A,h1,r⟩:=h;refine ⟨A,h1,?_⟩;cases x with
   |none=>exact r
   |some y=>obtain ⟨a,ha,hsp,r⟩:=r; exact r.elim
 |pair a b iha ihb =>
  intro m x c fq h hm hq;obtain ⟨fa,fb,h1,h2,h3,ra,rb⟩:=zaka h;have hm':m.fst.noJ=true∧m.snd.noJ=true:=by
   cases m<;>simp only[Md.noJ,Md.fst,Md.snd,Bool.and_eq_true,Bool.false_eq_true]at hm ⊢<;>first|exact ⟨trivial,trivial⟩|exact hm|exact ⟨hm,hm⟩
  simp only[rep,Md.fst,Md.snd];exact ⟨_,_,fun _ h=>h,fun _ h=>h,fun _ h=>h.elim,iha ra hm'.1 (fun b hb=>hq _ (h1 b hb)),ihb rb hm'.2 (fun b hb=>hq _ (h2 b hb))⟩
 |arr n t ih =>
  intro m x c fq h hm hq;have hm':m.el.noJ=true:=by
   cases m<;>first|exact hm|cases hm
  have hj':m ≠ .j:=by rintro rfl; simp[Md.noJ]at hm
  have key:List.length (x:List t.I)=n∧∃fs:Nat→Blks,(∀i b,fs i b→fq b)∧∀i,i<n→rep F w t m.el (List.getD (x:List t.I) i t.dflt) (fun j=>c (i*t.size+j)) (fs i):=by
   cases m with
   |j=>exact absurd rfl hj'
   |_=>simp only[rep]at h; obtain ⟨hn,fs,_,h2,r⟩:=h; exact ⟨hn,fs,h2,r⟩
  obtain ⟨hn,fs,h2,r⟩:=key;simp only[rep,Md.el];exact ⟨hn,fun _ _=>False,⟨fun _ _ _ _ h=>h.elim⟩,fun _ _ h=>h.elim,fun i hi=>ih (r i hi) hm' (fun b hb=>hq _ (h2 i b hb))⟩
 |_=>intro m x c fq h hm hq; cases m<;>simp only[rep]at h ⊢<;>first|exact h|cases hm
theorem zgWa (w:World) (u:Ty) (ad:Option (Nat×Nat)):ChgW w w u ad:=by
 cases ad with
 |none=>exact fun b=>rfl
 |some bo=>exact ⟨fun _ _=>rfl,fun _ _=>rfl,fun _ _ h=>h⟩
section
variable {P:Program} {env:Env} {e:Entry} {F:Blks} {w:World} {st:St} {V:Nat→Value} {fp:Nat→Blks} {fl:Blks} {a:Act} {T:TypeId} {x:Operand} {α R:Type} {K:α→St→Option R} {res:R} {C:Cx R} {gh:Nat→Value}
theorem SR.less (h:SR e F w st V fp fl) {fl':Blks} (hf:∀b,fl' b→fl b):SR e F w st V fp fl' :=
 ⟨h.sv,h.disj,h.notF,h.inH,h.inF,fun i b h1 h2=>h.flD i b h1 (hf _ h2),fun b hb=>h.flF b (hf _ hb),fun b hb=>h.flH b (hf _ hb),h.g1,h.g2,h.g3,fun b hb=>h.g4 b (hf _ hb),h.g5,h.g6⟩
theorem SR.moreF {F' fl':Blks} (h:SR e F w st V fp fl) (hF:∀b,F b→F' b) (hF':∀b,F' b→F b∨fl b) (h1:∀b,fl' b→fl b) (h2:∀b,fl' b→¬F' b):SR e F' w st V fp fl':=by
 refine ⟨fun i=>?_,h.disj,fun i b hb hc=>?_,h.inH,fun b hb=>?_,fun i b hb hc=>h.flD i b hb (h1 b hc),h2,fun b hb=>h.flH b (h1 b hb),h.g1,h.g2,h.g3,fun b hb=>h.g4 b (h1 b hb),fun b hb=>hF b (h.g5 b hb),fun b hb=>?_⟩
 ·have hs:=h.sv i;cases hsi:st i with
  |v t1 m1 x1=>rw[hsi]at hs; exact ⟨hs.1,zxaa hF (fun _ _=>rfl) (fun _ _=>rfl) hs.2⟩
  |tup l =>
   rw[hsi]at hs;obtain ⟨vs,e1,e2,fs,e3,e4,e5⟩:=hs;refine ⟨vs,e1,e2,fs,e3,e4,fun k t1 m1 x1 hk=>?_⟩;obtain ⟨u1,k1,k2,k3⟩:=e5 k t1 m1 x1 hk;exact ⟨u1,k1,k2,zxaa hF (fun _ _=>rfl) (fun _ _=>rfl) k3⟩
  |al r q=>rw[hsi]at hs; exact hs
  |lz r q=>rw[hsi]at hs; exact hs
  |sub r q lo hi=>rw[hsi]at hs; exact hs
  |fn f s caps =>
   rw[hsi]at hs;obtain ⟨us,vs,e1,e2,e3⟩:=hs;have hbx:∀r u,BxOk F w V r u→BxOk F' w V r u:=fun r u hb=>hb.imp hF (fun _ _=>rfl) (fun _=>rfl)
   exact ⟨us,vs,e1,e2.imp hbx fun q u _ hq=>hq,e3.imp hbx fun q u _ hq=>hq⟩
  |bx r q=>rw[hsi]at hs; exact BxOk.imp hs hF (fun _ _=>rfl) (fun _=>rfl)
  |ifc T t1 x1 =>
   rw[hsi]at hs;obtain ⟨u,e1,e2,e3,e4⟩:=hs;exact ⟨u,e1,e2,e3,zxaa hF (fun _ _=>rfl) (fun _ _=>rfl) e4⟩
  |nil=>rw[hsi]at hs; exact hs
  |un=>trivial
 ·rcases hF' b hc with hc|hc
  ·exact h.notF i b hb hc
  ·exact h.flD i b hb hc
 ·rcases hF' b hb with hb|hb
  ·exact h.inF b hb
  ·exact h.flH b hb
 ·rcases hF' b hb with hb|hb
  ·exact h.g6 b hb
  ·exact .inr (h.g4 b hb)
theorem zAsa {val:Value} {t:Ty} {m:Md} {y:t.I} {src:Src} {k:RM α} (hS:SR e F w st V fp fl) (hd:DataAt F w st V val t m y src) (h:(take src k).run C st K=some res) :
  ∃st' fp' fq,k.run C st' K=some res∧SR e F w st' V fp' (fun b=>fl b∨fq b)∧isV t val∧m ≠ .j∧rep F w t m y (cv val) fq∧(∀b,fq b→¬fl b)∧(∀r',src=none∨(∃r p,src=some (r,p)∧r'≠r)→∀t0 m0 x0,st' r' = .v t0 m0 x0↔st r' = .v t0 m0 x0):=by
 cases src with
 |none=>exact ⟨st,fp,fun _=>False,h,hS.less (fun b hb=>by rcases hb with hb|hb; exact hb; exact hb.elim),hd.1,hd.2.1,hd.2.2,fun _ hb=>hb.elim,fun _ _ _ _ _=>Iff.rfl⟩
 |some q =>
  obtain ⟨r,p⟩:=q;obtain ⟨hv,hm,fq0,hrep,hfq⟩:=hd.rep hS;obtain ⟨_,t0,m0,x0,h1,y0,h2,h3,h4,c',ad,h5,h6⟩:=hd;simp only[take,RM.run,h1,h2]at h;split at h
  ·rename_i m' x' hset;simp only[RM.run]at h;have hrr:=hS.sv r;rw[h1]at hrr;obtain ⟨fold,P⟩:=zA0a hrr.2 (hS.inH r) hS.inF h4 h3 h5;obtain ⟨mo,yo,g1,g2⟩:=P.old;rw[h2]at g1;simp only[Option.some.injEq]at g1;cases g1;have hm0:m0 ≠ .j:=fun hc=>by subst hc; exact hm (zbVa h2)
   have h1':t.agg=false→one (c' 0):=fun ha=>zJwa g2 hm ha
   refine ⟨_,_,fold,h,(hS.place h1 hm0 P h4 h3 h5 hset (fun _ hb=>hb) rfl (Still.refl _) (zgWa _ _ _) (fq:=fun _=>False) (fl':=fun b=>fl b∨fold b) rep_j (fun _ hb=>hb.elim) (fun b hb=>⟨hb,fun h=>h⟩) (fun b hb => .inl hb)),hv,hm,?_,?_,?_⟩
   ·exact (h6.rep hm g2).2
   ·exact fun b hb=>hS.flD _ _ (P.sub _ hb)
   ·rintro r' (hc|⟨r1,p1,hc,hr'⟩) t1 m1 x1
    ·cases hc
    ·cases hc;rw[zsba hr'];exact zYYa
  ·simp[RM.run]at h
theorem zbua {val:Value} {t:Ty} {m:Md} {y:t.I} {src:Src} {k:RM α} (hS:SR e F w st V fp fl) (hd:DataAt F w st V val t m y src) (hn:src=none→m = .s) (h:(zDra src k).run C st K=some res) :
  ∃st' fp' F',k.run C st' K=some res∧SR e F' w st' V fp' fl∧(∀b,F b→F' b)∧isV t val∧rep F' w t .s y (cv val) (fun _=>False):=by
 cases src with
 |none=>obtain rfl:=hn rfl; exact ⟨st,fp,F,h,hS,fun _ hb=>hb,hd.1,rep_s hd.2.2⟩
 |some q =>
  obtain ⟨r,p⟩:=q;obtain ⟨hv,hm,fq0,hrep,hfq⟩:=hd.rep hS;obtain ⟨_,t0,m0,x0,h1,y0,h2,h3,h4,c',ad,h5,h6⟩:=hd;simp only[zDra,RM.run,h1,h2]at h;split at h
  ·rename_i m' x' hnj hset;simp only[RM.run]at h;have hrr:=hS.sv r;rw[h1]at hrr;obtain ⟨fold,P⟩:=zA0a hrr.2 (hS.inH r) hS.inF h4 h3 h5;obtain ⟨mo,yo,g1,g2⟩:=P.old;rw[h2]at g1;simp only[Option.some.injEq]at g1;cases g1;have hm0:m0 ≠ .j:=fun hc=>by subst hc; exact hm (zbVa h2)
   have h1':t.agg=false→one (c' 0):=fun ha=>zJwa g2 hm ha
   have hfz:rep (fun b=>F b∨fold b) w t .s y0 c' (fun _=>False):=zxta (fun _ hb => .inl hb) g2 hnj (fun _ hb => .inr hb);have hnr:zDXa w c' ad=c':=by
    cases ad with
    |none=>rfl
    |some bo=>obtain ⟨b,o⟩:=bo; exact ((P.lies b o rfl).2.2.2).symm
   refine ⟨_,_,fun b=>F b∨fold b,h,(hS.place h1 hm0 P h4 h3 h5 hset (fun _ hb => .inl hb) rfl (Still.refl _) (zgWa _ _ _) (fq:=fun _=>False) (fl':=fl) (by rw[hnr]; exact hfz) (fun _ hb=>hb.elim) (fun b hb=>⟨.inl hb,fun h=>h⟩)
    (fun b hb=>by
     rcases hb with hb|hb
     ·exact .inl hb
     ·exact .inr ⟨.inl hb,fun h=>h,fun hc=>hS.flD _ _ (P.sub _ hb) hc⟩)),fun _ hb => .inl hb,hv,?_⟩
   exact (h6.rep (m := .s) nofun hfz).2
  ·simp[RM.run]at h
theorem AR.put {d:Nat} {v:Value} (hA:AR env gh a V) (hd:d<env.n):AR env gh (a.put (some d) v) (updV V (env.b+d) v):=by
 have hl:=hA.lim;refine ⟨by simp[Act.put,hA.size],fun i hi=>?_,?_,hA.lim,fun i hi=>?_⟩
 ·simp only[Act.put,updV];by_cases hid:i=d
  ·subst hid;have:i<a.tmps.size:=by rw[hA.size]; exact hi
   simp[Array.getD,this]
  ·rw[if_neg (by omega),←hA.tmps i hi];have h2:i<a.tmps.size:=by rw[hA.size]; exact hi
   simp only[Array.getD_eq_getD_getElem?];rw[Array.getElem?_setIfInBounds_ne (Ne.symm hid)]
 ·have h1:updV V (env.b+d) v (env.b+env.n)=V (env.b+env.n):=by unfold updV; rw[if_neg (by omega)]
  rw[h1];exact hA.defers
 ·unfold updV;rw[if_neg (by omega)];exact hA.keep i hi
theorem zsta {d n:Nat} (h:Nat.blt d n=true):d<n:=Nat.lt_of_lt_of_le (Nat.lt_succ_self _) (Nat.le_of_ble_eq_true h)
theorem AR.gd {d:Nat} {v:Value} (hA:AR env gh a V) (hd:d<env.n):gh0≤env.b+d→v=V (env.b+d):=fun hc=>absurd hc (by have:=hA.lim; omega)
theorem zmHa {o:Oper} {t:Ty} {m:Md} {y:t.I} {v:Value} {fq:Blks} {K:Unit→St→Option R} (hS:SR e F w st V fp fl) (hA:AR env gh a V) (h:(fin env o (.v t m y)).run C st K=some res) (hv:m ≠ .j→isV t v) (hrep:rep F w t m y (cv v) fq) (hq:∀b,fq b→fl b) :
  ∃st' V' fp' F',K () st'=some res∧SR e F' w st' V' fp' (fun _=>False)∧AR env gh (a.put o.dst v) V':=by
 unfold fin at h;split at h
 ·rename_i d hd;split at h
  ·rename_i hb;simp only[frz]at h;split at h
   ·rename_i hz;simp only[Bool.and_eq_true]at hz;simp only[setS,RM.run]at h;have hm:m ≠ .j:=by rintro rfl; cases hz.2
    have hS1:=hS.moreF (F':=fun b=>F b∨fq b) (fl':=fun b=>fl b∧¬fq b) (fun b hb => .inl hb) (fun b hb=>hb.imp id (hq b)) (fun b hb=>hb.1) (fun b hb hc=>by
     rcases hc with hc|hc
     ·exact hS.flF b hb.1 hc
     ·exact hb.2 hc)
    refine ⟨_,_,_,_,h,(hS1.fillV (fq:=fun _=>False) (fl':=fun _=>False) (hA.gd (zsta hb)) (fun _=>hv hm) (zxta (fun b hb => .inl hb) hrep hz.2 (fun b hb => .inr hb)) (fun _ hb=>hb.elim) (fun _ hb=>hb.elim)),?_⟩;rw[hd]; exact hA.put (zsta hb)
   ·simp only[setS,RM.run]at h;refine ⟨_,_,_,_,h,(hS.fillV (hA.gd (zsta hb)) hv hrep hq (fl':=fun b=>fl b∧¬fq b) (fun b hb=>hb)).less (fun _ hb=>hb.elim),?_⟩;rw[hd]; exact hA.put (zsta hb)
  ·simp[RM.run]at h
 ·rename_i hd;simp only[RM.run]at h;exact ⟨st,V,fp,F,h,hS.less (fun _ hb=>hb.elim),by rw[hd]; exact hA⟩
theorem zbwa {o:Oper} {sv:SV} {v:Value} {fq:Blks} {K:Unit→St→Option R} (hS:SR e F w st V fp fl) (hA:AR env gh a V) (hn:notV sv=true) (h:(fin env o sv).run C st K=some res) (hsv:svR F w st V fq v sv) (hq:∀b,fq b→fl b) :
  ∃st' V' fp',K () st'=some res∧SR e F w st' V' fp' (fun _=>False)∧AR env gh (a.put o.dst v) V':=by
 unfold fin at h;split at h
 ·rename_i d hd;split at h
  ·rename_i hb;have h':K () (st.put (env.b+d) sv)=some res:=by
    cases sv<;>first|(cases hn; done)|(simp only[frz,setS,RM.run]at h; exact h)
   refine ⟨_,_,_,h',(hS.fillO (hA.gd (zsta hb)) hn hsv hq (fl':=fun b=>fl b∧¬fq b) (fun b hb=>hb)).less (fun _ hb=>hb.elim),?_⟩;rw[hd]; exact hA.put (zsta hb)
  ·simp[RM.run]at h
 ·rename_i hd;simp only[RM.run]at h;exact ⟨st,V,fp,h,hS.less (fun _ hb=>hb.elim),by rw[hd]; exact hA⟩
end
end Go.Trm
namespace Go.Trm
theorem zqEa {F F':Blks} {w:World} (hF:∀b,F b→F' b) {t:Ty} {m:Md} {x:t.I} {c:Cells} {fp:Blks} (h:rep F w t m x c fp):rep F' w t m x c fp :=
 zxaa hF (fun _ _=>rfl) (fun _ _=>rfl) h
theorem zUYa {F:Blks} {w:World} {t:Ty} {m:Md} {x:t.I} {c:Cells} {fq:Blks} (h:rep F w t m x c fq) (hm:m.noJ=true):∃fp':Blks,(∀b,fp' b→fq b)∧rep (fun b=>F b∨(fq b∧¬fp' b)) w t .s x c fp' :=
 ⟨fun _=>False,fun _ h=>h.elim,zxta (fun _ hb => .inl hb) h hm (fun _ hb => .inr ⟨hb,fun h=>h⟩)⟩
theorem zy0a {F:Blks} {w:World}:∀ {t:Ty} {m m':Md} {x:t.I} {c:Cells} {fq:Blks},rep F w t m x c fq→m'.le m=true→∃fp':Blks,(∀b,fp' b→fq b)∧rep (fun b=>F b∨(fq b∧¬fp' b)) w t m' x c fp':=by
 intro t
 induction t with
 |sl e t ih =>
  intro m m' (x:List t.I) c fq h hl;cases m' with
  |s=>exact zUYa h hl
  |j=>cases hl
  |p _ _ =>
   cases m with
   |p _ _ =>
    simp only[rep]at h ⊢;obtain ⟨A,cap,h1,h2,h3,h4,r⟩:=h;exact ⟨fq,fun _ h=>h,A,cap,h1,h2,h3,h4,fun a ha=>((r a ha).2).elim⟩
   |_=>cases hl
  |o m' =>
   cases m with
   |o m =>
    have hl:m'.le m=true:=hl;simp only[rep]at h;obtain ⟨A,cap,h1,h2,h3,h4,r⟩:=h;cases A with
    |none =>
     refine ⟨fq,fun _ h=>h,?_⟩;simp only[rep];exact ⟨none,cap,h1,h2,h3,h4,fun a ha=>by cases ha⟩
    |some a =>
     obtain ⟨hsp,r1,r2,fs,r3,r4,r5⟩:=r a rfl;have hch:∀i,∃fp':Blks,(∀b,fp' b→fs i b)∧(i<x.length→rep (fun b=>F b∨(fs i b∧¬fp' b)) w t m' (x.getD i t.dflt) (rowW w a.block (a.off+i*t.size)) fp'):=fun i=>by
      by_cases hi:i<x.length
      ·obtain ⟨fp',g1,g2⟩:=ih (r5 i hi) hl;exact ⟨fp',g1,fun _=>g2⟩
      ·exact ⟨fun _=>False,fun _ h=>h.elim,fun h=>absurd h hi⟩
     have hfs:=Classical.axiomOfChoice hch;obtain ⟨fs',hfs⟩:=hfs;refine ⟨fun b=>b=a.block∨∃i,fs' i b,fun b hb=>?_,?_⟩
     ·rcases hb with rfl|⟨i,hb⟩
      ·exact r1
      ·exact (r4 i b ((hfs i).1 b hb)).1
     ·simp only[rep];refine ⟨some a,cap,h1,h2,h3,h4,fun a' ha'=>?_⟩;cases ha';refine ⟨hsp,.inl rfl,r2,fs',⟨fun i j hij b hb hb'=>r3.disj i j hij b ((hfs i).1 b hb) ((hfs j).1 b hb')⟩,fun i b hb=>⟨.inr ⟨i,hb⟩,(r4 i b ((hfs i).1 b hb)).2⟩,fun i hi=>?_⟩;refine zqEa (fun b hb=>?_) ((hfs i).2 hi);rcases hb with hb|⟨hb,hn⟩
      ·exact .inl hb
      ·refine .inr ⟨(r4 i b hb).1,?_⟩
       rintro (hc|⟨j,hc⟩)
       ·exact (r4 i b hb).2 hc
       ·by_cases hij:i=j
        ·subst hij; exact hn hc
        ·exact r3.disj i j hij b hb ((hfs j).1 b hc)
   |_=>cases hl
 |ptr e t ih =>
  intro m m' x c fq h hl;cases m' with
  |s=>exact zUYa h hl
  |j=>cases hl
  |p _ _ =>
   cases m with
   |p _ _ =>
    simp only[rep]at h ⊢;obtain ⟨A,h1,r⟩:=h;refine ⟨fq,fun _ h=>h,A,h1,?_⟩;cases x with
    |none=>exact r
    |some y=>obtain ⟨a,ha,hsp,r⟩:=r; exact r.elim
   |_=>cases hl
  |o m' =>
   cases m with
   |o m =>
    have hl:m'.le m=true:=hl;simp only[rep]at h;obtain ⟨A,h1,r⟩:=h;cases x with
    |none =>
     refine ⟨fq,fun _ h=>h,?_⟩;simp only[rep];exact ⟨A,h1,r⟩
    |some y =>
     obtain ⟨a,ha,hsp,r1,r2,f,r4,r5⟩:=r;obtain ⟨fp',g1,g2⟩:=ih r5 hl;refine ⟨fun b=>b=a.block∨fp' b,fun b hb=>?_,?_⟩
     ·rcases hb with rfl|hb
      ·exact r1
      ·exact (r4 b (g1 b hb)).1
     ·simp only[rep];refine ⟨A,h1,a,ha,hsp,.inl rfl,r2,fp',fun b hb=>⟨.inr hb,(r4 b (g1 b hb)).2⟩,zqEa (fun b hb=>?_) g2⟩;rcases hb with hb|⟨hb,hn⟩
      ·exact .inl hb
      ·refine .inr ⟨(r4 b hb).1,?_⟩
       rintro (hc|hc)
       ·exact (r4 b hb).2 hc
       ·exact hn hc
   |_=>cases hl
 |pair a b iha ihb =>
  intro m m' x c fq h hl;obtain ⟨fa,fb,h1,h2,h3,ra,rb⟩:=zaka h;have hle:m' = .s∨(m'.fst.le m.fst=true∧m'.snd.le m.snd=true):=by
   cases m' with
   |s=>exact .inl rfl
   |j=>cases hl
   |o a'=>cases m<;>first|(cases hl; done)|exact .inr ⟨hl,hl⟩
   |p a' b'=>cases m<;>first|(cases hl; done)|(simp only[Md.le,Bool.and_eq_true]at hl; exact .inr hl)
  rcases hle with rfl|⟨l1,l2⟩
  ·exact zUYa h hl
  ·obtain ⟨fa',ga1,ga2⟩:=iha ra l1;obtain ⟨fb',gb1,gb2⟩:=ihb rb l2;have hj:m' ≠ .j:=by rintro rfl; cases hl
   refine ⟨fun q=>fa' q∨fb' q,fun q hq=>?_,?_⟩
   ·rcases hq with hq|hq
    ·exact h1 _ (ga1 _ hq)
    ·exact h2 _ (gb1 _ hq)
   ·have key:∃fa fb:Blks,(∀i,fa i→(fun q=>fa' q∨fb' q) i)∧(∀i,fb i→(fun q=>fa' q∨fb' q) i)∧(∀i,fa i→¬fb i) ∧
      rep (fun q=>F q∨(fq q∧¬(fa' q∨fb' q))) w a m'.fst x.1 c fa∧rep (fun q=>F q∨(fq q∧¬(fa' q∨fb' q))) w b m'.snd x.2 (fun j=>c (a.size+j)) fb:=by
     refine ⟨fa',fb',fun _ h => .inl h,fun _ h => .inr h,fun i hi hi'=>h3 i (ga1 i hi) (gb1 i hi'),zqEa (fun q hq=>?_) ga2,zqEa (fun q hq=>?_) gb2⟩
     ·rcases hq with hq|⟨hq,hn⟩
      ·exact .inl hq
      ·exact .inr ⟨h1 q hq,fun hc=>hc.elim hn (fun hc=>h3 q hq (gb1 q hc))⟩
     ·rcases hq with hq|⟨hq,hn⟩
      ·exact .inl hq
      ·exact .inr ⟨h2 q hq,fun hc=>hc.elim (fun hc=>h3 q (ga1 q hc) hq) hn⟩
    cases m' with
    |j=>exact absurd rfl hj
    |_=>simpa only[rep] using key
 |arr n t ih =>
  intro m m' x c fq h hl;have hle:m' = .s∨m'.el.le m.el=true:=by
   cases m' with
   |s=>exact .inl rfl
   |j=>cases hl
   |o a'=>cases m<;>first|(cases hl; done)|exact .inr hl
   |p a' b'=>cases m<;>first|(cases hl; done)|exact .inr hl
  rcases hle with rfl|hle
  ·exact zUYa h hl
  ·have hj:m' ≠ .j:=by rintro rfl; cases hl
   have hj0:m ≠ .j:=by
    rintro rfl
    cases m'<;>cases hl
   have key:List.length (x:List t.I)=n∧∃fs:Nat→Blks,Disj fs∧(∀i b,fs i b→fq b)∧∀i,i<n→rep F w t m.el (List.getD (x:List t.I) i t.dflt) (fun j=>c (i*t.size+j)) (fs i):=by
    cases m with
    |j=>exact absurd rfl hj0
    |_=>simpa only[rep] using h
   obtain ⟨hn,fs,hd,h2,r⟩:=key;have hch:∀i,∃fp':Blks,(∀b,fp' b→fs i b)∧(i<n→rep (fun b=>F b∨(fs i b∧¬fp' b)) w t m'.el (List.getD (x:List t.I) i t.dflt) (fun j=>c (i*t.size+j)) fp'):=fun i=>by
    by_cases hi:i<n
    ·obtain ⟨fp',g1,g2⟩:=ih (r i hi) hle;exact ⟨fp',g1,fun _=>g2⟩
    ·exact ⟨fun _=>False,fun _ h=>h.elim,fun h=>absurd h hi⟩
   obtain ⟨fs',hfs⟩:=Classical.axiomOfChoice hch;refine ⟨fun b=>∃i,fs' i b,fun b ⟨i,hb⟩=>h2 i b ((hfs i).1 b hb),?_⟩;have key2:List.length (x:List t.I)=n∧∃fs2:Nat→Blks,Disj fs2∧(∀i b,fs2 i b→(fun b=>∃i,fs' i b) b)∧∀i,i<n→rep (fun b=>F b∨(fq b∧¬ ∃i,fs' i b)) w t m'.el (List.getD (x:List t.I) i t.dflt) (fun j=>c (i*t.size+j)) (fs2 i):=by
    refine ⟨hn,fs',⟨fun i j hij b hb hb'=>hd.disj i j hij b ((hfs i).1 b hb) ((hfs j).1 b hb')⟩,fun i b hb=>⟨i,hb⟩,fun i hi=>zqEa (fun b hb=>?_) ((hfs i).2 hi)⟩;rcases hb with hb|⟨hb,hn⟩
    ·exact .inl hb
    ·refine .inr ⟨h2 i b hb,?_⟩
     rintro ⟨j,hc⟩
     by_cases hij:i=j
     ·subst hij; exact hn hc
     ·exact hd.disj i j hij b hb ((hfs j).1 b hc)
   cases m' with
   |j=>exact absurd rfl hj
   |_=>simpa only[rep] using key2
 |_ =>
  intro m m' x c fq h hl;have hj0:m ≠ .j:=by
   rintro rfl
   cases m'<;>cases hl
  refine ⟨fun _=>False,fun _ h=>h.elim,?_⟩;cases m'<;>first|(cases hl; done)|(cases m<;>first|exact absurd rfl hj0|(simp only[rep]at h ⊢; first|exact h|exact trivial)|(simp only[rep]))
theorem Md.le_noJ:∀ {m' m:Md},m'.le m=true→m'.noJ=true
 | .s,_,_=>rfl
 | .j,m,h=>by cases m<;>cases h
 | .o a,m,h=>by
  cases m<;>first|(cases h; done)|exact Md.le_noJ (m':=a) h
 | .p a b,m,h=>by
  cases m<;>first|(cases h; done)|(simp only[Md.le,Bool.and_eq_true]at h; simp only[Md.noJ,Bool.and_eq_true]; exact ⟨Md.le_noJ h.1,Md.le_noJ h.2⟩)
section
variable {P:Program} {env:Env} {e:Entry} {F:Blks} {w:World} {st:St} {V:Nat→Value} {fp:Nat→Blks} {fl:Blks} {a:Act} {T:TypeId} {x:Operand} {α R:Type} {K:α→St→Option R} {res:R} {C:Cx R} {gh:Nat→Value}
theorem zbSa {t:Ty} {m m':Md} {y:t.I} {c:Cells} {fq:Blks} (hS:SR e F w st V fp fl) (hrep:rep F w t m y c fq) (hq:∀b,fq b→fl b) (hl:m'.le m=true) :
  ∃fq' F':Blks,SR e F' w st V fp (fun b=>fl b∧(fq b→fq' b))∧rep F' w t m' y c fq'∧(∀b,F b→F' b)∧(∀b,fq' b→fq b):=by
 obtain ⟨fq',g1,g2⟩:=zy0a hrep hl;refine ⟨fq',_,hS.moreF (fl':=fun b=>fl b∧(fq b→fq' b)) (fun b hb => .inl hb) (fun b hb=>hb.imp id (fun h=>hq b h.1)) (fun b hb=>hb.1) (fun b hb hc=>?_),g2,fun b hb => .inl hb,g1⟩;rcases hc with hc|hc
 ·exact hS.flF b hb.1 hc
 ·exact hc.2 (hb.2 hc.1)
theorem zZJa {val:Value} {t:Ty} {m m':Md} {y:t.I} {src:Src} {k:RM α} (hS:SR e F w st V fp fl) (hd:DataAt F w st V val t m y src) (hl:m'.le m=true) (h:(take src k).run C st K=some res) :
  ∃st' fp' fq,∃F':Blks,k.run C st' K=some res∧SR e F' w st' V fp' (fun b=>fl b∨fq b)∧(∀b,F b→F' b)∧isV t val∧m' ≠ .j∧rep F' w t m' y (cv val) fq∧(∀b,fq b→¬fl b)∧(∀r',src=none∨(∃r p,src=some (r,p)∧r'≠r)→∀t0 m0 x0,st' r' = .v t0 m0 x0↔st r' = .v t0 m0 x0):=by
 obtain ⟨st',fp',fq,h1,h2,h3,h4,h5,h6,h7⟩:=zAsa hS hd h;obtain ⟨fq',F',g1,g2,g3,g4⟩:=zbSa h2 h5 (fun b hb => .inr hb) hl;refine ⟨st',fp',fq',F',h1,g1.less (fun b hb=>?_),g3,h3,?_,g2,fun b hb=>h6 b (g4 b hb),h7⟩
 ·rcases hb with hb|hb
  ·exact ⟨.inl hb,fun hc=>absurd hb (h6 b hc)⟩
  ·exact ⟨.inr (g4 b hb),fun _=>hb⟩
 ·rintro rfl; have:=Md.le_noJ hl; cases this
theorem zVYa {t:Ty} {m:Md} {y:t.I} {c:Cells} {fq:Blks} {r:Nat} {p:List PE} {k:Md→RM α} (hS:SR e F w st V fp fl) (hrep:rep F w t m y c fq) (hq:∀b,fq b→fl b) (hm:m.noJ=true) (h:(meltP r p m k).run C st K=some res) :
  ∃m' fq',∃F' fl':Blks,(k m').run C st K=some res∧SR e F' w st V fp fl'∧rep F' w t m' y c fq'∧(∀b,fq' b→fl' b)∧m'.noJ=true∧(∀b,F b→F' b):=by
 have hsame:(k m).run C st K=some res→∃m' fq',∃F' fl':Blks,(k m').run C st K=some res∧SR e F' w st V fp fl'∧rep F' w t m' y c fq'∧(∀b,fq' b→fl' b)∧m'.noJ=true∧(∀b,F b→F' b) :=
  fun h=>⟨m,fq,F,fl,h,hS,hrep,hq,hm,fun _ hb=>hb⟩
 unfold meltP at h;split at h
 ·exact hsame h
 ·simp only[RM.run]at h;split at h
  ·split at h
   ·split at h
    ·rename_i hl;obtain ⟨fq',F',g1,g2,g3,g4⟩:=zbSa hS hrep hq hl;exact ⟨_,fq',F',_,h,g1,g2,fun b hb=>⟨hq b (g4 b hb),fun _=>hb⟩,Md.le_noJ hl,g3⟩
    ·exact hsame h
   ·exact hsame h
  ·exact hsame h
end
end Go.Trm
