import Derived.Test.YtjjoacepbndhhaaGreatTrmVLaws
import Derived.KernelRfl
import Derived.Test.YtjjoacepbndhhaaGreatTrmG1
import Derived.Test.YtjjoacepbndhhaaGreatTrmWA
import Derived.Test.YtjjoacepbndhhaaGreatTrmPlain
set_option linter.unusedVariables false
set_option linter.unusedSimpArgs false
namespace Go.Trm.V
abbrev endI:Ins:=(11,0,0,0,[],())
abbrev retI:Ins:=(15,0,0,0,[],())
abbrev deadI:Ins:=(0,0,0,0,[],())
abbrev blkI (t:Int):Ins:=(2,t,0,0,[],())
def dstep (x:Ins) (d:Int):Int:=if 2≤x.1∧x.1≤4 then d+1 else if x.1=11 then d-1 else d
def dmax:List Ins→Int→Int→Int
 |[],_,m=>m
 |x::xs,d,m=>dmax xs (dstep x d) (maxI m (dstep x d))
theorem zRZa (a b:Int):a≤maxI a b∧b≤maxI a b:=by unfold maxI; split<;>omega
theorem zYZa:∀(xs:List Ins) (d m:Int),m≤dmax xs d m
 |[],_,_=>Int.le_refl _
 |x::xs,d,m=>Int.le_trans (zRZa _ _).1 (zYZa xs _ _)
theorem zEXa {n n':List Bool} {x:Ins} (h:nest n x = .go n'):(n'.length:Int)=dstep x n.length:=by
 unfold nest at h;unfold dstep;split at h
 ·rename_i hop;rw[if_pos (by omega)];split at h
  ·cases h
  ·cases h; simp
 ·rename_i hop;rw[if_neg (by omega)];split at h
  ·rename_i h5;rw[if_neg (by omega)];split at h
   ·cases h; simp
   ·cases h
  ·split at h
   ·rename_i h11;rw[if_pos h11];split at h
    ·cases h
    ·cases h; simp
   ·rename_i h11;rw[if_neg h11];cases h; rfl
section
variable {zCaa:Ins→Bool} {acc:Int→Option (Int×Int×Bool)} {typ:Int→Option (List Int×Int)} {c c':Ctx}
theorem zXMa (he:zCaa endI=true):∀(xs:List Ins) (n:List Bool) (m:Int),zBba zCaa xs n=true→dmax xs n.length m≤60→zBba zCaa (xs++[endI]) (n++[false])=true
 |[],_,_,h,_=>by cases h
 |x::xs,n,m,h,hd=>by
  rw[zBba]at h;show zBba zCaa (x::(xs++[endI])) (n++[false])=true;rw[zBba];by_cases hx:zCaa x=true
  ·rw[if_pos hx]at h ⊢;have hd':dmax xs (dstep x n.length) (maxI m (dstep x n.length))≤60:=hd;cases hn:nest n x with
   |bad=>rw[hn]at h; cases h
   |over =>
    rw[hn]at h;obtain ⟨g1,g2⟩:=zKPa hn;have:xs=[]:=List.isEmpty_iff.mp h;subst this g2;have e:nest ([]++[false]) x = .go []:=by
     unfold nest;rw[if_neg (by omega),if_neg (by omega),if_pos g1];rfl
    rw[e];show zBba zCaa [endI] []=true;rw[zBba,if_pos he];rfl
   |go n' =>
    rw[hn]at h;have hl:=zEXa hn;have hb:=zRZa m (dstep x n.length);have hc:=zYZa xs (dstep x n.length) (maxI m (dstep x n.length));have e:nest (n++[false]) x = .go (n'++[false]):=by
     unfold nest at hn ⊢;split at hn
     ·rename_i hop;rw[if_pos hop];split at hn
      ·cases hn
      ·cases hn;simp only[List.length_cons]at hl;rw[if_neg (by simp only[List.length_append,List.length_cons,List.length_nil]; omega)];rfl
     ·rename_i hop;rw[if_neg hop];split at hn
      ·rename_i h5;rw[if_pos h5];split at hn
       ·cases hn; rfl
       ·cases hn
      ·rename_i h5;rw[if_neg h5];split at hn
       ·rename_i h11;rw[if_pos h11];split at hn
        ·cases hn
        ·cases hn; rfl
       ·rename_i h11;rw[if_neg h11];cases hn; rfl
    rw[e];exact zXMa he xs n' _ h (by rw[hl]; exact hd')
  ·rw[if_neg hx]at h; cases h
theorem zxFa {xs:List Ins} (h:zFra zCaa xs=true):xs.length≤2000∧zBba zCaa xs []=true:=by
 unfold zFra at h;rw[Bool.and_eq_true]at h;exact ⟨of_decide_eq_true h.1,h.2⟩
theorem zmRa {xs:List Ins} (h1:xs.length≤2000) (h2:zBba zCaa xs []=true):zFra zCaa xs=true:=by
 unfold zFra;rw[h2,decide_eq_true h1];rfl
theorem zKVa:∀(ts s:List Int) (b:Blk) (o:List Blk),b.2.2.2.1=s.length→popsR ts (ts++s,b::o) = .ok (ts,(s,b::o))
 |[],s,b,o,_=>rfl
 |t::ts,s,b,o,h=>by
  show V.bind (V.pop t) (λx=>V.bind (popsR ts) λxs=>V.ret (x::xs)) (t::(ts++s),b::o)=_;have e:V.pop t (t::(ts++s),b::o) = .ok (t,(ts++s,b::o)):=by
   unfold V.pop;dsimp only;rw[if_neg (by simp only[List.length_cons,List.length_append]; omega),if_pos (Or.inl rfl)]
  unfold V.bind;rw[e];dsimp only;rw[zKVa ts s b o h];rfl
theorem zC0a (ts s:List Int) (b:Blk) (o:List Blk) (h:b.2.2.2.1=s.length):pops ts (ts.reverse++s,b::o) = .ok (ts,(s,b::o)):=by
 unfold V.pops V.bind;rw[zKVa _ _ _ _ h];show Except.ok _=_;rw[List.reverse_reverse]
theorem zORa:∀(ts:List Int) (b:Blk) (o:List Blk),b.2.2.2.1=0→b.2.2.2.2.1=true→∃r,popsR ts ([],b::o) = .ok (r,([],b::o))
 |[],b,o,_,_=>⟨[],rfl⟩
 |t::ts,b,o,h1,h2=>by
  obtain ⟨r,hr⟩:=zORa ts b o h1 h2;refine ⟨0::r,?_⟩;show V.bind (V.pop t) (λx=>V.bind (popsR ts) λxs=>V.ret (x::xs)) ([],b::o)=_;have e:V.pop t ([],b::o) = .ok (0,([],b::o)):=by
   unfold V.pop;dsimp only;rw[if_pos (by rw[h1]; rfl),if_pos h2]
  unfold V.bind;rw[e];dsimp only;rw[hr];rfl
theorem zOYa (ts:List Int) (b:Blk) (o:List Blk) (h1:b.2.2.2.1=0) (h2:b.2.2.2.2.1=true):∃r,pops ts ([],b::o) = .ok (r,([],b::o)):=by
 obtain ⟨r,hr⟩:=zORa ts.reverse b o h1 h2;refine ⟨r.reverse,?_⟩;unfold V.pops V.bind;rw[hr];rfl
theorem zr1a {l:List Int} (x:Ins) (hx:x.1=11):instr acc typ c l x=V.bind V.leave λb=>V.bind (V.want (decide (b.1≠4∨b.2.1=b.2.2.1)) 6) λ_=>V.push b.2.2.1:=by
 unfold instr ctl;rw[if_neg (by omega),if_neg (by omega),if_neg (by omega),if_neg (by omega),if_pos hx]
theorem zM2a {l:List Int} (res:List Int) (b:Blk) (h1:b.1≠4) (h2:b.2.2.1=res) (h3:b.2.2.2.1=0):∃w,run acc typ c l [endI] (res.reverse,[b]) = .ok ((),w):=by
 show ∃w,V.bind (instr acc typ c l endI) (λ_=>V.ret ()) (res.reverse,[b])=_;rw[zr1a endI rfl];have hp:=zC0a res [] b [] h3;rw[List.append_nil]at hp;have hl:V.leave (res.reverse,[b]) = .ok (b,([],[])):=by
  show V.bind (pops b.2.2.1) (λ_ v=>if (v.1.length:Int)=b.2.2.2.1 then .ok (b,(v.1,v.2.tail)) else .error 6) (res.reverse,[b])=_;unfold V.bind;rw[h2,hp];dsimp only;rw[if_pos (by rw[h3]; rfl)];rfl
 refine ⟨(b.2.2.1.reverse++[],[]),?_⟩;unfold V.bind;rw[hl];dsimp only;unfold V.want;rw[if_pos (decide_eq_true (Or.inl h1))];rfl
theorem zXWa {B:Nat} {f:Int×List Int×List Ins×Unit} (hf:∀x,zCaa x=true→x.2.2.2.2.1.length≤64) (hB:1≤B) (hc:CtxOk B c) (hE:Ext c c') (he:zCaa endI=true) (hbf:zCaa (blkI c.1.length)=true) (hty:c'.1.length=c.1.length+1) (htg:c'.1.getD c.1.length ([],[],())=([],resOf c f,())) (h:V.body zCaa acc typ c f=0) (hl:f.2.2.1.length≤1990) (hd:dmax f.2.2.1 0 0≤60) :
  V.body zCaa acc typ c' (f.1,f.2.1,blkI c.1.length::f.2.2.1++[endI],())=0:=by
 obtain ⟨h1,h2,w,h3⟩:=body_zero.mp h;obtain ⟨_,h2'⟩:=zxFa h2;have hg:c'.1.getD f.1.toNat ([],[],())=c.1.getD f.1.toNat ([],[],()):=hE.fnG _ _ (by omega);have hres:resOf c' (f.1,f.2.1,blkI c.1.length::f.2.2.1++[endI],())=resOf c f:=by unfold resOf; dsimp only; rw[hg]
 have hloc:locOf c' (f.1,f.2.1,blkI c.1.length::f.2.2.1++[endI],())=locOf c f:=by unfold locOf; dsimp only; rw[hg]
 refine body_zero.mpr ⟨⟨h1.1,by dsimp only; omega⟩,?_,?_⟩
 ·refine zmRa (by simp; omega) ?_;show zBba zCaa (blkI c.1.length::(f.2.2.1++[endI])) []=true;rw[zBba,if_pos hbf];exact zXMa he f.2.2.1 [] 0 h2' hd
 ·rw[hres,hloc];have hbt:zrHa c' (c.1.length:Int)=some ([],resOf c f,()):=by
   unfold zrHa;rw[if_neg (by omega),if_neg (by omega),if_neg (by omega),if_pos (by omega),Int.toNat_natCast,htg]
  have e1:instr acc typ c' (locOf c f) (blkI c.1.length) (st0 (resOf c f)) = .ok ((),([],[(2,[],resOf c f,0,false,()),(2,[],resOf c f,0,false,())])):=by
   show V.block c' (blkI c.1.length) (st0 (resOf c f))=_;unfold V.block;rw[show zrHa c' (blkI c.1.length).2.1=some ([],resOf c f,()) from hbt];rfl
  obtain ⟨w',q1,q2,q3,q4⟩:=runR (e:=[(2,[],resOf c f,0,false,())]) (res:=resOf c f) hf hB hc hE (λb hb=>by cases hb; rfl) f.2.2.1 [] 0 (st0 (resOf c f)) ([],[(2,[],resOf c f,0,false,()),(2,[],resOf c f,0,false,())]) w h2' rfl (inv0 (zQwa hc _).2) ⟨⟨rfl,⟨[(2,[],resOf c f,0,false,())],rfl,zWPa _⟩,bot0 _⟩,by simp⟩ h3;obtain ⟨o',r1,r2⟩:=q2.bl;rw[q3]at r2;have ho:o'=[]:=by cases o' with
   |nil=>rfl
   |cons=>exact r2.elim
  subst ho;have hw':w'=((resOf c f).reverse,[(2,[],resOf c f,0,false,())]):=Prod.ext (by rw[q2.st,q4]) r1;obtain ⟨w2,hw2⟩:=zM2a (acc:=acc) (typ:=typ) (c:=c') (l:=locOf c f) (resOf c f) (2,[],resOf c f,0,false,()) (by simp) rfl rfl;refine ⟨w2,?_⟩;show V.bind (instr acc typ c' (locOf c f) (blkI c.1.length)) (λ_=>run acc typ c' (locOf c f) (f.2.2.1++[endI])) (st0 (resOf c f))=_;unfold V.bind;rw[e1];dsimp only;rw[zZxa];unfold V.bind;rw[q1];dsimp only;rw[hw'];exact hw2
theorem zyZa {B:Nat} {f:Int×List Int×List Ins×Unit} (hf:∀x,zCaa x=true→x.2.2.2.2.1.length≤64) (hB:1≤B) (hc:CtxOk B c) (hdf:zCaa deadI=true) (h:V.body zCaa acc typ c f=0) (hl:f.2.2.1.length≤1990) :
  V.body zCaa acc typ c (f.1,f.2.1,deadI::f.2.2.1,())=0:=by
 obtain ⟨h1,h2,w,h3⟩:=body_zero.mp h;obtain ⟨_,h2'⟩:=zxFa h2;refine body_zero.mpr ⟨h1,?_,?_⟩
 ·refine zmRa (by simp; omega) ?_;dsimp only;rw[zBba,if_pos hdf];exact h2'
 ·show ∃w,V.bind (instr acc typ c (locOf c f) deadI) (λ_=>run acc typ c (locOf c f) f.2.2.1) (st0 (resOf c f)) = .ok ((),w);obtain ⟨w',q1,_⟩:=runR (e:=[]) (res:=resOf c f) hf hB hc (Ext.refl c) (λb hb=>by cases hb) f.2.2.1 [] 0 (st0 (resOf c f)) ([],[(2,[],resOf c f,0,true,())]) w h2' rfl (inv0 (zQwa hc _).2) ⟨⟨rfl,⟨[(2,[],resOf c f,0,true,())],rfl,⟨rfl,rfl,rfl,rfl,λ_=>rfl⟩,trivial⟩,bot0 _⟩,by simp⟩ h3;exact ⟨w',q1⟩
theorem zt0a {B:Nat} {l:List Int} {res:List Int} (hf:∀x,zCaa x=true→x.2.2.2.2.1.length≤64) (hB:1≤B) (hc:CtxOk B c):∀(a:List Ins) (x:Ins) (n:List Bool) (S:Nat) (v w:VS),zBba zCaa (a++[x]) n=true→v.2.length=n.length+1→Inv B S v→bot res v.2→run acc typ c l (a++[x]) v = .ok ((),w)→∃s b,run acc typ c l a v = .ok ((),(s,[b]))∧b.1≠4∧b.2.2.1=res∧b.2.2.2.1=0∧(∃r,pops res (s,[b]) = .ok r)∧∀tail,zBba zCaa (a++tail) n=zBba zCaa tail []:=by
 intro a
 induction a with
 |nil =>
  intro x n S v w h1 h2 h3 h4 h5;have h1':zBba zCaa [x] n=true:=h1;rw[zBba]at h1';by_cases hx:zCaa x=true
  ·rw[if_pos hx]at h1';cases hn:nest n x with
   |bad=>rw[hn]at h1'; cases h1'
   |go n'=>rw[hn]at h1'; cases h1'
   |over =>
    obtain ⟨g1,g2⟩:=zKPa hn;subst g2;obtain ⟨s,o⟩:=v;obtain ⟨b,rfl⟩:∃b,o=[b]:=by
     cases o with
     |nil=>simp at h2
     |cons b o=>exact ⟨b,by simp at h2; rw[h2]⟩
    refine ⟨s,b,rfl,h4.1,h4.2.1,h4.2.2,?_,λ_=>rfl⟩;obtain ⟨u,v1,e1,_⟩:=znga (show V.bind (instr acc typ c l x) (λ_=>V.ret ()) (s,[b]) = .ok ((),w) from h5);rw[zr1a x g1]at e1;obtain ⟨b1,v2,e2,_⟩:=znga e1;obtain ⟨r,v3,e3,_⟩:=znga (show V.bind (pops b.2.2.1) (λ_ v=>if (v.1.length:Int)=b.2.2.2.1 then .ok (b,(v.1,v.2.tail)) else .error 6) (s,[b]) = .ok (b1,v2) from e2);rw[h4.2.1]at e3;exact ⟨_,e3⟩
  ·rw[if_neg hx]at h1'; cases h1'
 |cons y a ih =>
  intro x n S v w h1 h2 h3 h4 h5;have h1':zBba zCaa (y::(a++[x])) n=true:=h1;rw[zBba]at h1';by_cases hy:zCaa y=true
  ·rw[if_pos hy]at h1';obtain ⟨u,v1,e1,e2⟩:=znga (show V.bind (instr acc typ c l y) (λ_=>run acc typ c l (a++[x])) v = .ok ((),w) from h5);cases hn:nest n y with
   |bad=>rw[hn]at h1'; cases h1'
   |over =>
    rw[hn]at h1';have:(a++[x]).isEmpty=true:=h1';cases a<;>cases this
   |go n' =>
    rw[hn]at h1';obtain ⟨i1,i2⟩:=Step.instr hB hc (hf y hy) S v () v1 h3 e1;have hl:=zQZa hn (by rw[←h2]; exact i2);have hr:Rel [] res v v:=⟨⟨rfl,⟨v.2,(List.append_nil _).symm,zWPa _⟩,h4⟩,λhc=>by rw[hc]at h2; simp at h2⟩
    obtain ⟨w1,q1,q2,q3⟩:=zD2a (Ext.refl c) (λb hb=>by cases hb) hr e1;obtain ⟨s,b,r1,r2,r3,r4,r5,r6⟩:=ih x n' _ v1 w h1' hl i1 q2.bot e2;refine ⟨s,b,?_,r2,r3,r4,r5,λtail=>?_⟩
    ·show V.bind (instr acc typ c l y) (λ_=>run acc typ c l a) v=_;unfold V.bind;rw[e1];exact r1
    ·show zBba zCaa (y::(a++tail)) n=_;rw[zBba,if_pos hy,hn];exact r6 tail
  ·rw[if_neg hy]at h1'; cases h1'
theorem zw1a {B:Nat} {t:Int} {lo:List Int} {a:List Ins} {x:Ins} (hf:∀x,zCaa x=true→x.2.2.2.2.1.length≤64) (hB:1≤B) (hc:CtxOk B c) (he:zCaa endI=true) (hrf:zCaa retI=true) (h:V.body zCaa acc typ c (t,lo,a++[x],())=0) (hl:(a++[x]).length≤1990) :
  V.body zCaa acc typ c (t,lo,a++[retI]++[endI],())=0:=by
 obtain ⟨h1,h2,w,h3⟩:=body_zero.mp h;obtain ⟨_,h2'⟩:=zxFa h2;obtain ⟨s,b,r1,r2,r3,r4,⟨r,r5⟩,r6⟩:=zt0a (res:=resOf c (t,lo,a++[x],())) hf hB hc a x [] 0 _ w h2' rfl (inv0 (zQwa hc _).2) (bot0 _) h3;refine body_zero.mpr ⟨h1,?_,?_⟩
 ·refine zmRa (by simp at hl ⊢; omega) ?_;dsimp only;rw[List.append_assoc,r6];show zBba zCaa [retI,endI] []=true;rw[zBba,if_pos hrf];show zBba zCaa [endI] []=true;rw[zBba,if_pos he];rfl
 ·dsimp only;rw[List.append_assoc,zZxa];show ∃w,V.bind (run acc typ c (locOf c (t,lo,a++[x],())) a) (λ_=>run acc typ c (locOf c (t,lo,a++[x],())) [retI,endI]) (st0 (resOf c (t,lo,a++[x],()))) = .ok ((),w);generalize hL:locOf c (t,lo,a++[x],())=L at r1 ⊢;generalize hR:resOf c (t,lo,a++[x],())=res at r1 r3 r5 ⊢;obtain ⟨r,v1⟩:=r;have e1:instr acc typ c L retI (s,[b])=V.retn (s,[b]):=rfl;obtain ⟨i1,i2⟩:v1.2=[b]∧True:=by
   have hs:=Step.pops (B:=max B (max s.length (max b.2.1.length b.2.2.1.length))) res;have hi:∃S,Inv (max B (max s.length (max b.2.1.length b.2.2.1.length))) S (s,[b]):=⟨s.length,⟨⟨Int.le_of_eq r4.symm,by dsimp only; rw[r4]; omega,trivial⟩,Nat.le_refl _,by
    intro z hz;rw[List.mem_singleton]at hz;subst hz;omega⟩⟩
   obtain ⟨S,hi⟩:=hi;exact ⟨(hs S _ r v1 hi r5).2.1,trivial⟩
  obtain ⟨s1,o1⟩:=v1;dsimp only at i1;subst i1;have e2:V.retn (s,[b]) = .ok ((),([],[(b.1,b.2.1,b.2.2.1,b.2.2.2.1,true,())])):=by
   show V.bind (pops b.2.2.1) (λ_=>V.dead) (s,[b])=_;unfold V.bind;rw[r3,r5];show Except.ok _=_;rw[r4];simp[r3]
  obtain ⟨rr,hrr⟩:=zOYa res (b.1,b.2.1,b.2.2.1,b.2.2.2.1,true,()) [] r4 rfl;have e3:V.leave ([],[(b.1,b.2.1,b.2.2.1,b.2.2.2.1,true,())]) = .ok ((b.1,b.2.1,b.2.2.1,b.2.2.2.1,true,()),([],[])):=by
   show V.bind (pops b.2.2.1) (λ_ v=>if (v.1.length:Int)=b.2.2.2.1 then .ok ((b.1,b.2.1,b.2.2.1,b.2.2.2.1,true,()),(v.1,v.2.tail)) else .error 6) _=_;rw[←r3]at hrr;unfold V.bind;rw[hrr];dsimp only;rw[if_pos (by rw[r4]; rfl)];rfl
  refine ⟨(b.2.2.1.reverse++[],[]),?_⟩
  change run acc typ c L a (st0 (resOf c (t,lo,a++[x],())))=_ at r1
  rw[hR]at r1;unfold V.bind;rw[r1];show V.bind (instr acc typ c L retI) (λ_=>V.bind (instr acc typ c L endI) λ_=>V.ret ()) (s,[b])=_;unfold V.bind;rw[e1,e2];dsimp only;rw[zr1a endI rfl];unfold V.bind;rw[e3];dsimp only;unfold V.want;rw[if_pos (decide_eq_true (Or.inl r2))];rfl
end
end Go.Trm.V
namespace Go.Trm.V
open Go.Trm.G1
theorem zaAa {x:Ins} {b:Bool} (hl:x.2.2.2.2.1.length≤most) (h:zOea (R:=Bool) x some=some b):zCaa x=b:=by
 have:=zYVa x hl (some:Bool→Option Bool);rw[h]at this;exact (Option.some.inj this).symm
theorem f_end:zCaa endI=true:=zaAa (Nat.zero_le _) (by kernel_rfl)
theorem f_ret:zCaa retI=true:=zaAa (Nat.zero_le _) (by kernel_rfl)
theorem zL2a:zCaa deadI=true:=zaAa (Nat.zero_le _) (by kernel_rfl)
abbrev i65:Ins:=(65,0,0,1,[],())
theorem f_65:zCaa i65=true:=zaAa (Nat.zero_le _) (by kernel_rfl)
abbrev c0:Ctx:=([([],[127],())],[],[],[],[],0,0,0,0,false,())
theorem fits0 (code:List Ins) (h:∀x∈code,x.2.2.2.2.1.length≤most):Fits 1 c0 (0,[],code,()):=⟨Nat.le_refl _,by
 intro t ht;simp only[List.mem_singleton]at ht;subst ht;simp,by decide,(by decide:0+1≤most),h⟩
theorem b1:V.body zCaa accF typF c0 (0,[],[i65,endI],())=0:=by
 have hc:zFra zCaa [i65,endI]=true:=by
  unfold zFra;simp only[zBba,f_65,f_end,if_true]
  decide
 unfold V.body;rw[if_neg (by decide)];dsimp only;rw[if_pos hc];rfl
theorem b2:V.body zCaa accF typF c0 (0,[],[endI],())=6:=by
 have hc:zFra zCaa [endI]=true:=by
  unfold zFra;simp only[zBba,f_end,if_true]
  decide
 unfold V.body;rw[if_neg (by decide)];dsimp only;rw[if_pos hc];rfl
theorem b3:V.body zCaa accF typF c0 (0,[],[deadI,endI],())=0:=by
 have hc:zFra zCaa [deadI,endI]=true:=by
  unfold zFra;simp only[zBba,zL2a,f_end,if_true]
  decide
 unfold V.body;rw[if_neg (by decide)];dsimp only;rw[if_pos hc];rfl
theorem zAVa {R:Type} (K:Bool→Option R):zmja K=K true:=by
 have e1:=zpza (R:=R) (fits0 [i65,endI] (by intro x hx; simp only[List.mem_cons,List.not_mem_nil,or_false]at hx; rcases hx with rfl|rfl<;>exact Nat.zero_le _));have e2:=zpza (R:=R) (fits0 [endI] (by intro x hx; simp only[List.mem_cons,List.not_mem_nil,or_false]at hx; subst hx; exact Nat.zero_le _));have e3:=zpza (R:=R) (fits0 [deadI,endI] (by intro x hx; simp only[List.mem_cons,List.not_mem_nil,or_false]at hx; rcases hx with rfl|rfl<;>exact Nat.zero_le _));have h:zmja K=zXaa c0 (0,[],[i65,endI],()) λr4=>zXaa c0 (0,[],[endI],()) λr6=>zXaa c0 (0,[],[deadI,endI],()) λr8=>cond (r4==0) (cond (r6==6) (K (r8==0)) (K false)) (K false):=by kernel_rfl
 rw[h,e1,b1,e2,b2,e3,b3];rfl
end Go.Trm.V
namespace Go.Trm.V
open Go.Trm.G1
section
variable {R:Type}
theorem zs1a (x:Ins) (d:Int):d-1≤dstep x d∧dstep x d≤d+1:=by unfold dstep; split<;>(try split)<;>omega
theorem zrZa (ls:List Ins) (hl:ls.length≤2000) (kx:Int→Option R):∀(rest:List Ins) (i m:Nat) (d mx:Int),ls.drop i=rest→i+rest.length=ls.length→rest.length≤m→-4000≤d-rest.length→d+rest.length≤4000→loopN (zHha kx) (m+1) ⟨ls,d,mx,(i:Int)⟩=kx (dmax rest d mx):=by
 intro rest
 induction rest with
 |nil =>
  intro i m d mx hd hi h h1 h2;simp only[List.length_nil]at hi;rw[zaaa];unfold zHha;simp only[zDaa];rw[if_neg (by omega)];rfl
 |cons x xs ih =>
  intro i m d mx hd hi h h1 h2;simp only[List.length_cons]at hi h h1 h2;obtain ⟨m,rfl⟩:∃k,m=k+1:=⟨m-1,by omega⟩
  have hg:ls.getD i (0,0,0,0,[],())=x∧ls.drop (i+1)=xs:=by
   rw[zhza ls i (0,0,0,0,[],()) (by omega)]at hd
   injection hd with a b
   exact ⟨a,b⟩
  have hs:=zs1a x d;have step:∀rec,zHha kx rec ⟨ls,d,mx,(i:Int)⟩=rec ⟨ls,dstep x d,maxI mx (dstep x d),((i+1:Nat):Int)⟩:=by
   intro rec;have hin:0≤(i:Int)∧(i:Int)<(ls.length:Int):=by omega
   unfold zHha dstep;simp only[zDaa,zkda,znCa,Int.toNat_natCast,hg.1,if_pos hin];rw[if_pos (by omega),w_i64 (n:=(i:Int)+1) (by omega),w_i64 (n:=d+1) (by omega),w_i64 (n:=d-1) (by omega),w_i64 (n:=d+1-1) (by omega)];by_cases q1:2≤x.1
   ·rw[if_pos (show x.1≥2 from q1)];by_cases q2:x.1≤4
    ·rw[if_pos q2,if_pos (show 2≤x.1∧x.1≤4 from ⟨q1,q2⟩),if_neg (by omega)];rfl
    ·rw[if_neg q2,if_neg (show ¬(2≤x.1∧x.1≤4) by omega)];by_cases q3:x.1=11
     ·rw[if_pos q3,if_pos q3]; rfl
     ·rw[if_neg q3,if_neg q3]; rfl
   ·rw[if_neg (show ¬x.1≥2 from q1),if_neg (show ¬(2≤x.1∧x.1≤4) by omega),if_neg (by omega),if_neg (by omega)];rfl
  rw[zaaa,step];exact ih (i+1) m _ _ hg.2 (by omega) (by omega) (by omega) (by omega)
theorem zO2a (ls:List Ins) (hl:ls.length≤2000) (K:Int→Option R):zlva ls K=K (dmax ls 0 0):=by
 unfold zlva;obtain ⟨m,hf⟩:=zZva (ls.length+1) (by omega);have e:zpaa=m+ls.length+1:=by omega
 rw[e];exact zrZa ls hl K ls 0 (m+ls.length) 0 0 rfl (by omega) (by omega) (by omega) (by omega)
end
end Go.Trm.V
namespace Go.Trm.V
open Go.Trm.G1
section
variable {R:Type}
theorem zsZa (ls:List Ins) (hl:ls.length≤most) (hx:∀x∈ls,x.2.2.2.2.1.length≤most) (kx:List Ins→Option R):∀(rest:List Ins) (i m:Nat) (out:List Ins),ls.drop i=rest→i+rest.length=ls.length→out.length=i→rest.length≤m→loopN (zEha kx) (m+1) ⟨ls,out,(i:Int)⟩=kx (out++rest):=by
 have hm:most=4294967296:=rfl;intro rest
 induction rest with
 |nil =>
  intro i m out hd hi ho h;simp only[List.length_nil]at hi;rw[zaaa];unfold zEha;simp only[zDaa];rw[if_neg (by omega),List.append_nil]
 |cons x xs ih =>
  intro i m out hd hi ho h;simp only[List.length_cons]at hi h;obtain ⟨m,rfl⟩:∃k,m=k+1:=⟨m-1,by omega⟩
  have hg:ls.getD i (0,0,0,0,[],())=x∧ls.drop (i+1)=xs:=by
   rw[zhza ls i (0,0,0,0,[],()) (by omega)]at hd
   injection hd with a b
   exact ⟨a,b⟩
  have hmem:x∈ls:=by
   have:x∈ls.drop i:=by rw[hd]; exact List.mem_cons_self ..
   exact List.mem_of_mem_drop this
  have hxl:=hx x hmem;have step:∀rec,zEha kx rec ⟨ls,out,(i:Int)⟩=rec ⟨ls,out++[x],((i+1:Nat):Int)⟩:=by
   intro rec;have hin:0≤(i:Int)∧(i:Int)<(ls.length:Int):=by omega
   unfold zEha;simp only[zDaa,zkda,Int.toNat_natCast,hg.1,if_pos hin];rw[if_pos (by omega),if_pos (by simp only[List.length_replicate]; omega),if_pos (by simp only[List.length_set,List.length_replicate]; omega),w_i64 (by omega)];rfl
  rw[zaaa,step];refine (ih (i+1) m (out++[x]) hg.2 (by omega) (by simp; omega) (by omega)).trans ?_;rw[List.append_assoc];rfl
theorem zeWa (ls:List Ins) (hl:ls.length≤most) (hx:∀x∈ls,x.2.2.2.2.1.length≤most) (K:List Ins→Option R):zOga ls K=K ls:=by
 have hm:most=4294967296:=rfl;unfold zOga;obtain ⟨m,hf⟩:=zZva (ls.length+1) (by omega);have e:zpaa=m+ls.length+1:=by omega
 rw[e];exact zsZa ls hl hx K ls 0 (m+ls.length) [] rfl (by omega) rfl (by omega)
end
end Go.Trm.V
namespace Go.Trm.V
open Go.Trm.G1
structure Good (B:Nat) (m:It21) (c:Ctx):Prop where
 len:m.2.2.1.length≤4294967295
 fit:∀f∈m.2.2.1,Fits B c f
 code:∀f∈m.2.2.1,f.2.2.1.length≤4294960000
 types:c.1.length≤1000000
 fns:c.2.1.length≤1000000
 gls:c.2.2.1.length≤1000000
 el:0≤c.2.2.2.2.2.2.2.1∧c.2.2.2.2.2.2.2.1≤1000000
 da:0≤c.2.2.2.2.2.2.2.2.1∧c.2.2.2.2.2.2.2.2.1≤1000000
def zBZa (m:It21):Prop:=∀ {R:Type} (Φ:Option R→Prop) {K:Ctx→Bool→Option R},(∀(c:Ctx) (ok:Bool) (B:Nat),(ok=true→Good B m c)→Φ (K c ok))→Φ (zZda m K)
section
variable {R:Type}
theorem getF {m:It21} {i:Int} (h:0≤i∧i<m.2.2.1.length):m.2.2.1.getD i.toNat (0,[],[],())∈m.2.2.1:=by
 rw[List.getD_eq_getElem?_getD,List.getElem?_eq_getElem (by omega)];exact List.getElem_mem _
theorem zsQa {α:Type} (a b:List α) (i:Nat) (d:α) (h:i<a.length):(a++b).getD i d=a.getD i d:=by
 rw[List.getD_eq_getElem?_getD,List.getD_eq_getElem?_getD,List.getElem?_append_left h]
end
end Go.Trm.V
namespace Go.Trm.V
open Go.Trm.G1
theorem cv63 {n:Nat} (h:n≤2 ^ 63-1):n≤9223372036854775807:=by omega
theorem zfZa {l:List InsT} (h:∀y∈l,okI (.pair (.int .i64) (.pair (.int .i64) (.pair (.int .i64) (.pair (.int .i64) (.pair (.sl 3 (.int .i64)) .unit))))) y):∀x∈l,InsOk x:=λx hx=>by
 have h1:(-9223372036854775808:Int)≤x.2.1∧x.2.1≤9223372036854775807:=(h x hx).2.1;have h2:(-9223372036854775808:Int)≤x.2.2.2.1∧x.2.2.2.1≤9223372036854775807:=(h x hx).2.2.2.1;exact ⟨h1,h2⟩
theorem zd3a {m:It21} (h:okI Ty32 m):RawOk m where
 rows:=⟨cv63 h.1.1,cv63 h.2.1.1,cv63 h.2.2.1.1,cv63 h.2.2.2.1.1,cv63 h.2.2.2.2.1.1,cv63 h.2.2.2.2.2.1.1,cv63 h.2.2.2.2.2.2.1.1,cv63 h.2.2.2.2.2.2.2.1.1,cv63 h.2.2.2.2.2.2.2.2.1.1,cv63 h.2.2.2.2.2.2.2.2.2.1.1,cv63 h.2.2.2.2.2.2.2.2.2.2.1.1,cv63 h.2.2.2.2.2.2.2.2.2.2.2.1.1⟩
 fn:=λy hy=>zfZa (h.2.2.1.2 y hy).2.2.1.2
 gl:=λy hy=>zfZa (h.2.2.2.2.2.1.2 y hy).2.2.1.2
 el:=λy hy=>zfZa (h.2.2.2.2.2.2.2.2.1.2 y hy).2.1.2
 da:=λy hy=>zfZa (h.2.2.2.2.2.2.2.2.2.2.1.2 y hy).2.1.2
theorem znYa {m:It21} (h:okI Ty32 m):zBZa m:=λΦ _ hk=>zeNa (zd3a h) λc ok hp=>hk c ok 3000 λe=>by
 have hm:most=4294967296:=rfl;obtain ⟨s,ty,n⟩:=hp e;have z:=s.rows;have code:∀f∈m.2.2.1,f.2.2.1.length+lsz f.2.2.1≤3000:=λf hf=>(s.fn f hf).2.sz
 refine ⟨by omega,λf hf=>⟨by decide,ty,by decide,?_,λx hx=>?_⟩,λf hf=>?_,by omega,by omega,by omega,by omega,by omega⟩
 ·have:=(s.fn f hf).1;omega
 ·have:=zJXa hx;have:=code f hf;omega
 ·have:=code f hf;omega
end Go.Trm.V
namespace Go.Trm.V
open Go.Trm.G1
theorem zuYa (x:Int) (h:0≤x∧x<4294967296) (R:Type) (K:Int→Option R):zIea [] x (λ_ r=>K r)=K 0:=by
 unfold zIea zUza;simp only[zoIa,zDaa,znwa]
 try dsimp only
 rw[if_neg (by omega),if_neg (by omega),if_neg (by omega),if_pos h.1,if_pos h.2,zMKa x (by omega) (by omega)]
theorem f_blk (n:Int) (h:0≤n∧n<4294967296):zCaa (blkI n)=true:=by
 refine zaAa (Nat.zero_le _) ?_;have e:zOea (R:=Bool) (blkI n) some=zIea [] n (λ_ r10=>cond (r10==0) (zZba (blkI n) true false false false some) (some false)):=by kernel_rfl
 exact e.trans ((zuYa n h Bool (λr=>cond (r==0) (zZba (blkI n) true false false false some) (some false))).trans rfl)
end Go.Trm.V
namespace Go.Trm.V
open Go.Trm.G1
section
variable {R:Type}
abbrev zGYa (c:Ctx) (res:List Int):Ctx:=(c.1++[([],res,())],c.2)
theorem zaXa (c:Ctx) (res:List Int):Ext c (zGYa c res):=⟨by simp,λi d h=>zsQa _ _ _ _ h,Nat.le_refl _,λ_ _ _=>rfl,Nat.le_refl _,λ_ _ _=>rfl,Nat.le_refl _,Nat.le_refl _,Int.le_refl _,Int.le_refl _,id⟩
theorem ztYa (m:It21) (i:Int) (h:zBZa m) (K:Bool→Option R):zKda m i K=K true:=by
 have hm:most=4294967296:=rfl;unfold zKda;rw[zAVa];rw[show (!true)=false from rfl,cond_false];refine h (λz=>z=K true) λc ok B hg=>?_
 unfold zQha;simp only[znwa,zDaa,zkda,znza];cases ok with
 |false=>rfl
 |true =>
  have g:=hg rfl;rw[cond_true];by_cases h1:i<0
  ·rw[if_pos h1]
  rw[if_neg h1];by_cases h2:i≥(m.2.2.1.length:Int)
  ·rw[if_pos h2]
  rw[if_neg h2];have hin:0≤i∧i<(m.2.2.1.length:Int):=by omega
  have hf:=getF hin;have g1:=g.types;simp only[if_pos hin];generalize hF:m.2.2.1.getD i.toNat (0,[],[],())=f at hf ⊢;obtain ⟨t,lo,code,u⟩:=f;have fit:=g.fit _ hf;dsimp only;by_cases h3:(code.length:Int)>1990
  ·rw[if_pos h3]
  rw[if_neg h3,zO2a code (by omega)];by_cases h4:dmax code 0 0>60
  ·rw[if_pos h4]
  rw[if_neg h4,zpza fit];simp only[zoIa];by_cases hz:V.body zCaa accF typF c (t,lo,code,u)=0
  ·rw[if_pos hz];obtain ⟨b1,b2,_⟩:=body_zero.mp hz;dsimp only at b1 b2;obtain ⟨_,b3⟩:=zxFa b2;have hne:code≠[]:=λh=>by rw[h]at b3; cases b3
   have hsp:code=code.dropLast++[code.getLast hne]:=(List.dropLast_concat_getLast hne).symm;have hlp:0<code.length:=List.length_pos_iff.mpr hne;have ea:rng code 0 ((code.length:Int)-1)=code.dropLast:=by
    unfold rng;rw[List.dropLast_eq_take];simp
   unfold zEca zDca;simp only[zDaa,zkda,if_pos b1];have r1:∀x:FT,List.replicate 0 x=[]:=λ_=>rfl
   have r2:∀x y:FT,List.set (List.replicate 1 x) 0 y=[y]:=λ_ _=>rfl
   have r3:∀x y:Ins,List.set (List.replicate 1 x) 0 y=[y]:=λ_ _=>rfl
   have lb:=fit.lab;have lbd:∀x∈code.dropLast,x.2.2.2.2.1.length≤most:=λx hx=>lb x (by rw[List.dropLast_eq_take]at hx; exact List.mem_of_mem_take hx)
   have ld:code.dropLast.length=code.length-1:=List.length_dropLast;simp only[r1,r2,r3,List.nil_append,List.length_nil,List.length_cons,List.length_append];rw[if_pos (by omega),if_pos (by omega),zeWa code (by omega) lb,if_pos (by omega)];simp only[zeWa code (show code.length≤most by omega) lb];rw[w_i64 (by omega),ea,if_pos (by omega),if_pos (by omega),if_pos (by omega),zeWa code.dropLast (by omega) lbd];rw[if_pos (by omega),if_pos (by omega)];have z1:=zXWa (acc:=accF) (typ:=typF) (c:=c) (c':=zGYa c (resOf c (t,lo,code,u))) (f:=(t,lo,code,u)) zZya fit.one fit.ctx (zaXa c _) f_end (f_blk _ ⟨by omega,by omega⟩) (by simp) (by dsimp only; rw[List.getD_eq_getElem?_getD,List.getElem?_append_right (Nat.le_refl _)]; simp) hz (by dsimp only; omega) (by dsimp only; omega);have z2:=zyZa (acc:=accF) (typ:=typF) (c:=c) (f:=(t,lo,code,u)) zZya fit.one fit.ctx zL2a hz (by dsimp only; omega);have hz':V.body zCaa accF typF c (t,lo,code.dropLast++[code.getLast hne],())=0:=by rw[←hsp]; exact hz
   have z3:=zw1a (acc:=accF) (typ:=typF) (c:=c) zZya fit.one fit.ctx f_end f_ret hz' (by rw[←hsp]; omega);have one:∀(x:Ins) (hx:x.2.2.2.2.1.length≤most),∀y∈[x],y.2.2.2.2.1.length≤most:=λx hx y hy=>by rw[List.mem_singleton]at hy; subst hy; exact hx
   have app:∀ {a b:List Ins},(∀y∈a,y.2.2.2.2.1.length≤most)→(∀y∈b,y.2.2.2.2.1.length≤most)→∀y∈a++b,y.2.2.2.2.1.length≤most:=λha hb y hy=>(List.mem_append.mp hy).elim (ha y) (hb y)
   have fit1:Fits B (zGYa c (resOf c (t,lo,code,u))) (t,lo,[blkI c.1.length]++code++[endI],u):=⟨fit.one,λq hq=>by
    rcases List.mem_append.mp hq with h|h
    ·exact fit.ctx q h
    ·rw[List.mem_singleton]at h;subst h;exact ⟨by simp,(zQwa fit.ctx _).2⟩,fit.room,fit.loc,app (app (one _ (Nat.zero_le _)) lb) (one _ (Nat.zero_le _))⟩
   have fit2:Fits B c (t,lo,[deadI]++code,u):=⟨fit.one,fit.ctx,fit.room,fit.loc,app (one _ (Nat.zero_le _)) lb⟩
   have fit3:Fits B c (t,lo,code.dropLast++[retI]++[endI],u):=⟨fit.one,fit.ctx,fit.room,fit.loc,app (app lbd (one _ (Nat.zero_le _))) (one _ (Nat.zero_le _))⟩
   refine (zpza fit1 _).trans ?_;rw[show V.body zCaa accF typF (zGYa c (resOf c (t,lo,code,u))) (t,lo,[blkI c.1.length]++code++[endI],u)=0 from z1];show (zXaa c (t,lo,[deadI]++code,u) λr34=>cond (r34==0) (zXaa c (t,lo,code.dropLast++[retI]++[endI],u) λr36=>K (r36==0)) (K false))=K true;refine (zpza fit2 _).trans ?_;rw[show V.body zCaa accF typF c (t,lo,[deadI]++code,u)=0 from z2];show (zXaa c (t,lo,code.dropLast++[retI]++[endI],u) λr36=>K (r36==0))=K true;refine (zpza fit3 _).trans ?_;rw[show V.body zCaa accF typF c (t,lo,code.dropLast++[retI]++[endI],u)=0 from z3];rfl
  ·rw[if_neg hz]
end
end Go.Trm.V
namespace Go.Trm.V
open Go.Trm.G1
theorem pure_blocks (m:Ty32.I) (i:Int) (h:okI Ty32 m):zKda m i Yes=some ():=ztYa m i (znYa h) Yes
end Go.Trm.V
