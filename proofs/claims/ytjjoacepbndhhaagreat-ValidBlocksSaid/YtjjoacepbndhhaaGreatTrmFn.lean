import Derived.Test.YtjjoacepbndhhaaGreatTrmDraw
set_option linter.unusedVariables false
set_option linter.unusedSimpArgs false
namespace Go.Trm
theorem zsWa {α:Type} {xs:Array α} {i j:Nat} {f g:α→α} (h:i≠j):(xs.modify i f).modify j g=(xs.modify j g).modify i f:=by
 apply Array.ext
 ·simp
 ·intro k h1 h2;simp only[Array.getElem_modify];by_cases e1:i=k<;>by_cases e2:j=k<;>simp_all
theorem zaSa {α:Type} {xs:Array α} {i:Nat} {f g:α→α}:(xs.modify i f).modify i g=xs.modify i (fun x=>g (f x)):=by
 apply Array.ext
 ·simp
 ·intro k h1 h2;simp only[Array.getElem_modify];by_cases e1:i=k<;>simp_all
theorem zrWa {α:Type} {xs:Array α} {i:Nat} {f:α→α} {x:α} (h:i<xs.size):(xs.push x).modify i f=(xs.modify i f).push x:=by
 apply Array.ext
 ·simp
 ·intro k h1 h2;simp only[Array.getElem_modify,Array.getElem_push,Array.size_modify];by_cases e1:i=k
  ·subst e1; simp[h]
  ·simp[e1]
theorem zxpa {w:World} {b k:Nat} {u v:Value}:(w.setCell ⟨b,k,none⟩ u).setCell ⟨b,k,none⟩ v=w.setCell ⟨b,k,none⟩ v:=by
 unfold World.setCell;simp only[zaSa]
 congr 2
 funext o
 cases o<;>simp
theorem zUTa {w:World} {b k b' k':Nat} {u v:Value} (h:b≠b'):(w.setCell ⟨b,k,none⟩ u).setCell ⟨b',k',none⟩ v=(w.setCell ⟨b',k',none⟩ v).setCell ⟨b,k,none⟩ u:=by
 unfold World.setCell;simp only;rw[zsWa h]
theorem zQxa {b0 k0:Nat} {u:Value} {b:Nat} (h:b0≠b):∀ {vs:List Value} {o:Nat} {w:World},(w.setCell ⟨b0,k0,none⟩ u).setCells b o vs=(w.setCells b o vs).setCell ⟨b0,k0,none⟩ u
 |[],_,_=>rfl
 |v::vs,o,w=>by
  simp only[World.setCells];rw[zUTa h,zQxa h]
theorem zEKa {w:World} {b0 k0:Nat} {u:Value} {b:Nat} (h:b≠b0):Same w (w.setCell ⟨b0,k0,none⟩ u) b:=by
 show (w.setCell ⟨b0,k0,none⟩ u).heap[b]?=w.heap[b]?;simp only[World.setCell,Array.getElem?_modify];rw[if_neg (Ne.symm h)]
theorem zvHa {b:Nat} {b':Nat} (h:b'≠b):∀ {vs:List Value} {o:Nat} {w:World},Same w (w.setCells b o vs) b'
 |[],_,_=>rfl
 |v::vs,o,w=>by
  simp only[World.setCells];exact zMja (zEKa h) (zvHa h)
theorem zkRa {w:World} {b k:Nat} {u v:Value} {ob:Obj} (h:b<w.heap.size):(w.drew.alloc ob).setCell ⟨b,k,none⟩ v=((w.setCell ⟨b,k,none⟩ u).drew.alloc ob).setCell ⟨b,k,none⟩ v:=by
 have e:((w.setCell ⟨b,k,none⟩ u).drew.alloc ob)=(w.drew.alloc ob).setCell ⟨b,k,none⟩ u:=by
  unfold World.setCell World.alloc World.drew;simp only;rw[zrWa h]
 rw[e,zxpa]
section
variable {P:Program} {env:Env} {e:Entry} {F:Blks} {w:World} {st:St} {V:Nat→Value} {fp:Nat→Blks} {fl:Blks} {a:Act} {R:Type} {K:Unit→St→Option R} {res:R} {C:Cx R} {gh:Nat→Value}
def zFTa (P:Program) (F:Blks) (w w2:World) (t:Ty) (m:Md) (U:TypeId) (x:Value) (y:List t.I) (fq:Blks):Prop :=
 ∃news:List Value,_root_.Go.Src P t.size U x y.length news w∧_root_.Go.Src P t.size U x y.length news w2∧∃fs:Nat→Blks,Disj fs∧(∀i b,fs i b→fq b)∧∀i,i<y.length→rep F w t m (y.getD i t.dflt) (fun j=>news.getD (i*t.size+j) undef) (fs i)
theorem zpYa {U:TypeId} {et:TypeId} {t:Ty} {mu m:Md} {w2:World} {y:List t.I} {val:Value} {fq:Blks} (hU:P.underlying U=some (.slice et)) (hv:isV (.sl et t) val) (hrep:rep F w (.sl et t) mu y (cv val) fq) (hnj:mu.noJ=true)
  (hel:∀(x:t.I) (c:Cells) (f:Blks),rep F w t mu.el x c f→rep F w t m x c none') (h2:∀b,(F b∨fq b)→Same w w2 b):zFTa P F w w2 t m U val y none':=by
 have hval:=zTTa hv;have hnil:∀cap,cv val 0 = .slice none y.length cap→y=[]→zFTa P F w w2 t m U val y none':=by
  rintro cap h rfl
  refine ⟨[],?_,?_,fun _=>none',⟨fun _ _ _ _ hb=>hb.elim⟩,fun _ _ hb=>hb.elim,fun i hi=>by simp at hi⟩
  ·rw[hval,h]; exact Src.ofNil w hU cap
  ·rw[hval,h]; exact Src.ofNil w2 hU cap
 have hnil2:∀A cap,cv val 0 = .slice (some A) y.length cap→y=[]→zFTa P F w w2 t m U val y none':=by
  rintro A cap h rfl
  refine ⟨[],?_,?_,fun _=>none',⟨fun _ _ _ _ hb=>hb.elim⟩,fun _ _ hb=>hb.elim,fun i hi=>by simp at hi⟩
  ·rw[hval,h]; exact Src.ofSlice w hU A 0 cap [] (by simp) (fun j u hj=>by simp at hj) (fun u hu=>by simp at hu)
  ·rw[hval,h]; exact Src.ofSlice w2 hU A 0 cap [] (by simp) (fun j u hj=>by simp at hj) (fun u hu=>by simp at hu)
 have hsome:∀(b k cap:Nat) (wr:Bool) (fs:Nat→Blks),cv val 0 = .slice (some ⟨b,k,none⟩) y.length cap→(y.length*t.size=0∨(zTga w b (k+y.length*t.size) wr∧Same w w2 b)) →
   (∀i,i<y.length→rep F w t mu.el (y.getD i t.dflt) (rowW w b (k+i*t.size)) (fs i))→zFTa P F w w2 t m U val y none':=by
  intro b k cap wr fs h hh hr;have hnj':mu.el.noJ=true:=by cases mu<;>first|exact hnj|cases hnj
  have hone:∀u∈rowL (rowW w b k) (y.length*t.size),u.oneCell'=true:=by
   intro u hu;obtain ⟨j,hj⟩:=List.mem_iff_getElem?.1 hu;obtain ⟨hj',rfl⟩:=zZua hj;have hs0:0<t.size:=by
    rcases Nat.eq_zero_or_pos t.size with h0|h0
    ·rw[h0]at hj'; simp at hj'
    ·exact h0
   have h1:j/t.size<y.length:=Nat.div_lt_of_lt_mul (by rwa [Nat.mul_comm]);have h2:=zaUa (hr _ h1) hnj' (j%t.size) (Nat.mod_lt _ hs0);rw[zWba,Nat.add_assoc,Nat.mul_comm,Nat.div_add_mod,←zWba]at h2;exact h2
  refine ⟨rowL (rowW w b k) (y.length*t.size),?_,?_,fun _=>none',⟨fun _ _ _ _ hb=>hb.elim⟩,fun _ _ hb=>hb.elim,fun i hi=>hel _ _ _ (zEaa (fun j hj=>?_) (hr i hi))⟩
  ·rw[hval,h];refine Src.ofSlice w hU _ _ _ _ zbDa (fun j u hj=>?_) hone;obtain ⟨hj',rfl⟩:=zZua hj;rcases hh with hh|hh
   ·omega
   ·rw[zSfa,zZla hh.1 (by omega),←zWba]
  ·rw[hval,h];refine Src.ofSlice w2 hU _ _ _ _ zbDa (fun j u hj=>?_) hone;obtain ⟨hj',rfl⟩:=zZua hj;rcases hh with hh|hh
   ·omega
   ·rw[zSfa,zZla ((zAca hh.2).2 hh.1) (by omega),zRfa hh.2,←zWba]
  ·rw[zsPa (zEJa hi hj),zWba w b k,zWba w b (k+i*t.size),Nat.add_assoc]
 cases mu with
 |j=>cases hnj
 |p _ _ =>
  simp only[rep]at hrep;obtain ⟨A,cap,q1,q2,q3,q4,q5⟩:=hrep;cases A with
  |none=>exact hnil cap q1 (List.eq_nil_of_length_eq_zero (by have:=q4 rfl; omega))
  |some A=>exact (q5 A rfl).2.elim
 |s =>
  simp only[rep]at hrep;obtain ⟨A,cap,q1,q2,q3,q4,q5⟩:=hrep;cases A with
  |none=>exact hnil cap q1 (List.eq_nil_of_length_eq_zero (by have:=q4 rfl; omega))
  |some A =>
   obtain ⟨hsp,q6,q7⟩:=q5 A rfl;by_cases hc0:cap=0
   ·exact hnil2 A cap q1 (List.eq_nil_of_length_eq_zero (by omega))
   replace hsp:=hsp (by omega)
   obtain ⟨b,k,sp⟩:=A;simp only at hsp;subst hsp;exact hsome b k cap false (fun _=>none') q1 (q6.imp id (fun z=>⟨z.2,h2 _ (.inl z.1)⟩)) q7
 |o mm =>
  simp only[rep]at hrep;obtain ⟨A,cap,q1,q2,q3,q4,q5⟩:=hrep;cases A with
  |none=>exact hnil cap q1 (List.eq_nil_of_length_eq_zero (by have:=q4 rfl; omega))
  |some A =>
   obtain ⟨hsp,q6,q7,fs,q8,q9,q10⟩:=q5 A rfl;by_cases hc0:cap=0
   ·exact hnil2 A cap q1 (List.eq_nil_of_length_eq_zero (by omega))
   replace hsp:=hsp (by omega)
   obtain ⟨b,k,sp⟩:=A;simp only at hsp;subst hsp;refine hsome b k cap false fs q1 (.inr ⟨?_,h2 _ (.inr q6)⟩) q10;obtain ⟨cs,el,fz,z1,z2,_⟩:=q7;have:y.length*t.size≤cap*t.size:=Nat.mul_le_mul_right _ q2;exact ⟨cs,el,fz,z1,by simp only at z2; omega,nofun⟩
theorem zxYa {T U ty:TypeId} {et:TypeId} {t:Ty} {m:Md} {y y':List t.I} {v x:Value} {f1 f2:Blks} {w2:World} {b0 k0:Nat} {u0:Value} (hw2:w=w2.setCell ⟨b0,k0,none⟩ u0) (hb0:¬fl b0) (hz0:b0<w2.heap.size) (hw:wt P (.sl et t) T=true) (hS:SR e F w st V fp fl) (hv:isV (.sl et t) v) (hr:rep F w (.sl et t) (.o m) y (cv v) f1) (hb:zFTa P F w w2 t m U x y' f2)
  (h1:∀b,f1 b→fl b) (h2:∀b,f2 b→fl b) (h12:∀b,f1 b→¬f2 b) (hle:y.length+y'.length≤most) :
  ∃v' w' w2' fl' fq,(Builtin.append_ #[T,U] ty #[v,x]).run P w2 = .ok v' w2'∧SR e F w' st V fp fl'∧isV (.sl et t) v'∧rep F w' (.sl et t) (.o m) (y++y') (cv v') fq∧(∀b,fq b→fl' b)∧(∀v0,w2'.setCell ⟨b0,k0,none⟩ v0=w'.setCell ⟨b0,k0,none⟩ v0)∧(∀b,b<w2.heap.size→¬fl b→Same w2 w2' b)∧(∀b,b<w.heap.size→¬fl b→Same w w' b):=by
 have hs2:∀b,b≠b0→Same w2 w b:=fun b hbn=>by subst hw2; exact zEKa hbn
 have hsz2:w.heap.size=w2.heap.size:=by subst hw2; simp[World.setCell]
 obtain ⟨g1,g2⟩:=wt_sl hw;obtain ⟨i',z',j1,j2,j3,j4,j5,j6⟩:=zzwa g2;obtain ⟨news,hsrc,hsrc',fs2,d2,s2,r2⟩:=hb;rw[←j2]at hsrc hsrc';have hnl:news.length=y'.length*t.size:=by rw[hsrc.newsLen,j2]
 have hval:=zTTa hv;simp only[rep]at hr;obtain ⟨A,cap,q1,q2,q3,q4,q5⟩:=hr;have hve:v = .slice A y.length cap:=hval.trans q1;unfold most at hle;by_cases hroom:y.length+y'.length≤cap
 ·by_cases hc0:cap=0
  ·have hy0:y=[]:=List.eq_nil_of_length_eq_zero (by omega);have hy0':y'=[]:=List.eq_nil_of_length_eq_zero (by omega);subst hy0;subst hy0';have hn0:news=[]:=List.eq_nil_of_length_eq_zero (by rw[hnl]; simp);subst hn0;have hrun:=run_append_nothing (P:=P) w2 T U ty et i' g1 j1 A 0 cap (by omega) x hsrc';refine ⟨v,w,w2,fl,f1,by rw[hve]; exact hrun,hS,hv,?_,h1,fun v0=>by rw[hw2,zxpa],fun _ _ _=>rfl,fun _ _ _=>rfl⟩;simp only[rep];exact ⟨A,cap,q1,q2,q3,q4,q5⟩
  cases A with
  |none=>exact absurd (q4 rfl) hc0
  |some A =>
   obtain ⟨hsp,p1,p2,fs1,d1,s1,r1⟩:=q5 A rfl
   replace hsp:=hsp (by omega)
   obtain ⟨b,k,sp⟩:=A;simp only at hsp;subst hsp;simp only at p1 p2 s1 r1;have hoff:k+y.length*t.size+news.length≤k+cap*t.size:=by
    rw[hnl];have:(y.length+y'.length)*t.size≤cap*t.size:=Nat.mul_le_mul_right _ hroom;rw[Nat.add_mul]at this;omega
   have hbb:b≠b0:=fun hc=>hb0 (hc ▸ h1 b p1)
   have p2':=(zAca (hs2 b hbb)).1 p2;have hrun:=run_append_room_src (P:=P) w2 T U ty et i' g1 j1 b k y.length cap x y'.length news hsrc' hroom
    (fun j hj=>by rw[j2,zZla p2' (by omega)]; rfl) (fun j hj=>by rw[j2]; exact zCEa p2' (by omega))
   rw[j2]at hrun;obtain ⟨cs,el,fz,c1,c2,c3⟩:=p2;obtain ⟨cs',k1,k2,k3,k4,k5,k6⟩:=zGra (vs:=news) (o:=k+y.length*t.size) c1 (by omega);have hsame:∀b',b'≠b→Same w (w.setCells b (k+y.length*t.size) news) b':=k5;have hbF:∀b',F b'→b'≠b:=fun b' hb' hc=>hS.flF b (h1 b p1) (hc ▸ hb')
   refine ⟨_,w.setCells b (k+y.length*t.size) news,_,fl,fun b=>f1 b∨f2 b,by rw[hve]; exact hrun,hS.world (fun b' _ hb'=>hsame b' (fun hc=>hb' (hc ▸ h1 b p1))) ⟨zJua _ _ _ _,Nat.le_of_eq k6.symm⟩ (fun b' hb'=>⟨.inl hb',by rw[k6]; exact hS.flH b' hb'⟩),zbQa,?_,fun b hb=>by
    rcases hb with hb|hb
    ·exact h1 b hb
    ·exact h2 b hb,fun v0=>by rw[hw2,zQxa (Ne.symm hbb),zxpa],fun b' _ hb'=>zvHa (fun hc=>hb' (by rw[hc]; exact h1 b p1)),fun b' _ hb'=>hsame b' (fun hc=>hb' (hc ▸ h1 b p1))⟩
   simp only[rep];refine ⟨some ⟨b,k,none⟩,cap,by rw[List.length_append]; rfl,by rw[List.length_append]; exact hroom,q3,nofun,fun A hA=>?_⟩;cases hA;refine ⟨fun _=>rfl,.inl p1,⟨cs',el,fz,k1,by rw[k2]; exact c2,fun hw=>by rw[k2]; exact c3 hw⟩,fun i b'=>(i<y.length∧fs1 i b')∨(y.length≤i∧fs2 (i-y.length) b'),⟨fun i j hij b' hb hb'=>?_⟩,fun i b' hb'=>?_,fun i hi=>?_⟩
   ·rcases hb with ⟨u1,hb⟩|⟨u1,hb⟩<;>rcases hb' with ⟨u2,hb'⟩|⟨u2,hb'⟩
    ·exact d1.disj i j hij b' hb hb'
    ·exact h12 b' (s1 i b' hb).1 (s2 _ b' hb')
    ·exact h12 b' (s1 j b' hb').1 (s2 _ b' hb)
    ·exact d2.disj _ _ (by omega) b' hb hb'
   ·rcases hb' with ⟨_,hb'⟩|⟨_,hb'⟩
    ·exact ⟨.inl (s1 i b' hb').1,(s1 i b' hb').2⟩
    ·exact ⟨.inr (s2 _ b' hb'),fun hc=>h12 b p1 (by have h9:=s2 _ b' hb'; rw[hc]at h9; exact h9)⟩
   ·rw[zzFa];rw[List.length_append]at hi;split
    ·rename_i hlt;refine zEoa (fun b' hb' => .inl ⟨hlt,hb'⟩) (zEaa (fun j hj=>?_) (zxaa (fun _ hb=>hb) (fun b' hb'=>hsame b' (hbF b' hb')) (fun b' hb'=>hsame b' (s1 i b' hb').2) (r1 i hlt)));rw[zABa k1,zABa c1];have:=zEJa hlt hj;rw[k4 _ (.inl (by simp only; omega))]
    ·rename_i hge;have hi2:i-y.length<y'.length:=by omega
     refine zEoa (fun b' hb' => .inr ⟨by omega,hb'⟩) (zEaa (fun j hj=>?_) (zxaa (fun _ hb=>hb) (fun b' hb'=>hsame b' (hbF b' hb')) (fun b' hb'=>hsame b' (fun hc=>h12 b p1 (hc ▸ s2 _ b' hb'))) (r2 (i-y.length) hi2)));have:=zEJa hi2 hj;have e1:k+i*t.size+j=k+y.length*t.size+((i-y.length)*t.size+j):=by
      have:i*t.size=y.length*t.size+(i-y.length)*t.size:=by rw[←Nat.add_mul]; congr 1; omega
      omega
     rw[zABa k1,e1,k3 _ (by rw[hnl]; exact this)]
 ·have hgrow:cap<y.length+y'.length:=by omega
  have hfit:Builtin.nextslicecap (y.length+y'.length) cap*i'.bytes≤281474976710656:=growslice_fits hgrow (by
   have:(y.length+y'.length)*i'.bytes≤4294967296*4096:=Nat.mul_le_mul hle j3;omega)
  have key:∃olds:List Value,olds.length=y.length*t.size∧(Builtin.firstCells i'.size y.length (.slice A y.length cap)).run P w2.drew = .ok olds.toArray w2.drew∧∃fs1:Nat→Blks,Disj fs1∧(∀i b,fs1 i b→f1 b) ∧
    ∀i,i<y.length→rep F w t m (y.getD i t.dflt) (fun j=>olds.getD (i*t.size+j) undef) (fs1 i):=by
   cases A with
   |none =>
    have hc0:=q4 rfl;have hy0:y=[]:=List.eq_nil_of_length_eq_zero (by omega);subst hy0;exact ⟨[],by simp,run_firstCells_none w2.drew _ _ _ _,fun _=>none',⟨fun _ _ _ _ hb=>hb.elim⟩,fun _ _ hb=>hb.elim,fun i hi=>by simp at hi⟩
   |some A =>
    by_cases hc0:cap=0
    ·have hy0:y=[]:=List.eq_nil_of_length_eq_zero (by omega);subst hy0;exact ⟨[],by simp,run_firstCells_some w2.drew _ _ _ _ _ [] (by simp) (fun j v hj=>by simp at hj),fun _=>none',⟨fun _ _ _ _ hb=>hb.elim⟩,fun _ _ hb=>hb.elim,fun i hi=>by simp at hi⟩
    obtain ⟨hsp,p1,p2,fs1,d1,s1,r1⟩:=q5 A rfl
    replace hsp:=hsp (by omega)
    obtain ⟨b,k,sp⟩:=A;simp only at hsp;subst hsp;simp only at p1 p2 s1 r1;have hbb:b≠b0:=fun hc=>hb0 (hc ▸ h1 b p1)
    have p2':=(zAca (hs2 b hbb)).1 p2;refine ⟨rowL (rowW w b k) (y.length*t.size),zbDa,?_,fs1,d1,fun i b hb=>(s1 i b hb).1,fun i hi=>zEaa (fun j hj=>?_) (r1 i hi)⟩
    ·rw[j2];refine run_firstCells_some w2.drew _ _ _ _ _ _ zbDa fun j v hj=>?_
     obtain ⟨hj',rfl⟩:=zZua hj;rw[World.cell?_drew,zSfa,zZla p2' (by
      have:y.length*t.size≤cap*t.size:=Nat.mul_le_mul_right _ q2;omega),←zRfa (hs2 b hbb),←zWba]
    ·rw[zsPa (zEJa hi hj),zWba w b k,zWba w b (k+i*t.size),Nat.add_assoc]
  obtain ⟨olds,ol,hold,fs1,d1,s1,r1⟩:=key;have hrun:=run_append_grow_src (P:=P) w2 T U ty et i' z' g1 j1 j4 A y.length cap olds hold x y'.length news hsrc' hgrow (by omega) hfit;have hgc:=grownCap_ge w2 (y.length+y'.length) cap et;have hmx:=grownCap_le_maxLen w2 (y.length+y'.length) cap et (by unfold maxLen; omega);generalize hcsd:(olds++news).toArray++Builtin.zeroCells z'.cells (grownCap w2 (y.length+y'.length) cap et-(y.length+y'.length))=cs at hrun;have hcs:cs.size=grownCap w2 (y.length+y'.length) cap et*t.size:=by
   rw[←hcsd];have:(Builtin.zeroCells z'.cells (grownCap w2 (y.length+y'.length) cap et-(y.length+y'.length))).size=(grownCap w2 (y.length+y'.length) cap et-(y.length+y'.length))*t.size:=by
    simp[Builtin.zeroCells,j6,zeba]
   simp only[Array.size_append,this,List.size_toArray,List.length_append,ol,hnl];rw[←Nat.add_mul,←Nat.add_mul]
   congr 1
   omega
  have hget1:∀q,q<y.length*t.size→cs.getD q undef=olds.getD q undef:=by
   intro q hq;rw[←hcsd];simp only[Array.getD_eq_getD_getElem?,List.getD_eq_getElem?_getD];rw[Array.getElem?_append_left (by simp[ol]; omega)];simp only[List.getElem?_toArray];rw[List.getElem?_append_left (by rw[ol]; exact hq)]
  have hget2:∀q,q<y'.length*t.size→cs.getD (y.length*t.size+q) undef=news.getD q undef:=by
   intro q hq;rw[←hcsd];simp only[Array.getD_eq_getD_getElem?,List.getD_eq_getElem?_getD];rw[Array.getElem?_append_left (by simp[ol,hnl]; omega)];simp only[List.getElem?_toArray];rw[List.getElem?_append_right (by rw[ol]; omega),ol,Nat.add_sub_cancel_left]
  have hnew:=zYoa (w:=w.drew) (ob := .cells cs et);have hold':∀b,b<w.heap.size→Same w (w.drew.alloc (.cells cs et)) b:=fun b hb=>zPda (w:=w.drew) hb
  have hrr:=zJRa (F:=F) (w':=w.drew.alloc (.cells cs et)) (et:=et) (t:=t) (m:=m) (z:=y++y') (fs:=fun i b'=>(i<y.length∧fs1 i b')∨(y.length≤i∧fs2 (i-y.length) b')) hnew rfl hcs (by rw[List.length_append]; exact hgc) hmx
   ⟨fun i j hij b' hb hb'=>by
    rcases hb with ⟨u1,hb⟩|⟨u1,hb⟩<;>rcases hb' with ⟨u2,hb'⟩|⟨u2,hb'⟩
    ·exact d1.disj i j hij b' hb hb'
    ·exact h12 b' (s1 i b' hb) (s2 _ b' hb')
    ·exact h12 b' (s1 j b' hb') (s2 _ b' hb)
    ·exact d2.disj _ _ (by omega) b' hb hb'⟩
   (fun i b' hb' hc=>by
    have:b'<w.heap.size:=by
     rcases hb' with ⟨_,hb'⟩|⟨_,hb'⟩
     ·exact hS.flH _ (h1 _ (s1 _ _ hb'))
     ·exact hS.flH _ (h2 _ (s2 _ _ hb'))
    exact absurd hc (Nat.ne_of_lt this))
   (fun i hi=>by
    rw[List.length_append]at hi;rw[zzFa];split
    ·rename_i hlt;refine zEoa (fun b' hb' => .inl ⟨hlt,hb'⟩) (zEaa (fun j hj=>(hget1 _ (zEJa hlt hj)).symm) (zxaa (fun _ hb=>hb) (fun b' hb'=>hold' b' (hS.inF b' hb')) (fun b' hb'=>hold' b' (hS.flH _ (h1 _ (s1 _ _ hb')))) (r1 i hlt)))
    ·rename_i hge;have hi2:i-y.length<y'.length:=by omega
     refine zEoa (fun b' hb' => .inr ⟨by omega,hb'⟩) (zEaa (fun j hj=>?_) (zxaa (fun _ hb=>hb) (fun b' hb'=>hold' b' (hS.inF b' hb')) (fun b' hb'=>hold' b' (hS.flH _ (h2 _ (s2 _ _ hb')))) (r2 (i-y.length) hi2)));have e1:i*t.size+j=y.length*t.size+((i-y.length)*t.size+j):=by
      have:i*t.size=y.length*t.size+(i-y.length)*t.size:=by rw[←Nat.add_mul]; congr 1; omega
      omega
     rw[e1,hget2 _ (zEJa hi2 hj)])
  rw[List.length_append]at hrr;have hsz3:w.drew.heap.size=w2.heap.size:=hsz2;rw[hsz3]at hrr;refine ⟨_,w.drew.alloc (.cells cs et),_,_,_,by rw[hve]; exact hrun,hS.push (fun b hb=>zPda (w:=w.drew) hb) (World.size_alloc w.drew _) hsz2.symm ⟨rfl,rfl,rfl⟩,zbQa,hrr,fun b hb=>?_,fun v0=>by rw[hw2,zkRa hz0],fun b hb _=>zPda (w:=w2.drew) hb,fun b hb _=>zPda (w:=w.drew) hb⟩;rcases hb with hb|⟨i,⟨_,hb⟩|⟨_,hb⟩⟩
  ·exact .inr hb
  ·exact .inl (h1 _ (s1 _ _ hb))
  ·exact .inl (h2 _ (s2 _ _ hb))
end
theorem zNVa (a b:Md):(Md.mkp a b).fst=a:=by cases a<;>cases b<;>rfl
theorem zMVa (a b:Md):(Md.mkp a b).snd=b:=by cases a<;>cases b<;>rfl
theorem zDKa {t:Ty} {m:Md} {x:t.I} {u:Ty} {mu:Md} {y:u.I} {m':Md} {x':t.I} (y0:u.I) (h:setP t m x [] u mu y=some (m',x')):∃x0,setP t m x [] u mu y0=some (m',x0)∧setP t m' x0 [] u mu y=some (m',x')∧getP t m' x0 []=some ⟨u,mu,y0⟩:=by
 simp only[setP]at h;cases hc:castI u t y with
 |none=>rw[hc]at h; cases h
 |some z =>
  obtain ⟨e,he⟩:=zdca hc;subst e;rw[hc]at h;simp only[Option.some.injEq,Prod.mk.injEq]at h;obtain ⟨rfl,rfl⟩:=h;obtain ⟨z0,hz0⟩:∃z0,castI u u y0=some z0:=by
   unfold castI at hc ⊢;split at hc
   ·rename_i hb; rw[dif_pos hb]; exact ⟨_,rfl⟩
   ·cases hc
  have e0:y0=z0:=by
   obtain ⟨e',he'⟩:=zdca hz0;simpa using he'
  subst e0;refine ⟨y0,?_,?_,?_⟩
  ·simp only[setP,hz0]
  ·simp only[setP,hc]
  ·simp only[getP]
theorem zq0a:∀ {p:List PE} {t:Ty} {m:Md} {x:t.I} {u:Ty} {mu:Md} {y:u.I} {m':Md} {x':t.I} (y0:u.I),setP t m x p u mu y=some (m',x')→inP t x p→∃x0,setP t m x p u mu y0=some (m',x0)∧setP t m' x0 p u mu y=some (m',x')∧getP t m' x0 p=some ⟨u,mu,y0⟩:=by
 intro p t
 induction t generalizing p with
 |pair a b iha ihb =>
  intro m x u mu y m' x' y0 h hi;cases p with
  |nil=>exact zDKa y0 h
  |cons q p =>
   cases q with
   |fld n =>
    cases n with
    |zero =>
     simp only[setP]at h;simp only[inP]at hi;cases h1:setP a m.fst x.1 p u mu y with
     |none=>rw[h1]at h; cases h
     |some z =>
      obtain ⟨m1,x1⟩:=z;rw[h1]at h;simp only[Option.some.injEq,Prod.mk.injEq]at h;obtain ⟨rfl,rfl⟩:=h;obtain ⟨z0,e1,e2,e3⟩:=iha y0 h1 hi;refine ⟨(z0,x.2),?_,?_,?_⟩
      ·simp only[setP,e1]
      ·simp only[setP,zNVa,zMVa,e2]
      ·simp only[getP,zNVa,zMVa,e3]
    |succ n =>
     simp only[setP]at h;simp only[inP]at hi;cases h1:setP b m.snd x.2 (.fld n::p) u mu y with
     |none=>rw[h1]at h; cases h
     |some z =>
      obtain ⟨m1,x1⟩:=z;rw[h1]at h;simp only[Option.some.injEq,Prod.mk.injEq]at h;obtain ⟨rfl,rfl⟩:=h;obtain ⟨z0,e1,e2,e3⟩:=ihb y0 h1 hi;refine ⟨(x.1,z0),?_,?_,?_⟩
      ·simp only[setP,e1]
      ·simp only[setP,zNVa,zMVa,e2]
      ·simp only[getP,zNVa,zMVa,e3]
   |der=>simp[setP]at h
   |idx i=>simp[setP]at h
 |ptr e t ih =>
  intro m x u mu y m' x' y0 h hi;cases p with
  |nil=>exact zDKa y0 h
  |cons q p =>
   cases q with
   |der =>
    cases m with
    |o m =>
     simp only[setP]at h;simp only[inP]at hi;cases x with
     |none=>cases h
     |some c =>
      simp only at h hi;cases h1:setP t m c p u mu y with
      |none=>rw[h1]at h; cases h
      |some z =>
       obtain ⟨m1,x1⟩:=z;rw[h1]at h;simp only[Option.some.injEq,Prod.mk.injEq]at h;obtain ⟨rfl,rfl⟩:=h;obtain ⟨z0,e1,e2,e3⟩:=ih y0 h1 hi;refine ⟨some z0,?_,?_,?_⟩
       ·simp only[setP,e1]
       ·simp only[setP,e2]
       ·simp only[getP,Md.el,e3]
    |_=>simp[setP]at h
   |fld n=>simp[setP]at h
   |idx i=>simp[setP]at h
 |sl e t ih =>
  intro m x u mu y m' x' y0 h hi;cases p with
  |nil=>exact zDKa y0 h
  |cons q p =>
   cases q with
   |idx i =>
    cases m with
    |o m =>
     simp only[setP]at h;simp only[inP]at hi;cases h1:setP t m (List.getD (x:List t.I) i.toNat t.dflt) p u mu y with
     |none=>rw[h1]at h; cases h
     |some z =>
      obtain ⟨m1,x1⟩:=z;rw[h1]at h;simp only at h;cases hb:m1.eqb m with
      |false=>rw[hb]at h; cases h
      |true =>
       rw[hb]at h;obtain rfl:=Md.eqb_eq hb;simp only[Option.some.injEq,Prod.mk.injEq]at h;obtain ⟨rfl,rfl⟩:=h;obtain ⟨z0,e1,e2,e3⟩:=ih y0 h1 hi.2;refine ⟨List.set (x:List t.I) i.toNat z0,?_,?_,?_⟩
       ·simp only[setP,e1,hb]
       ·simp only[setP];rw[zjca hi.1,e2];simp only[hb];exact congrArg (fun l:List t.I=>(some (Md.o m1,l):Option (Md×List t.I))) (List.set_set _)
       ·simp only[getP];rw[zjca hi.1];exact e3
    |_=>simp[setP]at h
   |fld n=>simp[setP]at h
   |der=>simp[setP]at h
 |arr k t ih =>
  intro m x u mu y m' x' y0 h hi;cases p with
  |nil=>exact zDKa y0 h
  |cons q p =>
   cases q with
   |idx i =>
    simp only[setP]at h;simp only[inP]at hi;cases hj:m.isJ with
    |true=>rw[hj]at h; simp at h
    |false =>
     cases h1:setP t m.el (List.getD (x:List t.I) i.toNat t.dflt) p u mu y with
     |none=>rw[hj,h1]at h; cases h
     |some z =>
      obtain ⟨m1,x1⟩:=z;rw[hj,h1]at h;simp only at h;cases hb:m1.eqb m.el with
      |false=>rw[hb]at h; cases h
      |true =>
       rw[hb]at h;have e:=Md.eqb_eq hb;subst e;simp only[Option.some.injEq,Prod.mk.injEq]at h;obtain ⟨rfl,rfl⟩:=h;obtain ⟨z0,e1,e2,e3⟩:=ih y0 h1 hi.2;refine ⟨List.set (x:List t.I) i.toNat z0,?_,?_,?_⟩
       ·simp only[setP,hj,e1,hb]
       ·simp only[setP,hj];rw[zjca hi.1,e2];simp only[hb];exact congrArg (fun l:List t.I=>(some (m,l):Option (Md×List t.I))) (List.set_set _)
       ·simp only[getP];rw[zjca hi.1];exact e3
   |fld n=>simp[setP]at h
   |der=>simp[setP]at h
 |_ =>
  intro m x u mu y m' x' y0 h hi;cases p with
  |nil=>exact zDKa y0 h
  |cons q p=>cases q<;>simp[setP]at h
theorem zeKa:∀ {p q:List PE},zPRa p q=true→p=q
 |[],[],_=>rfl
 | .fld i::p,.fld j::q,h=>by
  simp only[zPRa]at h;split at h
  ·rename_i hb; rw[Nat.eq_of_beq_eq_true hb,zeKa h]
  ·cases h
 | .der::p,.der::q,h=>by rw[zeKa (p:=p) (q:=q) h]
 | .idx i::p,.idx j::q,h=>by
  simp only[zPRa,Bool.and_eq_true,beq_iff_eq]at h;rw[h.1,zeKa h.2]
 |[],_::_,h=>by cases h
 | .fld _::_,[],h=>by cases h
 | .fld _::_,.der::_,h=>by cases h
 | .fld _::_,.idx _::_,h=>by cases h
 | .der::_,[],h=>by cases h
 | .der::_,.fld _::_,h=>by cases h
 | .der::_,.idx _::_,h=>by cases h
 | .idx _::_,[],h=>by cases h
 | .idx _::_,.fld _::_,h=>by cases h
 | .idx _::_,.der::_,h=>by cases h
section
variable {P:Program} {env:Env} {e:Entry} {F:Blks} {w:World} {st:St} {V:Nat→Value} {fp:Nat→Blks} {fl:Blks} {a:Act} {R:Type} {K:Unit→St→Option R} {res:R} {C:Cx R} {gh:Nat→Value} {Q:Exit→Act→World→Prop}
theorem zZYa (st:St) (r:Nat) (p:List PE):(st.kill r p).kill r p=st.kill r p:=by
 funext i
 cases h:st i with
 |v t m x=>rw[zRVa (zRVa h),zRVa h]
 |al r' q =>
  have e:=zTVa (r:=r) (p:=p) h;cases hc:(Nat.beq r r'&&!(stays p q)) with
  |true=>rw[hc]at e; rw[zGHa e]; exact e.symm
  |false=>rw[hc]at e; rw[zTVa e,hc]; exact e.symm
 |lz r' q =>
  have e:=zOXa (r:=r) (p:=p) h;cases hc:(Nat.beq r r'&&!(q.isEmpty&&!p.isEmpty)) with
  |true=>rw[hc]at e; rw[zGHa e]; exact e.symm
  |false=>rw[hc]at e; rw[zOXa e,hc]; exact e.symm
 |sub r' q lo hi =>
  have e:=zqUa (r:=r) (p:=p) h;cases hc:Nat.beq r r' with
  |true=>rw[hc]at e; rw[zGHa e]; exact e.symm
  |false=>rw[hc]at e; rw[zqUa e,hc]; exact e.symm
 |fn f s c =>
  have e:=zPXa (r:=r) (p:=p) h;cases hc:((s++c).any fun c=>Nat.beq r c.1&&!(stays p c.2)) with
  |true=>rw[hc]at e; rw[zGHa e]; exact e.symm
  |false=>rw[hc]at e; rw[zPXa e,hc]; exact e.symm
 |bx r' q=>rw[zSVa (zSVa h),zSVa h]
 |ifc T t x=>rw[zaQa (zaQa h),zaQa h]
 |tup l=>rw[zYPa (zYPa h),zYPa h]
 |nil=>rw[zZPa (zZPa h),zZPa h]
 |un=>rw[zGHa (zGHa h),zGHa h]
theorem zUZa {st st':St} {r:Nat} {p:List PE} {i:Nat} (h:st i=st' i):st.kill r p i=st'.kill r p i:=by
 unfold St.kill;rw[h]
theorem zl3a {o o1 o2 o3:Oper} (h:(evFu env o o1 o2 o3).run C st K=some res) :
  (o.guard=none∧o1.guard=none∧o2.guard=none∧o3.guard=none)∧∃c d q d1 S i d2 T3 sx s T U,o.op = .call c∧o.dst=some d∧o1.op = .nilCheck (.tmp q)∧o1.dst=some d1∧o2.op = .fieldAddr S (.tmp d1) i∧o2.dst=some d2∧o3.op = .store T3 (.tmp d2) (.tmp d)∧o3.dst=none ∧
   c.callee = .builtin .append∧c.args.toList=[.tmp sx,.tmp s]∧c.argTypes.toList=[T,U]∧(d≠q∧d≠d1∧d≠d2∧d<env.n∧d1<env.n∧d2<env.n∧q<env.n∧sx<env.n∧s<env.n) ∧
   ∃r p t0 m0 x0 e u y m2 y2 p' t1 m1 x1,st (env.b+sx) = .lz r p∧st r = .v t0 m0 x0∧getP t0 m0 x0 p=some ⟨.sl e u,.o .s,y⟩∧st (env.b+s) = .v (.sl e u) m2 y2∧env.is T (.sl e u)=true∧env.is T3 (.sl e u)=true∧env.is U (.sl e u)=true∧u.flat=true∧m2.noJ=true∧(env.b+s≠r∧env.b+d2≠r) ∧
    st (env.b+q) = .al r p'∧getP t0 m0 x0 p'=some ⟨t1,m1,x1⟩∧env.is S t1=true∧p=p'++[.fld i]∧List.length (α:=u.I) y+List.length (α:=u.I) y2≤most ∧
    (setAt r p (.sl e u) (.o .s) (List.append (α:=u.I) y y2) (.put (env.b+d) .un (.put (env.b+d1) .un (.put (env.b+d2) .un (.ret ()))))).run C st K=some res:=by
 unfold evFu at h;split at h
 ·simp[RM.run]at h
 ·rename_i hg;split at h
  ·rename_i c d q d1 S d1' i d2 T3 d2' d' ho hod ho1 hod1 ho2 hod2 ho3 hod3;split at h
   ·rename_i sx s T U hc ha ht;split at h
    ·simp[RM.run]at h
    ·rename_i hb;simp only[fuB,Bool.and_eq_true]at hb;obtain ⟨b1,b2,b3,b4,b5,b6,b7,b8,b9,b10,b11,b12⟩:=hb;obtain rfl:=Nat.eq_of_beq_eq_true b1;obtain rfl:=Nat.eq_of_beq_eq_true b2;obtain rfl:=Nat.eq_of_beq_eq_true b3;have ne:∀ {x y:Nat},(!Nat.beq x y)=true→x≠y:=by
      intro x y hx hc;subst hc;rw[show Nat.beq x x=true from Nat.beq_refl x]at hx;cases hx
     have gd:∀ {o:Oper},zIOa o=true→o.guard=none:=by
      intro o ho;unfold zIOa at ho;split at ho
      ·assumption
      ·cases ho
     simp only[Bool.and_eq_true]at hg;refine ⟨⟨gd hg.1,gd hg.2.1,gd hg.2.2.1,gd hg.2.2.2⟩,c,d,q,d1,S,i,d2,T3,sx,s,T,U,ho,hod,ho1,hod1,ho2,hod2,ho3,hod3,hc,ha,ht,⟨ne b4,ne b5,ne b6,zsta b7,zsta b8,zsta b9,zsta b10,zsta b11,zsta b12⟩,?_⟩;simp only[RM.run]at h;split at h
     ·rename_i r p hsx;simp only[RM.run]at h;split at h
      ·rename_i t0 m0 x0 hr;split at h
       ·rename_i e u y hgp;simp only[RM.run]at h;split at h
        ·rename_i e' u' m2 y2 hs;split at h
         ·rename_i y2' hb2 hcast;obtain ⟨et,hy⟩:=zdca hcast;cases et;simp only at hy;subst hy;simp only[Bool.and_eq_true]at hb2;obtain ⟨k1,k2,k3,k4,k5,k6,k7⟩:=hb2;simp only[RM.run]at h;split at h
          ·rename_i r' p' hq;split at h
           ·rename_i t1 m1 x1 hrr hgp';obtain rfl:=Nat.eq_of_beq_eq_true hrr;split at h
            ·rename_i hS;simp only[RM.run]at h;cases hp:zPRa p (p'++[.fld i]) with
             |false=>rw[hp]at h; cases h
             |true =>
              rw[hp]at h;simp only[cond_true]at h;cases hl:decide (List.length (α:=u.I) y+List.length (α:=u.I) y2≤most) with
              |false=>rw[hl]at h; cases h
              |true =>
               rw[hl]at h;exact ⟨r,p,t0,m0,x0,e,u,y,m2,y2,p',t1,m1,x1,hsx,hr,hgp,hs,k1,k2,k3,k4,k5,⟨ne k6,ne k7⟩,hq,hgp',hS,zeKa hp,of_decide_eq_true hl,h⟩
            ·simp[RM.run]at h
           ·simp[RM.run]at h
          ·simp[RM.run]at h
         ·simp[RM.run]at h
        ·simp[RM.run]at h
       ·simp[RM.run]at h
      ·simp[RM.run]at h
     ·simp[RM.run]at h
   ·simp[RM.run]at h
  ·simp[RM.run]at h
theorem zh1a {ops:Array Oper} {n:Nat} {rest:List Nat} {o o1 o2 o3:Oper} (hE:EnvTy P env) (g0:ops[n]?=some o) (g1:ops[n+1]?=some o1) (g2:ops[n+2]?=some o2) (g3:ops[n+3]?=some o3) (hS:SR e F w st V fp none') (hA:AR env gh a V) (h:(evFu env o o1 o2 o3).run C st K=some res)
  (hN:∀F' w' st' V' fp' a',SR e F' w' st' V' fp' none'→AR env gh a' V'→K () st'=some res→wpOps P ops Q rest a' w'):wpOps P ops Q (n::(n+1)::(n+2)::(n+3)::rest) a w:=by
 obtain ⟨⟨u0,u1,u2,u3⟩,c,d,q,d1,S,i,d2,T3,sx,s,T,U,ho,hod,ho1,hod1,ho2,hod2,ho3,hod3,hc,hargs,htys,⟨n1,n2,n3,l1,l2,l3,l4,l5,l6⟩,r,p,t0,m0,x0,et,u,y,m2,y2,p',t1,m1,x1,hsx,hr,hgp,hs,hT,hT3,hU,hfl,hnj,⟨hsr,hdr⟩,hq,hgp',hST,hpp,hle,h⟩:=zl3a h;have hal0:AlOk w st V r p' (V (env.b+q)):=by have:=hS.sv (env.b+q); rw[hq]at this; exact this
 obtain ⟨b',k',fold0,e1,e2',e3',e4',P0,e5',e6'⟩:=zbka hS hal0 hr hgp';have hf:getP t1 m1 x1 [.fld i]=some ⟨.sl et u,.o .s,y⟩:=by rw[←zf1a hgp',←hpp]; exact hgp
 obtain ⟨kk,f1,f2⟩:=zeYa hf;obtain ⟨fs,fd,w1,w2,w3,w4⟩:=zM1a (Env.is_ok hE hST) f1;have hrf:=zv0a (w:=w) (c:=rowW w b' k') (ad:=some (b',k')) f1;have hal:AlOk w st V r p (.pointer (some ⟨b',k'+kk,none⟩)):=by
  intro t3 m3 x3 h3;rw[hr]at h3;cases h3;obtain ⟨a1,a2,a3,_⟩:=hal0 t0 m0 x0 hr;rw[hpp];exact ⟨ztPa a1,zlGa hgp' e3' (zfKa (q:=[.fld i]) rfl hrf),zNOa hgp' e4' (zwMa (q:=[.fld i]) rfl hrf),.sl et u,fun j=>rowW w b' k' (kk+j),b',k'+kk,(znWa e2').trans hrf,rfl⟩
 have hrb:=(hal t0 m0 x0 hr).1;have hfirst:fp r b'∧∃A cap,V (env.b+sx) = .slice A (List.length (α:=u.I) y) cap:=by
  obtain ⟨b,k,fold,eq1,e2,e3,e4,P',e5,e6⟩:=zbka hS hal hr hgp;simp only[Value.pointer.injEq,Option.some.injEq,Addr.mk.injEq]at eq1;obtain ⟨rfl,rfl,_⟩:=eq1;have hvx:V (env.b+sx)=valOf (.sl et u) (rowW w b' (k'+kk)):=by
   have h3:=hS.sv (env.b+sx);rw[hsx]at h3;obtain ⟨_,_,u3,c3,ad3,z1,z2⟩:=h3 t0 m0 x0 hr;rw[e2]at z1;simp only[Option.some.injEq,Prod.mk.injEq]at z1;obtain ⟨rfl,rfl,rfl⟩:=z1;exact z2
  simp only[rep]at e5;obtain ⟨A,cap,q1,_⟩:=e5;refine ⟨(P'.lies b' (k'+kk) rfl).1,A,cap,?_⟩;rw[hvx];simp only[valOf,Ty.agg,Bool.false_eq_true,if_false];exact q1
 obtain ⟨hb1',A,cap,hvx'⟩:=hfirst;have hz:=hS.sv (env.b+s);rw[hs]at hz;have hS1:=hS.fillO (d:=env.b+d2) (v := .pointer (some ⟨b',k'+kk,none⟩)) (sv := .al r p) (fq:=none') (fl':=none') (hA.gd l3) rfl hal (fun _ hb=>hb) (fun b hb=>⟨hb,fun h=>h⟩);have hr1:(st.put (env.b+d2) (.al r p)) r = .v t0 m0 x0:=by rw[zsba (Ne.symm hdr)]; exact hr
 have hal1:AlOk w (st.put (env.b+d2) (.al r p)) (updV V (env.b+d2) (.pointer (some ⟨b',k'+kk,none⟩))) r p (.pointer (some ⟨b',k'+kk,none⟩)):=by
  have h3:=hS1.sv (env.b+d2);rw[zWca,show updV V (env.b+d2) (Value.pointer (some ⟨b',k'+kk,none⟩)) (env.b+d2) = .pointer (some ⟨b',k'+kk,none⟩) by simp[updV]]at h3;exact h3
 obtain ⟨b,k,fold,eq1,e2,e3,e4,P',e5,e6⟩:=zbka hS1 hal1 hr1 hgp;simp only[Value.pointer.injEq,Option.some.injEq,Addr.mk.injEq]at eq1;obtain ⟨rfl,rfl,_⟩:=eq1;obtain ⟨hb1,hb2,_,_⟩:=P'.lies b' (k'+kk) rfl;simp only[setAt,RM.run]at h;rw[hr]at h;simp only at h;rw[hgp]at h;simp only at h;split at h
 case h_2=>simp[RM.run]at h
 rename_i yc hcst;split at h
 case h_2=>simp[RM.run]at h
 rename_i m' x' hset;simp only[RM.run]at h;obtain ⟨eu,hyc⟩:=zdca hcst;have hyc:@Eq (Ty.sl et u).I (List.append (α:=u.I) y y2) yc:=by simpa using hyc
 subst hyc;obtain ⟨xv,hv1,hv2,hv3⟩:=zq0a (u := .sl et u) (show (Ty.sl et u).I from ([]:List u.I)) hset e4;obtain ⟨c1,c2,c3⟩:=zaKa (v := .slice none 0 0) e6 rfl;have hrepn:rep F (w.setCells b' (k'+kk) (Value.slice none 0 0).cells.toList) (.sl et u) (.o .s) (show (Ty.sl et u).I from ([]:List u.I)) (rowW (w.setCells b' (k'+kk) (Value.slice none 0 0).cells.toList) b' (k'+kk)) none':=by
  simp only[rep];exact ⟨none,0,(c3 0 (by simp[Ty.size])).trans rfl,Nat.le_refl _,Nat.zero_le _,fun _=>rfl,nofun⟩
 have hSa:=hS1.place hr1 (zPYa hrb e3) P' e4 e3 e2 hv1 (fun _ hb=>hb) c2 (zJua _ _ _ _) c1 hrepn (fun b hb=>hb.elim) (fl':=fold) (fun b hb=>⟨.inr hb,fun h=>h⟩) (fun b hb => .inl hb);have hryw:rep F w (.sl et u) (.o .s) y (cv (V (env.b+sx))) fold:=by
  refine zEaa (c:=rowW w b' (k'+kk)) (fun j hj=>?_) e5;have e9:=e5;simp only[rep]at e9;obtain ⟨A',cap',q1,_⟩:=e9;have hj0:j=0:=by simp only[Ty.size]at hj; omega
  subst hj0;have h3:=hS.sv (env.b+sx);rw[hsx]at h3;obtain ⟨_,_,u3,c3',ad3,z1,z2⟩:=h3 t0 m0 x0 hr;have hVr:updV V (env.b+d2) (Value.pointer (some ⟨b',k'+kk,none⟩)) r=V r:=by unfold updV; rw[if_neg (Ne.symm hdr)]
  rw[hVr]at e2;rw[e2]at z1;simp only[Option.some.injEq,Prod.mk.injEq]at z1;obtain ⟨rfl,rfl,rfl⟩:=z1;rw[z2];simp only[valOf,Ty.agg,Bool.false_eq_true,if_false];rw[q1];rfl
 have hbF:¬F b':=hS.notF r b' hb1';have hry:=zxaa (F':=F) (fun _ hb=>hb) (fun b hb=>c1.1 b (fun hc=>hbF (hc ▸ hb))) (fun b hb=>c1.1 b (fun hc=>hb2 (hc ▸ hb))) hryw;have hzf:∀b,(F b∨fp (env.b+s) b)→b≠b':=by
  rintro b (hb|hb) rfl
  ·exact hbF hb
  ·exact hS.disj.disj _ _ hsr _ hb hb1'
 have hrz:=zxaa (F':=F) (fun _ hb=>hb) (fun b hb=>c1.1 b (hzf b (.inl hb))) (fun b hb=>c1.1 b (hzf b (.inr hb))) hz.2;have hnj0:m2 ≠ .j:=by rintro rfl; cases hnj
 have hnj':m2.el.noJ=true:=by cases m2<;>first|exact hnj|cases hnj
 have hbr:=zpYa (P:=P) (w2:=w) (m := .s) (wt_sl (Env.is_ok hE hU)).1 (hz.1 hnj0) hrz hnj (fun x c f hx=>zrXa hfl hnj' hx) (fun b hb=>zNja (c1.1 b (hzf b hb)));have hvs:isV (.sl et u) (V (env.b+sx)):=by rw[hvx']; exact zbQa
 obtain ⟨v',w',w2',fl',fq,r1,r2,r3,r4,r5,r6,r7,r8⟩:=zxYa (ty:=o.type) (w2:=w) (u0 := .slice none 0 0) rfl hb2 (hS.inH r b' hb1') (Env.is_ok hE hT) hSa hvs hry hbr (fun _ hb=>hb) (fun b hb=>hb.elim) (fun _ _ hb=>hb) hle;have hrv:(((st.put (env.b+d2) (.al r p)).kill r p).put r (.v t0 m' xv)) r = .v t0 m' xv:=zWca;have hpn:p.isEmpty=false:=by rw[hpp]; cases p'<;>rfl
 have hal2:AlOk w' (((st.put (env.b+d2) (.al r p)).kill r p).put r (.v t0 m' xv)) (updV V (env.b+d2) (.pointer (some ⟨b',k'+kk,none⟩))) r p (.pointer (some ⟨b',k'+kk,none⟩)):=by
  have h3:=r2.sv (env.b+d2);rw[zsba hdr,zTVa (zWca (st:=st) (r:=env.b+d2) (v := .al r p)),show stays p p=true by unfold stays; rw[hpn,zxPa]; rfl,Bool.not_true,Bool.and_false,cond_false,show updV V (env.b+d2) (Value.pointer (some ⟨b',k'+kk,none⟩)) (env.b+d2) = .pointer (some ⟨b',k'+kk,none⟩) by simp[updV]]at h3;exact h3
 obtain ⟨b9,k9,fold2,eq9,z2,z3,z4,P2,z5,z6⟩:=zbka r2 hal2 hrv hv3;simp only[Value.pointer.injEq,Option.some.injEq,Addr.mk.injEq]at eq9;obtain ⟨rfl,rfl,_⟩:=eq9;obtain ⟨y1,y2',_,_⟩:=P2.lies b' (k'+kk) rfl;have hv'1:∃A1 n1 c1',v' = .slice A1 n1 c1':=by
  have h4:=r4;simp only[rep]at h4;obtain ⟨A1,c1',q1,_⟩:=h4;exact ⟨A1,_,c1',(zTTa r3).trans q1⟩
 obtain ⟨A1,n1',c1',hv'e⟩:=hv'1;have hsz:v'.cells.size=(Ty.sl et u).size:=by rw[hv'e]; rfl
 obtain ⟨d1',d2',d3'⟩:=zaKa (v:=v') z6 hsz;have hrep':rep F (w'.setCells b' (k'+kk) v'.cells.toList) (.sl et u) (.o .s) (List.append (α:=u.I) y y2) (rowW (w'.setCells b' (k'+kk) v'.cells.toList) b' (k'+kk)) fq:=by
  refine zEaa (fun j hj=>(d3' j hj).symm) (zxaa (fun _ hb=>hb) (fun b hb=>d1'.1 b ?_) (fun b hb=>d1'.1 b ?_) r4)
  ·rintro rfl; exact hbF hb
  ·rintro rfl; exact r2.flD r _ y1 (r5 _ hb)
 have hS3:=r2.place hrv (zPYa hrb z3) P2 z4 z3 z2 hv2 (fun _ hb=>hb) d2' (zJua _ _ _ _) d1' hrep' (fun b hb => .inr (r5 b hb)) (fl':=none') (fun _ hb=>hb.elim) (fun b hb => .inl hb);have hwe:w2'.setCells b' (k'+kk) v'.cells.toList=w'.setCells b' (k'+kk) v'.cells.toList:=by
  rw[hv'e];exact r6 _
 rw[←hwe]at hS3;have hno:∀ {d:Nat},d<env.n→¬gh0≤env.b+d:=fun hd hg=>absurd hg (by have:=hA.lim; omega)
 have hS4:=hS3.fillO (d:=env.b+d) (v:=v') (sv := .un) (fq:=none') (fl':=none') (fun hg=>absurd hg (hno l1)) rfl trivial (fun _ hb=>hb) (fun b hb=>⟨hb,fun h=>h⟩);have hS5:=hS4.fillO (d:=env.b+d1) (v:=V (env.b+q)) (sv := .un) (fq:=none') (fl':=none') (fun hg=>absurd hg (hno l2)) rfl trivial (fun _ hb=>hb) (fun b hb=>⟨hb,fun h=>h⟩);have hS6:=hS5.fillO (d:=env.b+d2) (v := .pointer (some ⟨b',k'+kk,none⟩)) (sv := .un) (fq:=none') (fl':=none') (fun hg=>absurd hg (hno l3)) rfl trivial (fun _ hb=>hb) (fun b hb=>⟨hb,fun h=>h⟩);have hst:(((((st.kill r p).put r (.v t0 m' x')).put (env.b+d) .un).put (env.b+d1) .un).put (env.b+d2) .un)=(((((((st.put (env.b+d2) (.al r p)).kill r p).put r (.v t0 m' xv)).kill r p).put r (.v t0 m' x')).put (env.b+d) .un).put (env.b+d1) .un).put (env.b+d2) .un:=by
  funext j
  by_cases j2:j=env.b+d2
  ·subst j2; rw[zWca,zWca]
  rw[zsba j2,zsba j2];by_cases j1:j=env.b+d1
  ·subst j1; rw[zWca,zWca]
  rw[zsba j1,zsba j1];by_cases j0:j=env.b+d
  ·subst j0; rw[zWca,zWca]
  rw[zsba j0,zsba j0];by_cases jr:j=r
  ·subst jr; rw[zWca,zWca]
  rw[zsba jr,zsba jr];have e7:((st.put (env.b+d2) (.al r p)).kill r p).put r (.v t0 m' xv) j=(st.kill r p) j:=by
   rw[zsba jr];exact zUZa (zsba j2)
  exact (congrFun (zZYa st r p) j).symm.trans (zUZa e7.symm)
 rw[hst]at h;have hV:updV (updV (updV (updV V (env.b+d2) (.pointer (some ⟨b',k'+kk,none⟩))) (env.b+d) v') (env.b+d1) (V (env.b+q))) (env.b+d2) (.pointer (some ⟨b',k'+kk,none⟩))=updV (updV (updV V (env.b+d) v') (env.b+d1) (V (env.b+q))) (env.b+d2) (.pointer (some ⟨b',k'+kk,none⟩)):=by
  funext j
  unfold updV;by_cases j2:j=env.b+d2
  ·rw[if_pos j2,if_pos j2]
  ·rw[if_neg j2,if_neg j2,if_neg j2]
 rw[hV]at hS6;have hA1:=hA.put (d:=d) (v:=v') l1;have hA2:=hA1.put (d:=d1) (v:=V (env.b+q)) l2;have hA3:=hA2.put (d:=d2) (v := .pointer (some ⟨b',k'+kk,none⟩)) l3;have hadd:∀ {x y:Nat},x≠y→env.b+x≠env.b+y:=fun h=>by omega
 have ea:c.args=#[.tmp sx,.tmp s]:=by apply Array.ext'; rw[hargs]
 have eb:c.argTypes=#[T,U]:=by apply Array.ext'; rw[htys]
 have ev1:a.eval (.tmp sx)=V (env.b+sx):=hA.tmps sx l5;have ev2:a.eval (.tmp s)=V (env.b+s):=hA.tmps s l6;have run0:(execOp a.eval o).run P w = .ok (.value v') w2':=by
  simp only[execOp,ho,resolve,hc,ea,eb,Sem.run_bind,Sem.run_pure,Result.andThen_ok,invoke,builtin,List.map_toArray,List.map_cons,List.map_nil,ev1,ev2,r1]
 have ev3:(a.put (some d) v').eval (.tmp q) = .pointer (some ⟨b',k',none⟩):=by
  have h3:(a.put (some d) v').eval (.tmp q)=updV V (env.b+d) v' (env.b+q):=hA1.tmps q l4;rw[h3];unfold updV;rw[if_neg (hadd (Ne.symm n1)),e1]
 have run1:(execOp (a.put (some d) v').eval o1).run P w2' = .ok (.value (V (env.b+q))) w2':=by
  simp[execOp,ho1,ev3,e1]
 have ev4:((a.put (some d) v').put (some d1) (V (env.b+q))).eval (.tmp d1) = .pointer (some ⟨b',k',none⟩):=by
  have h3:((a.put (some d) v').put (some d1) (V (env.b+q))).eval (.tmp d1)=updV (updV V (env.b+d) v') (env.b+d1) (V (env.b+q)) (env.b+d1):=hA2.tmps d1 l2;rw[h3];simp[updV,e1]
 have run2:(execOp ((a.put (some d) v').put (some d1) (V (env.b+q))).eval o2).run P w2' = .ok (.value (.pointer (some ⟨b',k'+kk,none⟩))) w2':=by
  have hne:(Ty.sl et u).size≠0:=by simp[Ty.size]
  simp only[execOp,ho2,ev4,Instr.fieldAt,Sem.run_bind,run_underlying w1,Result.andThen_ok,w2,Instr.sureAddr,Sem.run_pure,fieldPlace,zNga w4,hne,if_false,w3,zSfa]
 have ev5:(((a.put (some d) v').put (some d1) (V (env.b+q))).put (some d2) (.pointer (some ⟨b',k'+kk,none⟩))).eval (.tmp d2) = .pointer (some ⟨b',k'+kk,none⟩):=by
  have h3:(((a.put (some d) v').put (some d1) (V (env.b+q))).put (some d2) (.pointer (some ⟨b',k'+kk,none⟩))).eval (.tmp d2)=updV (updV (updV V (env.b+d) v') (env.b+d1) (V (env.b+q))) (env.b+d2) (.pointer (some ⟨b',k'+kk,none⟩)) (env.b+d2):=hA3.tmps d2 l3;rw[h3];simp[updV]
 have ev6:(((a.put (some d) v').put (some d1) (V (env.b+q))).put (some d2) (.pointer (some ⟨b',k'+kk,none⟩))).eval (.tmp d)=v':=by
  have h3:(((a.put (some d) v').put (some d1) (V (env.b+q))).put (some d2) (.pointer (some ⟨b',k'+kk,none⟩))).eval (.tmp d)=updV (updV (updV V (env.b+d) v') (env.b+d1) (V (env.b+q))) (env.b+d2) (.pointer (some ⟨b',k'+kk,none⟩)) (env.b+d):=hA3.tmps d l1;rw[h3];unfold updV;rw[if_neg (hadd n3),if_neg (hadd n2),if_pos rfl]
 have hh2:zTga w2' b' (k'+kk+(Ty.sl et u).size) true:=(zAca (r7 b' (hS.inH r b' hb1') hb2)).2 e6;have hl:∀c∈v'.cells.toList,c.oneCell'=true:=by
  intro c hc;rw[hv'e]at hc;have:c = .slice A1 n1' c1':=by simpa[Value.cells] using hc
  rw[this]; rfl
 have run3:(execOp (((a.put (some d) v').put (some d1) (V (env.b+q))).put (some d2) (.pointer (some ⟨b',k'+kk,none⟩))).eval o3).run P w2' = .ok .skip (w2'.setCells b' (k'+kk) v'.cells.toList):=by
  simp only[execOp,ho3,ev5,ev6,Instr.storeAt,Instr.sureAddr,Sem.run_bind,Sem.run_pure,Result.andThen_ok,pure_bind,zGKa (Env.is_ok hE hT3) hh2 hsz hl]
 have wn:∀ {o:Oper} {ts:Nat→Option Value},o.guard=none→True:=fun _=>trivial
 simp only[wpOps,g0,g1,g2,g3];rw[if_pos (by simp[Region.wanted,u0])];refine .inl (zJCa run0 ?_);rw[hod,if_pos (by simp[Region.wanted,u1])];refine .inl (zJCa run1 ?_);rw[hod1,if_pos (by simp[Region.wanted,u2])];refine .inl (zJCa run2 ?_);rw[hod2,if_pos (by simp[Region.wanted,u3])];refine .inl (zsRa run3 ?_);rw[hod3];exact hN _ _ _ _ _ _ hS6 hA3 h
end
end Go.Trm
namespace Go.Trm
def toX:Ex→Exit
 | .normal => .normal
 | .exit i => .exit i
 | .ret => .ret
 | .pan _ => .normal
def Ex.isPan:Ex→Bool
 | .pan _=>true
 |_=>false
structure Good {R:Type} (env:Env) (gh:Nat→Value) (e:Entry) (K:Ex→St→Option R) (res:R) (Q:Exit→Act→World→Prop):Prop where
 ex:∀x F w st V fp a,x.isPan=false→SR e F w st V fp none'→AR env gh a V→K x st=some res→Q (toX x) a w
 pan:∀p ch F w st V fp a,SR e F w st V fp none'→AR env gh a V→PanR F w p ch→K (.pan p) st=some res→Q (.panic ch) a w
def zU2a (env:Env) (Q:Exit→Act→World→Prop):Prop:=∀c a w d v,d ∉ env.rs→Q (.panic c) (a.put (some d) v) w→Q (.panic c) a w
section
variable {P:Program} {env:Env} {e:Entry} {F:Blks} {w:World} {st:St} {V:Nat→Value} {fp:Nat→Blks} {fl:Blks} {a:Act} {R:Type} {res:R} {C:Cx R} {gh:Nat→Value} {Q:Exit→Act→World→Prop}
theorem zQYa (hE:EnvTy P env) (hF:EnvFn P env) (hC:CxOk P env gh e C res Q) {ops:Array Oper} {K:St→Option R} (hQ:∀F w st V fp a,SR e F w st V fp none'→AR env gh a V→K st=some res→Q .normal a w) :
  ∀(os:List Oper) (i:Nat) (F:Blks) (w:World) (st:St) (V:Nat→Value) (fp:Nat→Blks) (a:Act),ops.toList.drop i=os→SR e F w st V fp none'→AR env gh a V→evOps env C ops.toList os st K=some res→wpOps P ops Q (List.range' i os.length) a w:=by
 suffices key:∀(N:Nat) (os:List Oper),os.length≤N→∀(i:Nat) (F:Blks) (w:World) (st:St) (V:Nat→Value) (fp:Nat→Blks) (a:Act),ops.toList.drop i=os→SR e F w st V fp none'→AR env gh a V→evOps env C ops.toList os st K=some res→wpOps P ops Q (List.range' i os.length) a w from fun os=>key os.length os (Nat.le_refl _)
 intro N
 induction N with
 |zero =>
  intro os h9 i F w st V fp a hd hS hA h;obtain rfl:os=[]:=List.eq_nil_of_length_eq_zero (by omega);exact hQ _ _ _ _ _ _ hS hA h
 |succ N ih =>
 intro os h9;cases os with
 |nil =>
  intro i F w st V fp a hd hS hA h;exact hQ _ _ _ _ _ _ hS hA h
 |cons o os =>
  intro i F w st V fp a hd hS hA h;simp only[List.length_cons]at h9;have hat:∀ {k:Nat} {x:Oper} {l:List Oper},ops.toList.drop k=x::l→ops[k]?=some x∧ops.toList.drop (k+1)=l:=by
   intro k x l hd;constructor
   ·rw[←Array.getElem?_toList];have:=congrArg (fun l=>l[0]?) hd;simpa[List.getElem?_drop] using this
   ·have:=congrArg List.tail hd;simpa[List.tail_drop] using this
  obtain ⟨hi,hd'⟩:=hat hd;unfold evOps at h;split at h
  ·simp only[List.length_cons,List.range'_succ,wpOps,hi];rcases zjYa hS hA h with ⟨hw,h⟩|⟨hw,h⟩
   ·rw[if_pos hw];exact .inl (zeTa hE hF hC hS hA (fun F' w' st' V' fp' a' hS' hA' h'=>ih os (by omega) (i+1) F' w' st' V' fp' a' hd' hS' hA' h') h)
   ·rw[hw];obtain ⟨V',fp',h1,h2⟩:=zhXa (dst:=o.dst) h.2 hS hA;exact ih os (by omega) (i+1) _ _ _ _ _ _ hd' h1 h2 h.1
  ·split at h
   ·rename_i o1 o2 o3 os';obtain ⟨g1,hd1⟩:=hat hd';obtain ⟨g2,hd2⟩:=hat hd1;obtain ⟨g3,hd3⟩:=hat hd2;simp only[List.length_cons,List.range'_succ];exact zh1a hE hi g1 g2 g3 hS hA h fun F' w' st' V' fp' a' hS' hA' h'=>ih os' (by simp only[List.length_cons]at h9; omega) _ F' w' st' V' fp' a' hd3 hS' hA' h'
   ·cases h
theorem SR.only (hS:SR e F w st V fp none') (l:List Nat):∃fp',SR e F w (st.only l) V fp' none':=by
 have hon:∀i,st.only l i=st i∨st.only l i = .un:=by
  intro i;unfold St.only
  induction l with
  |nil=>right; rfl
  |cons s l ih =>
   simp only[List.map_cons,St.ofList];cases hb:Nat.beq i s with
   |true=>left; rw[Nat.eq_of_beq_eq_true hb]
   |false=>exact ih
 have hst:∀r,∀ {t1 m1 x1},st.only l r = .v t1 m1 x1→st r = .v t1 m1 x1:=by
  intro r t1 m1 x1 h;rcases hon r with h1|h1
  ·rw[←h1]; exact h
  ·rw[h1]at h; cases h
 have hal:∀r q v,AlOk w st V r q v→AlOk w (st.only l) V r q v:=fun r q v ha t1 m1 x1 h1=>ha t1 m1 x1 (hst r h1)
 refine ⟨fp,fun i=>?_,hS.disj,hS.notF,hS.inH,hS.inF,hS.flD,hS.flF,hS.flH,hS.g1,hS.g2,hS.g3,hS.g4,hS.g5,hS.g6⟩;rcases hon i with h1|h1
 ·rw[h1];have h2:=hS.sv i;cases hsi:st i with
  |v t1 m1 x1=>rw[hsi]at h2; exact h2
  |al r q=>rw[hsi]at h2; exact hal _ _ _ h2
  |lz r q=>rw[hsi]at h2; exact fun t1 m1 x1 h3=>h2 t1 m1 x1 (hst r h3)
  |sub r q lo hi=>rw[hsi]at h2; exact fun t1 m1 x1 h3=>h2 t1 m1 x1 (hst r h3)
  |fn f s caps =>
   rw[hsi]at h2;obtain ⟨us,vs,e1,e2,e3⟩:=h2;exact ⟨us,vs,e1,e2.imp (fun _ _ hb=>hb) fun q u _=>hal _ _ _,e3.imp (fun _ _ hb=>hb) fun q u _=>hal _ _ _⟩
  |bx r q =>
   rw[hsi]at h2;exact h2
  |ifc T t1 x1=>rw[hsi]at h2; exact h2
  |tup l=>rw[hsi]at h2; exact h2
  |nil=>rw[hsi]at h2; exact h2
  |un=>trivial
 ·rw[h1]; trivial
theorem SR.at (hS:SR e F w st V fp none') (o:Option (List Nat)):∃fp',SR e F w (st.at o) V fp' none':=by
 cases o with
 |none=>exact ⟨fp,hS⟩
 |some l=>exact hS.only l
theorem zXya {Kk:Unit→St→Option R}:∀ {l:List (Nat×Bool)} {F:Blks} {st:St} {fp:Nat→Blks},SR e F w st V fp none'→(zlHa l).run C st Kk=some res→∃F' st' fp',Kk () st'=some res∧SR e F' w st' V fp' none'
 |[],F,st,fp,hS,h=>⟨F,st,fp,h,hS⟩
 |(s,z)::l,F,st,fp,hS,h=>by
  unfold zlHa at h;cases z with
  |false=>exact zXya hS h
  |true =>
   simp only[RM.run]at h;have hgen:∀t m y,st s = .v t m y→m ≠ .j→(zDra (some (s,[])) (zlHa l)).run C st Kk=some res→∃F' st' fp',Kk () st'=some res∧SR e F' w st' V fp' none':=by
    intro t m y hst hm h;have hsv:=hS.sv s;rw[hst]at hsv;have hd:DataAt F w st V (V s) t m y (some (s,[])) :=
     ⟨hm,_,_,_,hst,y,by simp only[getP],by simp[ownP],by simp[inP],cv (V s),none,by simp[rs],by
      have h1:V s=valOf t (cv (V s)):=hsv.1 hm;have h2:=PartOf.all (c':=cv (V s)) t y
      rwa [←h1]at h2⟩
    obtain ⟨st1,fp1,F1,h2,hS1,_,_,_⟩:=zbua hS hd nofun h;exact zXya hS1 h2
   split at h
   ·exact zXya hS h
   ·simp[RM.run]at h
   ·rename_i t m y hm1 hm2 hst;exact hgen _ _ _ hst (fun hc=>by subst hc; exact hm2 rfl) h
   ·exact zXya hS h
theorem zXqa {l:List (Nat×Bool)} {K:St→Option R} (hS:SR e F w st V fp none') (h:zAka l st K=some res):∃F' st' fp',K st'=some res∧SR e F' w st' V fp' none':=by
 unfold zAka at h;obtain ⟨F',st',fp',h1,h2⟩:=zXya hS h;obtain ⟨fp2,h3⟩:=h2.only (l.map Prod.fst);exact ⟨F',_,fp2,h1,h3⟩
theorem zSQa (hm:P.follows .mixedOrders=true) (hE:EnvTy P env) (hF:EnvFn P env) {inl:Inl} (hI:InlOk P env.top inl) (hgl:GlE P e) {lp:Loops}:∀ {c:Code} {R:Type} {K:Ex→St→Option R} {res:R} {Q:Exit→Act→World→Prop} {F:Blks} {w:World} {st:St} {V:Nat→Value} {fp:Nat→Blks} {a:Act},
  zsaa env lp inl c→zU2a env Q→Good env gh e K res Q→SR e F w st V fp none'→AR env gh a V→evC env lp inl c st K=some res→c.wp P Q a w:=by
 have hcx:∀ {R:Type} {K:Ex→St→Option R} {res:R} {Q:Exit→Act→World→Prop},Good env gh e K res Q→CxOk P env gh e (cx inl K) res Q:=fun hG=>⟨hG.pan,hgl,inl,hI,fun _ _ _ _ _=>rfl⟩
 intro c
 induction c with
 |skip=>intro R K res Q F w st V fp a hL hP hG hS hA h; exact wp_skip (hG.ex .normal _ _ _ _ _ _ rfl hS hA h)
 |region id ops draw =>
  intro R K res Q F w st V fp a hL hP hG hS hA h;obtain ⟨fp,hS⟩:=hS.at (env.lv id);cases draw with
  |true =>
   simp only[evC]at h;split at h
   ·rename_i hsel;simp only[Bool.and_eq_true]at hsel;have hQp:∀(i:Nat) o c a w v,ops[i]?=some o→Q (.panic c) (a.put o.dst v) w→Q (.panic c) a w:=by
     intro i o c a w v ho hq;cases hd:o.dst with
     |none=>rw[hd]at hq; exact hq
     |some d =>
      rw[hd]at hq;refine hP c a w d v (fun hc=>?_) hq;have h1:=List.all_eq_true.1 hsel.2 o (by rw[←Array.getElem?_toList]at ho; exact List.mem_of_getElem? ho);rw[hd]at h1;have h2:=List.all_eq_true.1 h1 d hc;rw[Nat.beq_refl]at h2;cases h2
    have:=zlYa hE hF (ro:=ops.toList.all fun o=>zvWa o.op || zB2a o.op) hsel.1 (K:=fun st=>K .normal st) (Q:=Q) hQp ops.size (Array.replicate ops.size false) _ _ _ _ _ _ _ (hcx hG)
     (fun F w st V fp a hS hA h=>hG.ex .normal _ _ _ _ _ _ rfl hS hA h) (hS.world (w':={ w with drawn:=w.drawn+1 }) (fun _ _ _=>rfl) ⟨⟨rfl,rfl,rfl⟩,Nat.le_refl _⟩ (fun b hb=>hb.elim)) hA h
    exact wp_region_any hm (zCZa this)
   ·cases h
  |false =>
   refine wp_region ?_;have:=zQYa hE hF (hcx hG) (Q:=Q) (fun F w st V fp a hS hA h=>hG.ex .normal _ _ _ _ _ _ rfl hS hA h) ops.toList 0 _ _ _ _ _ _ (by simp) hS hA h
   rwa [List.range_eq_range',←Array.length_toList]
 |seq x y ihx ihy =>
  intro R K res Q F w st V fp a hL hP hG hS hA h;obtain ⟨hL1,hL2,hL3⟩:=hL;have key:∀(out:Ex→List (Nat×Bool)) (tr:Bool) {F:Blks} {st:St} {fp:Nat→Blks},SR e F w st V fp none' →
    evC env lp inl x st (fun e st=>cond tr (zAka (out e) st (fun st=>match e with | .normal=>evC env lp inl y st K|e=>K e st)) (match e with | .normal=>evC env lp inl y st K|e=>K e st))=some res→(Code.seq x y).wp P Q a w:=by
   intro out tr F st fp hS h;have hin:∀ {ex:Ex} {F:Blks} {w:World} {st:St} {V:Nat→Value} {fp:Nat→Blks},SR e F w st V fp none'→cond tr (zAka (out ex) st (fun st=>match ex with | .normal=>evC env lp inl y st K|e=>K e st)) (match ex with | .normal=>evC env lp inl y st K|e=>K e st)=some res →
     ∃F' st' fp',SR e F' w st' V fp' none'∧(match ex with | .normal=>evC env lp inl y st' K|e=>K e st')=some res:=by
    intro ex F w st V fp hS h;cases tr with
    |true=>simp only[cond_true]at h; obtain ⟨F',st',fp',h1,h2⟩:=zXqa hS h; exact ⟨F',st',fp',h2,h1⟩
    |false=>exact ⟨F,st,fp,hS,h⟩
   refine wp_seq (ihx hL1 hP (Q:=Exit.then (y.wp P Q) Q) ⟨fun ex F w st V fp a hx hS hA h=>?_,fun p ch F w st V fp a hS hA hp h=>?_⟩ hS hA h)
   ·obtain ⟨F',st',fp',hS',h'⟩:=hin hS h;cases ex with
    |normal=>exact ihy hL2 hP hG hS' hA h'
    |exit i=>exact hG.ex (.exit i) _ _ _ _ _ _ rfl hS' hA h'
    |ret=>exact hG.ex .ret _ _ _ _ _ _ rfl hS' hA h'
    |pan p=>cases hx
   ·obtain ⟨F',st',fp',hS',h'⟩:=hin hS h;obtain ⟨v,q1,u,q2,q3,q4,q5⟩:=hp;exact hG.pan p ch _ _ _ _ _ _ hS' hA ⟨v,q1,u,q2,q3,q4,zcUa q3 q5⟩ h'
  simp only[evC]at h;split at h
  ·exact key (fun _=>[]) false hS h
  ·rename_i i hi;obtain ⟨hd,out,h1⟩:=hL3 i hi R st _ res h;obtain ⟨F',st',fp',h2,h3⟩:=zXqa hS h1;exact key out true h3 h2
 |cond c x y ihx ihy =>
  intro R K res Q F w st V fp a hL hP hG hS hA h;simp only[evC]at h;split at h
  ·rename_i s;split at h
   ·cases h
   ·rename_i hn;split at h
    ·rename_i b hst;have hsv:=hS.sv (env.b+s);rw[hst]at hsv;have hv:a.eval (.tmp s) = .bool b:=(hA.tmps s (zsta hn)).trans (zkGa (m := .s) (hsv.1 nofun) nofun hsv.2);refine wp_cond hv ?_;cases b with
     |true=>exact ihx hL.1 hP hG (by rw[zB0a hst]; exact hS) hA h
     |false=>exact ihy hL.2 hP hG (by rw[zB0a hst]; exact hS) hA h
    ·cases h
  ·cases h
 |block id c ih =>
  intro R K res Q F w st V fp a hL hP hG hS hA h;simp only[evC]at h;refine wp_block (ih (K:=fun e st=>match e with
   | .exit j=>match Nat.beq j id with
    |true=>K .normal st
    |false=>K (.exit j) st
   |e=>K e st) hL (Q:=Exit.inBlock id Q) hP ⟨fun ex F w st V fp a hx hS hA h=>?_,fun p ch F w st V fp a hS hA hp h=>hG.pan p ch _ _ _ _ _ _ hS hA hp h⟩ hS hA h)
  cases ex with
  |normal=>exact hG.ex .normal _ _ _ _ _ _ rfl hS hA h
  |exit i =>
   simp only[toX,Exit.inBlock];dsimp only at h;split at h
   ·rename_i hb;rw[if_pos (Nat.eq_of_beq_eq_true hb)];exact hG.ex .normal _ _ _ _ _ _ rfl hS hA h
   ·rename_i hb;rw[if_neg (fun hc=>by subst hc; rw[Nat.beq_refl]at hb; cases hb)];exact hG.ex (.exit i) _ _ _ _ _ _ rfl hS hA h
  |ret=>exact hG.ex .ret _ _ _ _ _ _ rfl hS hA h
  |pan p=>cases hx
 |loop c ih =>
  intro R K res Q F w st V fp a hL hP hG hS hA h;simp only[evC]at h;split at h
  ·rename_i i hi;obtain ⟨hd,out,n,hr⟩:=hL.1 i hi R st K res h;refine wp_loop_rounds n ?_;clear h;obtain ⟨F0,st0,fp0,hr0,hS0⟩:=zXqa hS hr;clear hr hS;revert hr0 hS0
   induction n generalizing F0 w st0 V fp0 a with
   |zero=>intro hr; cases hr
   |succ n ihn =>
    intro hr hS;simp only[zJOa]at hr;rw[rounds_succ];refine ih hL.2 ?_ ⟨fun ex F w st V fp a hx hS hA h=>?_,fun p ch F w st V fp a hS hA hp h=>?_⟩ hS hA hr
    ·exact hP
    ·cases ex with
     |normal =>
      obtain ⟨F',st',fp',h1,h2⟩:=zXqa hS h;exact ihn hA _ _ _ h1 h2
     |exit i =>
      obtain ⟨F',st',fp',h1,h2⟩:=zXqa hS h;exact hG.ex (.exit i) _ _ _ _ _ _ rfl h2 hA h1
     |ret =>
      obtain ⟨F',st',fp',h1,h2⟩:=zXqa hS h;exact hG.ex .ret _ _ _ _ _ _ rfl h2 hA h1
     |pan p=>cases hx
    ·obtain ⟨F',st',fp',h1,h2⟩:=zXqa hS h;obtain ⟨v,q1,u,q2,q3,q4,q5⟩:=hp;exact hG.pan p ch _ _ _ _ _ _ h2 hA ⟨v,q1,u,q2,q3,q4,zcUa q3 q5⟩ h1
  ·cases h
 |exit id=>intro R K res Q F w st V fp a hL hP hG hS hA h; exact wp_exit (hG.ex (.exit id) _ _ _ _ _ _ rfl hS hA h)
 |ret=>intro R K res Q F w st V fp a hL hP hG hS hA h; exact wp_ret (hG.ex .ret _ _ _ _ _ _ rfl hS hA h)
 |scope c ih =>
  intro R K res Q F w st V fp a hL hP hG hS hA h;refine wp_scope_straight (ih hL ?_ ⟨fun ex F w st V fp a hx hS hA h=>?_,fun p ch F w st V fp a hS hA hp h=>?_⟩ hS hA h)
  ·exact hP
  ·cases ex<;>first|(cases hx; done)|exact hG.ex _ _ _ _ _ _ _ rfl hS hA h
  ·exact hG.pan p ch _ _ _ _ _ _ hS hA hp h
 |_=>intro R K res Q F w st V fp a hL hP hG hS hA h; cases h
end
end Go.Trm
namespace Go.Trm
def pks:List (Ty×Md)→List PK
 |[]=>[]
 |k::ks => .val k.1 k.2::pks ks
def toDR:(ks:List (Ty×Md))→DI (pks ks)→DR ks
 |[],_=>()
 |_::ks,d=>(d.1,toDR ks d.2)
def initS:Nat→(ks:List PK)→DI ks→List SV
 |_,[],_=>[]
 |n,.val t m::ks,d => .v t m d.1::initS (n+1) ks d.2
 |n,.fn f::ks,d => .fn f [] []::initS (n+1) ks d.2
 |n,.ref _ _ _::ks,d => .al (gh0+n) [.der]::initS (n+1) ks d.2
def ghS:(ks:List PK)→DI ks→List SV
 |[],_=>[]
 | .val _ _::ks,d => .un::ghS ks d.2
 | .fn _::ks,d => .un::ghS ks d.2
 | .ref t m _::ks,d => .v (.ptr 0 t) (.o m) (some d.1)::ghS ks d.2
def St.start (ks:List PK) (d:DI ks):St:=fun i=>match Nat.ble gh0 i with
 |true=>(ghS ks d).getD (i-gh0) .un
 |false=>(initS 0 ks d).getD i .un
def backS {R:Type}:(ks:List PK)→Nat→St→(DB ks→Option R)→Option R
 |[],_,_,K=>K ()
 | .val _ _::ks,n,st,K=>backS ks (n+1) st K
 | .fn _::ks,n,st,K=>backS ks (n+1) st K
 | .ref t _ m'::ks,n,st,K=>match st (gh0+n) with
  | .v (.ptr _ u) mu y=>match (y:Option u.I) with
   |some c=>match castI u t c,mu.eqb (.o m') with
    |some c',true=>backS ks (n+1) st fun b=>K (c',b)
    |_,_=>none
   |none=>none
  |_=>none
def zpva {α:Type}:List PK→Nat→RM α→RM α
 |[],_,k=>k
 | .val _ _::ks,n,k=>zpva ks (n+1) k
 | .fn _::ks,n,k=>zpva ks (n+1) k
 | .ref _ _ m'::ks,n,k => .get (gh0+n) fun w=>match w with
  | .v (.ptr T u) mu y=>match mu.eqb (.o m') with
   |true=>zpva ks (n+1) k
   |false=>match (Md.o m').le mu with
    |true=>take (some (gh0+n,[])) (setS (gh0+n) (.v (.ptr T u) (.o m') y) (zpva ks (n+1) k))
    |false => .fail
  |_ => .fail
def zSTa {α:Type} (env:Env):List (Nat×TypeId)→RM α→RM α
 |[],k=>k
 |(r,T)::cs,k=>match cs.all (fun q=>!(Nat.beq r q.1))&&Nat.blt r env.n with
  |true => .get (env.b+r) fun w=>match w with
   | .v (.ptr _ t) (.o m) y=>match (y:Option t.I) with
    |some c=>match env.is T t&&!m.isJ with
     |true => .kill (env.b+r) [] (.put (env.b+r) (.v t m c) (zSTa env cs k))
     |false => .fail
    |none => .fail
   |_ => .fail
  |false => .fail
def toRV (q:Nat×Option TypeId):ResultVar:=match q.2 with
 |none => .tmp q.1
 |some T => .cell q.1 T
def zEla:List (Nat×Option TypeId)→List (Nat×TypeId)
 |[]=>[]
 |(_,none)::l=>zEla l
 |(r,some T)::l=>(r,T)::zEla l
def zqAa:List (Nat×Option TypeId)→List Nat
 |[]=>[]
 |q::l=>q.1::zqAa l
def panI:(o:Option (TypeId×Ty))→PanV→Option (PI o)
 |none,_=>none
 |some q,p=>match Nat.beq q.1 p.T with
  |true=>castI p.t q.2 p.x
  |false=>none
theorem zuXa {o:Option (TypeId×Ty)} {p:PanV} {y:PI o} (h:panI o p=some y):PI.pan o y=p:=by
 cases o with
 |none=>cases h
 |some q =>
  simp only[panI]at h;split at h
  ·rename_i hb;obtain ⟨T,t⟩:=q;obtain ⟨T',t',x⟩:=p;simp only at h hb;obtain ⟨eu,hy⟩:=zdca h;subst eu;simp only at hy;subst hy;rw[←Nat.eq_of_beq_eq_true hb];rfl
  ·cases h
noncomputable def retK {R:Type} (env:Env) (ins:List PK) (ks:List (Ty×Md)) (rs:List (Nat×Option TypeId)) (pn:Option (TypeId×Ty)) (K:DR ks→DB ins→Option R) (Kp:PI pn→DB ins→Option R):Ex→St→Option R
 | .exit _,_=>none
 | .pan p,st=>match panI pn p with
  |some y=>(zpva ins 0 (.ret ())).run Cx.no st fun _ st=>backS ins 0 st fun b=>Kp y b
  |none=>none
 |_,st=>(zSTa env (zEla rs) (zuxa env false (pks ks) ((zqAa rs).map Operand.tmp) [] fun d _ _=>zpva ins 0 (.ret (toDR ks d)))).run Cx.no st fun r st=>backS ins 0 st fun b=>K r b
theorem zNEa:∀ {n:Nat} {ks:List PK} {d:DI ks},(initS n ks d).length=ks.length
 |_,[],_=>rfl
 |_,.val _ _::_,_=>by simp[initS,zNEa]
 |_,.fn _::_,_=>by simp[initS,zNEa]
 |_,.ref _ _ _::_,_=>by simp[initS,zNEa]
theorem zFSa:∀ {ks:List PK} {d:DI ks},(ghS ks d).length=ks.length
 |[],_=>rfl
 | .val _ _::_,_=>by simp[ghS,zFSa]
 | .fn _::_,_=>by simp[ghS,zFSa]
 | .ref _ _ _::_,_=>by simp[ghS,zFSa]
def refAt (ks:List PK) (i:Nat):Bool:=match ks[i]? with
 |some (.ref _ _ _)=>true
 |_=>false
theorem zsHa {F:Blks} {w:World}:∀ {ks:List PK} {d:DI ks} {vs:List Value} {fps:Nat→Blks},ArgsR F w ks d vs fps→vs.length=ks.length
 |[],_,_,_,h=>by simp only[ArgsR]at h; subst h; rfl
 | .val _ _::_,_,_,_,⟨v,vs',h1,_,_,_,h5⟩=>by subst h1; simp[zsHa h5]
 | .fn _::_,_,_,_,⟨v,vs',h1,_,h5⟩=>by subst h1; simp[zsHa h5]
 | .ref _ _ _::_,_,_,_,⟨v,vs',h1,_,_,h5⟩=>by subst h1; simp[zsHa h5]
theorem al_of {F:Blks} {w:World} {st:St} {V:Nat→Value} {r:Nat} {v:Value} {t:Ty} {m:Md} {y:t.I} {fq:Blks} (hst:st r = .v (.ptr 0 t) (.o m) (some y)) (hV:V r=v) (hv:isV (.ptr 0 t) v) (hr:rep F w (.ptr 0 t) (.o m) (some y) (cv v) fq):AlOk w st V r [.der] v:=by
 intro t0 m0 x0 h0;rw[hst]at h0;cases h0;simp only[rep]at hr;obtain ⟨A,e1,ad,rfl,hsp,e2,e3,f,e4,e5⟩:=hr;obtain ⟨b,k,sp⟩:=ad;simp only at hsp;subst hsp;refine ⟨rfl,by simp[ownP],by simp[inP],t,rowW w b k,b,k,?_,?_⟩
 ·rw[hV]; simp only[rs,e1]
 ·have h2:v=valOf (.ptr 0 t) (cv v):=hv;rw[h2];simp only[valOf,Ty.agg,Bool.false_eq_true,if_false];exact e1
theorem zATa {F:Blks} {w:World} {st:St} {V:Nat→Value}:∀ {n:Nat} {ks:List PK} {d:DI ks} {vs:List Value} {fps:Nat→Blks} {i:Nat} {v:Value},ArgsR F w ks d vs fps→vs[i]?=some v →
  (∀j t m x,(ghS ks d)[j]?=some (.v t m x)→st (gh0+n+j) = .v t m x)→(∀j u,vs[j]?=some u→V (gh0+n+j)=u)→svR F w st V (fps i) v ((initS n ks d).getD i .un)
 |_,[],_,vs,_,i,v,h,hv,_,_=>by simp only[ArgsR]at h; subst h; simp at hv
 |n,.val t m::ks,d,vs,fps,i,v,⟨v0,vs',h1,h2,h3,h4,h5⟩,hv,hg,hV=>by
  subst h1;cases i with
  |zero =>
   simp only[List.getElem?_cons_zero,Option.some.injEq]at hv;subst hv;exact ⟨fun _=>h2,h4⟩
  |succ i =>
   simp only[List.getElem?_cons_succ]at hv;have:=zATa (n:=n+1) (i:=i) h5 hv (fun j t m x hj=>by
    rw[show gh0+(n+1)+j=gh0+n+(j+1) by omega];exact hg (j+1) t m x (by simpa[ghS] using hj)) (fun j u hj=>by
    rw[show gh0+(n+1)+j=gh0+n+(j+1) by omega];exact hV (j+1) u (by simpa using hj))
   simpa[initS] using this
 |n,.fn f::ks,d,vs,fps,i,v,⟨v0,vs',h1,h2,h5⟩,hv,hg,hV=>by
  subst h1;cases i with
  |zero =>
   simp only[List.getElem?_cons_zero,Option.some.injEq]at hv;subst hv;exact ⟨[],[],h2,⟨rfl,fun k q hq=>by simp at hq⟩,⟨rfl,fun k q hq=>by simp at hq⟩⟩
  |succ i =>
   simp only[List.getElem?_cons_succ]at hv;have:=zATa (n:=n+1) (i:=i) h5 hv (fun j t m x hj=>by
    rw[show gh0+(n+1)+j=gh0+n+(j+1) by omega];exact hg (j+1) t m x (by simpa[ghS] using hj)) (fun j u hj=>by
    rw[show gh0+(n+1)+j=gh0+n+(j+1) by omega];exact hV (j+1) u (by simpa using hj))
   simpa[initS] using this
 |n,.ref t m m'::ks,d,vs,fps,i,v,⟨v0,vs',h1,h2,h4,h5⟩,hv,hg,hV=>by
  subst h1;cases i with
  |zero =>
   simp only[List.getElem?_cons_zero,Option.some.injEq]at hv;subst hv;exact al_of (hg 0 _ _ _ rfl) (hV 0 _ rfl) h2 h4
  |succ i =>
   simp only[List.getElem?_cons_succ]at hv;have:=zATa (n:=n+1) (i:=i) h5 hv (fun j t m x hj=>by
    rw[show gh0+(n+1)+j=gh0+n+(j+1) by omega];exact hg (j+1) t m x (by simpa[ghS] using hj)) (fun j u hj=>by
    rw[show gh0+(n+1)+j=gh0+n+(j+1) by omega];exact hV (j+1) u (by simpa using hj))
   simpa[initS] using this
theorem gh_sv {F:Blks} {w:World} {st:St} {V:Nat→Value}:∀ {ks:List PK} {d:DI ks} {vs:List Value} {fps:Nat→Blks} {i:Nat} {v:Value},ArgsR F w ks d vs fps→vs[i]?=some v →
  (refAt ks i=true∧svR F w st V (fps i) v ((ghS ks d).getD i .un))∨(refAt ks i=false∧(ghS ks d).getD i .un = .un)
 |[],_,vs,_,i,v,h,hv=>by simp only[ArgsR]at h; subst h; simp at hv
 | .val t m::ks,d,vs,fps,i,v,⟨v0,vs',h1,h2,h3,h4,h5⟩,hv=>by
  subst h1;cases i with
  |zero=>exact .inr ⟨rfl,rfl⟩
  |succ i=>simpa[refAt,ghS] using gh_sv (st:=st) (V:=V) (i:=i) h5 (by simpa using hv)
 | .fn f::ks,d,vs,fps,i,v,⟨v0,vs',h1,h2,h5⟩,hv=>by
  subst h1;cases i with
  |zero=>exact .inr ⟨rfl,rfl⟩
  |succ i=>simpa[refAt,ghS] using gh_sv (st:=st) (V:=V) (i:=i) h5 (by simpa using hv)
 | .ref t m m'::ks,d,vs,fps,i,v,⟨v0,vs',h1,h2,h4,h5⟩,hv=>by
  subst h1;cases i with
  |zero =>
   simp only[List.getElem?_cons_zero,Option.some.injEq]at hv;subst hv;exact .inl ⟨rfl,fun _=>h2,h4⟩
  |succ i=>simpa[refAt,ghS] using gh_sv (st:=st) (V:=V) (i:=i) h5 (by simpa using hv)
theorem zWXa:∀ {n:Nat} {ks:List PK} {d:DI ks} {i:Nat} {t:Ty} {m:Md} {x:t.I},(initS n ks d).getD i .un = .v t m x→refAt ks i=false
 |_,[],_,i,_,_,_,h=>by simp[initS]at h
 |n,.val _ _::ks,d,0,_,_,_,h=>rfl
 |n,.fn _::ks,d,0,_,_,_,h=>rfl
 |n,.ref _ _ _::ks,d,0,_,_,_,h=>by simp[initS]at h
 |n,.val _ _::ks,d,i+1,_,_,_,h=>by simpa[refAt] using zWXa (n:=n+1) (ks:=ks) (d:=d.2) (i:=i) (by simpa[initS] using h)
 |n,.fn _::ks,d,i+1,_,_,_,h=>by simpa[refAt] using zWXa (n:=n+1) (ks:=ks) (d:=d.2) (i:=i) (by simpa[initS] using h)
 |n,.ref _ _ _::ks,d,i+1,_,_,_,h=>by simpa[refAt] using zWXa (n:=n+1) (ks:=ks) (d:=d.2) (i:=i) (by simpa[initS] using h)
theorem zmSa:∀ {n:Nat} {ks:List PK} {d:DI ks} {i:Nat} {r:Nat} {p:List PE},(initS n ks d).getD i .un ≠ .bx r p
 |_,[],_,i,_,_,h=>by simp[initS]at h
 |n,.val _ _::ks,d,0,_,_,h=>by simp[initS]at h
 |n,.fn _::ks,d,0,_,_,h=>by simp[initS]at h
 |n,.ref _ _ _::ks,d,0,_,_,h=>by simp[initS]at h
 |n,.val _ _::ks,d,i+1,_,_,h=>zmSa (n:=n+1) (ks:=ks) (d:=d.2) (i:=i) (by simpa[initS] using h)
 |n,.fn _::ks,d,i+1,_,_,h=>zmSa (n:=n+1) (ks:=ks) (d:=d.2) (i:=i) (by simpa[initS] using h)
 |n,.ref _ _ _::ks,d,i+1,_,_,h=>zmSa (n:=n+1) (ks:=ks) (d:=d.2) (i:=i) (by simpa[initS] using h)
theorem zWLa:∀ {n:Nat} {ks:List PK} {d:DI ks} {i:Nat} {l:List SV},(initS n ks d).getD i .un ≠ .tup l
 |_,[],_,i,_,h=>by simp[initS]at h
 |n,.val _ _::ks,d,0,_,h=>by simp[initS]at h
 |n,.fn _::ks,d,0,_,h=>by simp[initS]at h
 |n,.ref _ _ _::ks,d,0,_,h=>by simp[initS]at h
 |n,.val _ _::ks,d,i+1,_,h=>zWLa (n:=n+1) (ks:=ks) (d:=d.2) (i:=i) (by simpa[initS] using h)
 |n,.fn _::ks,d,i+1,_,h=>zWLa (n:=n+1) (ks:=ks) (d:=d.2) (i:=i) (by simpa[initS] using h)
 |n,.ref _ _ _::ks,d,i+1,_,h=>zWLa (n:=n+1) (ks:=ks) (d:=d.2) (i:=i) (by simpa[initS] using h)
theorem zowa {F:Blks} {w:World} {e:Entry} {st:St} {V:Nat→Value} {fp:Nat→Blks} {fl:Blks} {R:Type} {res:R} (hS:SR e F w st V fp fl):∀ {n:Nat} {ks:List PK} {K:DB ks→Option R} {vs:List Value},backS ks n st K=some res→(∀j u,vs[j]?=some u→V (gh0+n+j)=u) →
  ∃b,K b=some res∧BackR F w ks b vs (fun i=>fp (gh0+n+i))
 |_,[],_,vs,h,_=>⟨(),h,by cases vs<;>trivial⟩
 |n,.val _ _::ks,K,vs,h,hV=>by
  obtain ⟨b,h1,h2⟩:=zowa hS (n:=n+1) (ks:=ks) (vs:=vs.tail) h (fun j u hj=>by
   rw[show gh0+(n+1)+j=gh0+n+(j+1) by omega];cases vs with
   |nil=>simp at hj
   |cons v vs=>exact hV (j+1) u (by simpa using hj))
  refine ⟨b,h1,?_⟩;cases vs with
  |nil=>exact zcAa
  |cons v vs=>simpa[BackR,Nat.add_assoc,Nat.add_comm 1] using h2
 |n,.fn _::ks,K,vs,h,hV=>by
  obtain ⟨b,h1,h2⟩:=zowa hS (n:=n+1) (ks:=ks) (vs:=vs.tail) h (fun j u hj=>by
   rw[show gh0+(n+1)+j=gh0+n+(j+1) by omega];cases vs with
   |nil=>simp at hj
   |cons v vs=>exact hV (j+1) u (by simpa using hj))
  refine ⟨b,h1,?_⟩;cases vs with
  |nil=>exact zcAa
  |cons v vs=>simpa[BackR,Nat.add_assoc,Nat.add_comm 1] using h2
 |n,.ref t m m'::ks,K,vs,h,hV=>by
  simp only[backS]at h;split at h
  ·rename_i T u mu y hst;cases y with
   |none=>cases h
   |some c =>
    simp only at h;split at h
    ·rename_i c' hc he;obtain ⟨eu,hy⟩:=zdca hc;subst eu;simp only at hy;subst hy;have:=Md.eqb_eq he;subst this;obtain ⟨b,h1,h2⟩:=zowa hS (n:=n+1) (ks:=ks) (vs:=vs.tail) h (fun j u hj=>by
      rw[show gh0+(n+1)+j=gh0+n+(j+1) by omega];cases vs with
      |nil=>simp at hj
      |cons v vs=>exact hV (j+1) u (by simpa using hj))
     refine ⟨(c,b),h1,?_⟩;cases vs with
     |nil=>exact zcAa
     |cons v vs =>
      have hv:V (gh0+n)=v:=hV 0 v rfl;have hsv:=hS.sv (gh0+n);rw[hst,hv]at hsv;refine ⟨zvUa (hsv.1 nofun),zZTa hsv.2,?_⟩;simpa[Nat.add_assoc,Nat.add_comm 1] using h2
    ·cases h
  ·cases h
theorem zRga {e:Entry} {w:World} {V:Nat→Value} {fl:Blks} {R α:Type} {res:R} {C:Cx R} {k:RM α} {Kk:α→St→Option R}:∀ {ks:List PK} {n:Nat} {F:Blks} {st:St} {fp:Nat→Blks},SR e F w st V fp fl→(zpva ks n k).run C st Kk=some res →
  ∃st' fp',∃F':Blks,k.run C st' Kk=some res∧SR e F' w st' V fp' fl∧∀b,F b→F' b
 |[],_,F,st,fp,hS,h=>⟨st,fp,F,h,hS,fun _ hb=>hb⟩
 | .val _ _::ks,n,F,st,fp,hS,h=>zRga (ks:=ks) (n:=n+1) hS h
 | .fn _::ks,n,F,st,fp,hS,h=>zRga (ks:=ks) (n:=n+1) hS h
 | .ref _ _ m'::ks,n,F,st,fp,hS,h=>by
  simp only[zpva,RM.run]at h;split at h
  ·rename_i T u mu y hst;split at h
   ·exact zRga (ks:=ks) (n:=n+1) hS h
   ·split at h
    ·rename_i hl;have hm:mu ≠ .j:=fun hc=>by subst hc; cases hl
     have hsv:=hS.sv (gh0+n);rw[hst]at hsv;have hd:DataAt F w st V (V (gh0+n)) (.ptr T u) mu y (some (gh0+n,[])) :=
      ⟨hm,_,_,_,hst,y,by simp only[getP],by simp[ownP],by simp[inP],cv (V (gh0+n)),none,by simp[rs],by
       have h1:V (gh0+n)=valOf (.ptr T u) (cv (V (gh0+n))):=hsv.1 hm;have h2:=PartOf.all (c':=cv (V (gh0+n))) (.ptr T u) y
       rwa [←h1]at h2⟩
     obtain ⟨st1,fp1,fq,F1,h2,hS1,hF1,hv1,hm1,hrep1,hfl,_⟩:=zZJa (m' := .o m') hS hd hl h;simp only[setS,RM.run]at h2;have hS2:=hS1.fillV (d:=gh0+n) (v:=V (gh0+n)) (fq:=fq) (fl':=fl) (fun _=>rfl) (fun _=>hv1) hrep1 (fun b hb => .inr hb) (fun b hb=>⟨.inl hb,fun hc=>hfl b hc hb⟩);rw[znEa]at hS2;obtain ⟨st',fp',F',k1,k2,k3⟩:=zRga (ks:=ks) (n:=n+1) hS2 h2;exact ⟨st',fp',F',k1,k2,fun b hb=>k3 b (hF1 b hb)⟩
    ·simp[RM.run]at h
  ·simp[RM.run]at h
theorem zHZa {F:Blks} {w:World}:∀ {ks:List (Ty×Md)} {d:DI (pks ks)} {vs:List Value} {fps:Nat→Blks},ArgsR F w (pks ks) d vs fps→vs.length=(resV ks (toDR ks d)).length ∧
  ∀ {k:Nat} {t:Ty} {m:Md} {x:t.I},(resV ks (toDR ks d))[k]?=some (.v t m x)→∃u,vs[k]?=some u∧(m ≠ .j→isV t u)∧rep F w t m x (cv u) (fps k)
 |[],_,vs,fps,h=>by
  simp only[pks,ArgsR]at h;subst h;exact ⟨rfl,fun h=>by simp[resV]at h⟩
 |q::ks,d,vs,fps,h=>by
  obtain ⟨v,vs',rfl,h2,h3,h4,h5⟩:=h;obtain ⟨r1,r2⟩:=zHZa h5;refine ⟨by simp[resV,toDR,r1],fun {k t m x} hk=>?_⟩;cases k with
  |zero =>
   simp only[resV,List.getElem?_cons_zero,Option.some.injEq,toDR]at hk;cases hk;exact ⟨v,rfl,fun _=>h2,h4⟩
  |succ k =>
   simp only[resV,List.getElem?_cons_succ,toDR]at hk;obtain ⟨u,k1,k2,k3⟩:=r2 hk;exact ⟨u,by simpa using k1,k2,k3⟩
def zlXa:List Value→Value
 |[v]=>v
 |vs => .tuple vs.toArray
theorem zIZa {F:Blks} {w:World} {ks:List (Ty×Md)} {d:DI (pks ks)} {vs:List Value} {fps:Nat→Blks} (hd:Disj fps) (h:ArgsR F w (pks ks) d vs fps):ResR F w (zlXa vs) (fun b=>∃i,fps i b) (resS ks (toDR ks d)):=by
 obtain ⟨h1,h2⟩:=zHZa h;have hlen:vs.length=ks.length:=by
  rw[zsHa h];clear h h1 h2 d
  induction ks with
  |nil=>rfl
  |cons q ks ih=>simp[pks,ih]
 have htup:ResR F w (.tuple vs.toArray) (fun b=>∃i,fps i b) (.tup (resV ks (toDR ks d))) :=
  ⟨vs,rfl,h1,fps,hd,fun k b hb=>⟨k,hb⟩,fun k t m x hk=>h2 hk⟩
 rcases ks with _|⟨q,_|⟨q',ks⟩⟩
 ·obtain rfl:vs=[]:=List.eq_nil_of_length_eq_zero hlen;exact htup
 ·rcases vs with _|⟨v,_|⟨v',vs⟩⟩
  ·simp at hlen
  ·obtain ⟨u,k1,k2,k3⟩:=h2 (k:=0) rfl;simp only[List.getElem?_cons_zero,Option.some.injEq]at k1;subst k1;exact ⟨k2,zEoa (fun b hb=>⟨0,hb⟩) k3⟩
  ·simp at hlen
 ·rcases vs with _|⟨v,_|⟨v',vs⟩⟩
  ·simp at hlen
  ·simp at hlen
  ·exact htup
theorem zWTa {P:Program} {w:World} {tmps vals:Array Value} {f:ResultVar→Sem Value} (hf:∀t,(f (.tmp t)).run P w = .ok (tmps.getD t undef) w) :
  ∀ {rs:List (Nat×Option TypeId)},(∀r T,(r,some T)∈rs→(f (.cell r T)).run P w = .ok (vals.getD r undef) w)→(∀r,(r,none)∈rs→vals.getD r undef=tmps.getD r undef) →
  ((rs.map toRV).mapM f).run P w = .ok ((zqAa rs).map fun t=>vals.getD t undef) w
 |[],_,_=>rfl
 |(r,none)::rs,h1,h2=>by
  have ih:=zWTa (vals:=vals) hf (rs:=rs) (fun r T h=>h1 r T (List.mem_cons_of_mem _ h)) (fun r h=>h2 r (List.mem_cons_of_mem _ h));simp only[List.map_cons,List.mapM_cons,Sem.run_bind,toRV,hf,Sem.run_pure,Result.andThen_ok,ih,zqAa,h2 r List.mem_cons_self]
 |(r,some T)::rs,h1,h2=>by
  have ih:=zWTa (vals:=vals) hf (rs:=rs) (fun r T h=>h1 r T (List.mem_cons_of_mem _ h)) (fun r h=>h2 r (List.mem_cons_of_mem _ h));simp only[List.map_cons,List.mapM_cons,Sem.run_bind,toRV,h1 r T List.mem_cons_self,Sem.run_pure,Result.andThen_ok,ih,zqAa]
theorem zjGa {P:Program} {fn:Func} {w:World} {tmps vals:Array Value} {rs:List (Nat×Option TypeId)} (h:fn.results=(rs.map toRV).toArray)
  (h1:∀r T,(r,some T)∈rs→(do loadVar T (←asAddr (tmps.getD r undef)):Sem Value).run P w = .ok (vals.getD r undef) w) (h2:∀r,(r,none)∈rs→vals.getD r undef=tmps.getD r undef) :
  (results fn tmps).run P w = .ok (zlXa ((zqAa rs).map (fun t=>vals.getD t undef))) w:=by
 unfold results;rw[h];simp only[Array.mapM_eq_mapM_toList,Sem.run_bind,Sem.run_map];rw[zWTa (tmps:=tmps) (vals:=vals) (fun t=>rfl) h1 h2];simp only[Result.andThen_ok,Sem.run_pure];rcases rs with _|⟨r,_|⟨r',rs⟩⟩
 ·rfl
 ·rfl
 ·simp[zlXa,zqAa]
theorem zLPa {rs:List (Nat×Option TypeId)} {r:Nat} {T:TypeId}:(r,T)∈zEla rs↔(r,some T)∈rs:=by
 induction rs with
 |nil=>simp[zEla]
 |cons q rs ih =>
  obtain ⟨r',o⟩:=q;cases o with
  |none=>simp[zEla,ih]
  |some T'=>simp[zEla,ih]
theorem zuWa {st:St} {r:Nat} {v:SV}:((st.put r .un).kill r []).put r v=(st.kill r []).put r v:=by
 funext i
 by_cases hi:i=r
 ·subst hi; rw[zWca,zWca]
 ·rw[zsba hi,zsba hi];simp only[St.kill,zsba hi]
theorem zoEa {P:Program} {env:Env} {e:Entry} {F:Blks} {w:World} {α R:Type} {Kk:α→St→Option R} {res:R} {C:Cx R} {gh:Nat→Value} {k:RM α} (hE:EnvTy P env):∀ {cs:List (Nat×TypeId)} {st:St} {V:Nat→Value} {fp:Nat→Blks} {a:Act},SR e F w st V fp none'→AR env gh a V→(zSTa env cs k).run C st Kk=some res →
  ∃st' V' fp' a',k.run C st' Kk=some res∧SR e F w st' V' fp' none'∧AR env gh a' V'∧(∀q∈cs,(do loadVar q.2 (←asAddr (a.tmps.getD q.1 undef)):Sem Value).run P w = .ok (a'.tmps.getD q.1 undef) w)∧(∀r,(∀q∈cs,q.1≠r)→a'.tmps.getD r undef=a.tmps.getD r undef)
 |[],st,V,fp,a,hS,hA,h=>⟨st,V,fp,a,h,hS,hA,fun q hq=>by simp at hq,fun _ _=>rfl⟩
 |(r,T)::cs,st,V,fp,a,hS,hA,h=>by
  unfold zSTa at h;split at h
  ·rename_i hck;simp only[Bool.and_eq_true]at hck;have hrn:=zsta hck.2;simp only[RM.run]at h;split at h
   ·rename_i U t m y hst;cases y with
    |none=>simp[RM.run]at h
    |some c =>
     simp only at h;split at h
     ·rename_i hT;simp only[Bool.and_eq_true,Bool.not_eq_true']at hT;simp only[RM.run]at h;have hm:m ≠ .j:=by rintro rfl; cases hT.2
      have hsv:=hS.sv (env.b+r);rw[hst]at hsv;have hrp:=hsv.2;simp only[rep]at hrp;obtain ⟨A,e1,ad,rfl,hsp,e2,e3,f,e4,e5⟩:=hrp;obtain ⟨b,o,sp⟩:=ad;simp only at hsp;subst hsp;simp only at e2 e3 e4 e5;have hone:t.agg=false→one (rowW w b o 0):=fun ha=>zJwa e5 hm ha
      have hS1:=(hS.drop (env.b+r)).fillV (d:=env.b+r) (v:=valOf t (rowW w b o)) (fq:=f) (fl':=none') (hA.gd hrn) (fun _=>zOva hone) (zEaa (fun j hj=>(zPxa hone j hj).symm) e5)
       (fun b' hb' => .inr (e4 b' hb').1) (fun _ hb=>hb.elim)
      rw[zuWa]at hS1;obtain ⟨st',V',fp',a',k1,k2,k3,k4,k5⟩:=zoEa hE hS1 (hA.put hrn) h;have hval:a.tmps.getD r undef = .pointer (some ⟨b,o,none⟩):=by
       rw[hA.tmps r hrn,zLZa (hsv.1 nofun)];exact e1
      have hother:∀r',r'≠r→(a.put (some r) (valOf t (rowW w b o))).tmps.getD r' undef=a.tmps.getD r' undef:=fun r' hr'=>by
       simp only[Act.put,Array.getD_eq_getD_getElem?];rw[Array.getElem?_setIfInBounds_ne (Ne.symm hr')]
      have hne:∀q∈cs,q.1≠r:=fun q hq hc=>by
       have:=List.all_eq_true.1 hck.1 q hq;rw[hc,Nat.beq_refl]at this;cases this
      refine ⟨st',V',fp',a',k1,k2,k3,fun q hq=>?_,fun r' hr'=>?_⟩
      ·rcases List.mem_cons.1 hq with hq|hq
       ·subst hq;simp only;rw[k5 r (fun q hq=>hne q hq),hval];have hnew:(a.put (some r) (valOf t (rowW w b o))).tmps.getD r undef=valOf t (rowW w b o):=by
         have:r<a.tmps.size:=by rw[hA.size]; exact hrn
         simp[Act.put,Array.getD,this]
        rw[hnew];simp only[asAddr,Sem.run_bind,Sem.run_pure,Result.andThen_ok];exact zwta (Env.is_ok hE hT.1) e3
       ·rw[←hother q.1 (hne q hq)];exact k4 q hq
      ·rw[k5 r' (fun q hq=>hr' q (List.mem_cons_of_mem _ hq))];exact hother r' (fun hc=>hr' (r,T) List.mem_cons_self hc.symm)
     ·simp[RM.run]at h
   ·simp[RM.run]at h
  ·simp[RM.run]at h
section
variable {P:Program} {env:Env} {inl:Inl}
def rvOk (rs:List (Nat×Option TypeId)):Bool:=rs.all fun q=>match q.2 with
 |none=>(zEla rs).all fun c=>!(Nat.beq c.1 q.1)
 |some _=>true
theorem ziXa {rs:List (Nat×Option TypeId)} (h:rvOk rs=true):∀(r:Nat) (q:Nat×TypeId),(r,none)∈rs→q∈zEla rs→q.1=r→False:=by
 intro r q h1 h2 h3;have:=List.all_eq_true.1 h _ h1;simp only at this;have:=List.all_eq_true.1 this q h2;rw[h3,Nat.beq_refl]at this;cases this
theorem zX0a {f:FuncId} {fn:Func} {code:Code} {c:CSpec} {rs:List (Nat×Option TypeId)} {lp:Loops} (hm:P.follows .mixedOrders=true) (hE:EnvTy P env) (hF:EnvFn P env) (hI:InlOk P env.top inl) (hf:P.funcs[f]?=some fn) (hname:(fn.name == "runtime.NumGoroutine")=false) (hb:fn.body=some code) (hr:fn.results=(rs.map toRV).toArray)
  (hn:env.n=fn.ntmps) (hlen:(Nat.ble c.ins.length fn.ntmps&&(Nat.blt fn.ntmps gh0&&(Nat.beq env.b 0&&!env.df)))=true) (hL:zsaa env lp inl code) (hrd:rvOk rs=true)
  (hev:∀(d:DI c.ins) (R:Type) (K:DR c.outs→DB c.ins→Option R) (Kp:PI c.pan→DB c.ins→Option R) (res:R),c.fn d K Kp=some res→evC env lp inl code (St.start c.ins d) (retK env c.ins c.outs rs c.pan K Kp)=some res):Holds P f c:=by
 refine ⟨⟨fn,code,hf,hname,hb⟩,?_⟩;intro F w d vs fps R K Kp res hGl hFs hd hfp hargs hcall;have hnd:=ziXa hrd;have hvl:=zsHa hargs;simp only[Bool.and_eq_true,Bool.not_eq_true']at hlen;have hle:=Nat.le_of_ble_eq_true hlen.1;have hlim:=zsta hlen.2.1;have hb0:=Nat.eq_of_beq_eq_true hlen.2.2.1;have hdf:=hlen.2.2.2;refine calls_of_wp hf hb ?_
 let e:Entry:=⟨w,fun b=>∃i,fps i b,F⟩
 let gh:Nat→Value:=fun i=>vs.getD (i-gh0) undef
 let tm:Array Value:=vs.toArray++Array.replicate (fn.ntmps-vs.toArray.size) undef
 let V0:Nat→Value:=fun i=>if gh0≤i then vs.getD (i-gh0) undef else tm.getD i undef
 let fp0:Nat→Blks:=fun i b=>if gh0≤i then refAt c.ins (i-gh0)=true∧i-gh0<vs.length∧fps (i-gh0) b else refAt c.ins i=false∧i<vs.length∧fps i b
 have htm:∀i v,vs[i]?=some v→tm.getD i undef=v:=by
  intro i v hv;have hi:i<vs.length:=(List.getElem?_eq_some_iff.1 hv).1;simp only[tm,Array.getD_eq_getD_getElem?];rw[Array.getElem?_append_left (by simpa using hi)];simp[hv]
 have hgh:∀j v,vs[j]?=some v→V0 (gh0+0+j)=v:=by
  intro j v hv;show (if gh0≤gh0+0+j then vs.getD (gh0+0+j-gh0) undef else _)=v;rw[if_pos (by omega),show gh0+0+j-gh0=j by omega,List.getD_eq_getElem?_getD,hv];rfl
 have hstg:∀j,St.start c.ins d (gh0+0+j)=(ghS c.ins d).getD j .un:=by
  intro j;unfold St.start;rw[show Nat.ble gh0 (gh0+0+j)=true from Nat.ble_eq_true_of_le (by omega)];simp only;rw[show gh0+0+j-gh0=j by omega]
 have hA0:AR env gh { tmps:=tm,defers:=[] } V0:=⟨by simp only[tm,Array.size_append,List.size_toArray,Array.size_replicate]; omega,fun i hi=>by
  show tm.getD i undef=if gh0≤env.b+i then _ else _
  rw[if_neg (by omega),hb0,Nat.zero_add],by rw[hdf],by omega,fun i hi=>by
  rcases hi with hi|hi
  ·omega
  ·exact if_pos hi⟩
 have hfp0:∀i b,fp0 i b→∃j,fps j b:=by
  intro i b hb;simp only[fp0]at hb;split at hb
  ·exact ⟨_,hb.2.2⟩
  ·exact ⟨_,hb.2.2⟩
 have hS0:SR e F w (St.start c.ins d) V0 fp0 none':=by
  refine ⟨fun i=>?_,⟨fun i j hij b hb hb'=>?_⟩,fun i b hb=>?_,fun i b hb=>?_,hFs,fun _ _ _ hb=>hb.elim,fun _ hb=>hb.elim,fun _ hb=>hb.elim,Grew.refl _,fun _ _ _=>rfl,fun i b hb => .inl (hfp0 i b hb),fun _ hb=>hb.elim,fun _ hb=>hb,fun _ hb => .inl hb⟩
  ·by_cases hgi:gh0≤i
   ·obtain ⟨j,rfl⟩:∃j,i=gh0+0+j:=⟨i-gh0,by omega⟩
    rw[hstg j];by_cases hj:j<vs.length
    ·have hv:vs[j]?=some vs[j]:=List.getElem?_eq_getElem hj;rw[hgh j _ hv];rcases gh_sv (st:=St.start c.ins d) (V:=V0) hargs hv with ⟨h1,h2⟩|⟨h1,h2⟩
     ·have hfi:∀b,fps j b→fp0 (gh0+0+j) b:=fun b hb=>by
       show if gh0≤gh0+0+j then _ else _
       rw[if_pos (by omega),show gh0+0+j-gh0=j by omega];exact ⟨h1,hj,hb⟩
      cases hsi:(ghS c.ins d).getD j .un with
      |v t m x=>rw[hsi]at h2; exact ⟨h2.1,zEoa hfi h2.2⟩
      |tup l =>
       rw[hsi]at h2;obtain ⟨vs',e1,e2,fs,e3,e4,e5⟩:=h2;exact ⟨vs',e1,e2,fs,e3,fun k b hb=>hfi b (e4 k b hb),e5⟩
      |al r q=>rw[hsi]at h2; exact h2
      |lz r q=>rw[hsi]at h2; exact h2
      |sub r q lo hi=>rw[hsi]at h2; exact h2
      |bx r q=>rw[hsi]at h2; exact h2
      |ifc T t1 x1=>rw[hsi]at h2; exact h2
      |fn f s caps=>rw[hsi]at h2; exact h2
      |nil=>rw[hsi]at h2; exact h2
      |un=>trivial
     ·rw[h2]; trivial
    ·have:(ghS c.ins d).getD j .un = .un:=by
      have:(ghS c.ins d).length≤j:=by rw[zFSa,←hvl]; omega
      simp[List.getD,this]
     rw[this];trivial
   ·have hst:St.start c.ins d i=(initS 0 c.ins d).getD i .un:=by
     unfold St.start;rw[show Nat.ble gh0 i=false from by
      cases hb:Nat.ble gh0 i with
      |false=>rfl
      |true=>exact absurd (Nat.le_of_ble_eq_true hb) hgi]
    have hVi:V0 i=tm.getD i undef:=if_neg hgi;rw[hst,hVi];by_cases hi:i<vs.length
    ·have hv:vs[i]?=some vs[i]:=List.getElem?_eq_getElem hi;have:=zATa (n:=0) (st:=St.start c.ins d) (V:=V0) hargs hv (fun j t m x hj=>by
      rw[hstg j,List.getD_eq_getElem?_getD,hj];rfl) hgh
     rw[htm i _ hv];cases hsi:(initS 0 c.ins d).getD i .un with
     |v t m x =>
      rw[hsi]at this;refine ⟨this.1,zEoa (fun b hb=>?_) this.2⟩;show if gh0≤i then _ else _
      rw[if_neg hgi];exact ⟨zWXa hsi,hi,hb⟩
     |tup l=>exact absurd hsi zWLa
     |al r q=>rw[hsi]at this; exact this
     |lz r q=>rw[hsi]at this; exact this
     |sub r q lo hi=>rw[hsi]at this; exact this
     |bx r q=>exact absurd hsi zmSa
     |ifc T t1 x1=>rw[hsi]at this; exact this
     |fn f s caps=>rw[hsi]at this; exact this
     |nil=>rw[hsi]at this; exact this
     |un=>trivial
    ·have:(initS 0 c.ins d).getD i .un = .un:=by
      have:(initS 0 c.ins d).length≤i:=by rw[zNEa,←hvl]; omega
      simp[List.getD,this]
     rw[this];trivial
  ·simp only[fp0]at hb hb';split at hb<;>split at hb'
   ·exact hd.disj _ _ (by omega) b hb.2.2 hb'.2.2
   ·by_cases hq:i-gh0=j
    ·rw[hq]at hb; rw[hb.1]at hb'; cases hb'.1
    ·exact hd.disj _ _ hq b hb.2.2 hb'.2.2
   ·by_cases hq:i=j-gh0
    ·rw[←hq]at hb'; rw[hb.1]at hb'; cases hb'.1
    ·exact hd.disj _ _ hq b hb.2.2 hb'.2.2
   ·exact hd.disj _ _ hij b hb.2.2 hb'.2.2
  ·obtain ⟨j,hb⟩:=hfp0 i b hb; exact (hfp j b hb).1
  ·obtain ⟨j,hb⟩:=hfp0 i b hb; exact (hfp j b hb).2
 have hgv:∀ {V:Nat→Value} {a:Act},AR env gh a V→∀j u,vs[j]?=some u→V (gh0+0+j)=u:=fun hA j u hj=>by
  rw[hA.keep _ (.inr (by omega))];show vs.getD (gh0+0+j-gh0) undef=u;rw[show gh0+0+j-gh0=j by omega,List.getD_eq_getElem?_getD,hj];rfl
 have hdef:∀ {V:Nat→Value} {a:Act},AR env gh a V→a.defers=[]:=fun hA=>by have:=hA.defers; rwa [hdf]at this
 refine zSQa hm hE hF hI (e:=e) ⟨hGl,fun b hb=>⟨fun ⟨i,hc⟩=>(hfp i b hc).1 hb,hFs b hb⟩⟩ hL (fun _ _ _ _ _ _ h=>h) ⟨?_,?_⟩ hS0 hA0 (hev d R K Kp res hcall)
 case refine_2 =>
  intro p ch F1 w1 st1 V1 fp1 a1 hS hA hp h;simp only[retK]at h;split at h
  ·rename_i y hy;obtain ⟨st1,fp1,F1,h,hS,hFF⟩:=zRga hS h
   replace hp:=hp.mono hFF
   simp only[RM.run]at h;obtain ⟨rb,k1,kb⟩:=zowa hS (vs:=vs) h (hgv hA);refine ⟨hdef hA,rb,F1,none',fun i=>fp1 (gh0+0+i),.inr ⟨ch,y,rfl,k1,by rw[zuXa hy]; exact hp⟩,fun b hb=>hS.g5 b hb,hS.g1,fun b hb hno=>hS.g2 b hb (fun hc=>by obtain ⟨i,hc⟩:=hc; exact hno i hc),
    ⟨⟨fun i j hij b hb hb'=>hS.disj.disj _ _ (by omega) b hb hb'⟩,fun i b hb hc=>hc,kb⟩,fun b hb=>?_,fun b hb=>⟨hS.inF b hb,hS.g6 b hb⟩⟩
   rcases hb with hb|⟨i,hb⟩
   ·exact hb.elim
   ·exact ⟨hS.notF _ b hb,hS.inH _ b hb,hS.g3 _ b hb⟩
  ·cases h
 intro x F1 w1 st1 V1 fp1 a1 hx hS hA h;have key:(zSTa env (zEla rs) (zuxa env false (pks c.outs) ((zqAa rs).map Operand.tmp) [] fun d _ _=>zpva c.ins 0 (.ret (toDR c.outs d)))).run Cx.no st1 (fun r st=>backS c.ins 0 st fun b=>K r b)=some res→a1.defers=[]∧∃v,(results fn a1.tmps).run P w1 = .ok v w1∧∃rb,∃F' fo:Blks,∃fb:Nat→Blks,((∃v' ro,Ending.returned v = .returned v'∧K ro rb=some res∧ResR F' w1 v' fo (resS c.outs ro))∨(∃ch pi,Ending.returned v = .panicked ch∧Kp pi rb=some res∧PanR F' w1 (PI.pan c.pan pi) ch))∧(∀b,F b→F' b)∧Grew w w1∧(∀b,b<w.heap.size→(∀i,¬fps i b)→Same w w1 b) ∧
   (Disj fb∧(∀i b,fb i b→¬fo b)∧BackR F' w1 c.ins rb vs fb)∧(∀b,(fo b∨∃i,fb i b)→¬F' b∧b<w1.heap.size∧((∃i,fps i b)∨w.heap.size≤b))∧(∀b,F' b→b<w1.heap.size∧(F b∨(∃i,fps i b)∨w.heap.size≤b)):=by
  intro h;obtain ⟨st2,V2,fp2,a2,h,hS2,hA2,u1,u2⟩:=zoEa hE hS hA h;obtain ⟨st',fp',fl',F',d',ms,bs,fps',k1,k2,k3,k4,k5,k6,k7,k8,k9⟩:=zdia hA2 hS2 h;obtain ⟨st',fpm,F2,k1,k2,hFF⟩:=zRga k2 k1;simp only[RM.run]at k1;obtain ⟨rb,k1,kb⟩:=zowa k2 (vs:=vs) k1 (hgv hA2);have hnd':∀(r:Nat) (q:Nat×TypeId),(r,none)∈rs→q∈zEla rs→q.1=r→False:=hnd;refine ⟨hdef hA,_,zjGa (vals:=a2.tmps) hr (fun r T hq=>u1 (r,T) (zLPa.2 hq)) (fun r hq=>u2 r (fun q hqc hc=>hnd' r q hq hqc hc)),rb,F2,fun b=>∃i,fps' i b,fun i=>fpm (gh0+0+i),.inl ⟨_,toDR c.outs d',rfl,k1,?_⟩,fun b hb=>k2.g5 b hb,k2.g1,fun b hb hno=>k2.g2 b hb (fun hc=>by obtain ⟨i,hc⟩:=hc; exact hno i hc),⟨⟨fun i j hij b hb hb'=>k2.disj.disj _ _ (by omega) b hb hb'⟩,fun i b hb hc=>?_,kb⟩,fun b hb=>?_,fun b hb=>⟨k2.inF b hb,k2.g6 b hb⟩⟩
  ·have hbs:=k8 rfl;subst hbs;have h9:ArgsR F2 w1 (pks c.outs) d' (((zqAa rs).map Operand.tmp).map a2.eval) fps':=k9.mono (fun b hb=>by
    rcases hb with hb|⟨r,hr,_⟩
    ·exact hFF b hb
    ·cases hr)
   have:=zIZa k5 h9;have e1:((zqAa rs).map Operand.tmp).map a2.eval=(zqAa rs).map (fun t=>a2.tmps.getD t undef):=by
    rw[List.map_map]; rfl
   rw[e1]at this;exact this
  ·obtain ⟨j,hc⟩:=hc;exact k2.flD _ b hb (k6 j b hc).1
  ·rcases hb with ⟨i,hb⟩|⟨i,hb⟩
   ·exact ⟨k2.flF b (k6 i b hb).1,k2.flH b (k6 i b hb).1,k2.g4 b (k6 i b hb).1⟩
   ·exact ⟨k2.notF _ b hb,k2.inH _ b hb,k2.g3 _ b hb⟩
 cases x with
 |exit i=>cases h
 |pan p=>cases hx
 |normal=>exact key h
 |ret=>exact key h
end
end Go.Trm
namespace Go.Trm
def zBJa:Code→List Code
 | .seq a b=>zBJa a++zBJa b
 | .cond _ a b=>zBJa a++zBJa b
 | .block _ c=>zBJa c
 | .scope c=>zBJa c
 | .loop c=>c::zBJa c
 |_=>[]
end Go.Trm
