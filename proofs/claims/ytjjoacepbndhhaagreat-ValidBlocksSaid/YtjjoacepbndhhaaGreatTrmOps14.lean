import Derived.Test.YtjjoacepbndhhaaGreatTrmOps7
import Derived.Laws.IdiomStrings
import Derived.Laws.Tables
import Derived.Laws.NewFold
import Derived.Laws.MakeOwn
import Derived.Deep.Upon
set_option linter.unusedVariables false
set_option linter.unusedSimpArgs false
namespace Go.Trm
theorem zCKa (y:List UInt8):(⟨y.toArray⟩:ByteArray).size=y.length:=by show y.toArray.size=_; simp
theorem zlWa (y:List UInt8) (l h:Int):(⟨y.toArray⟩:ByteArray).extract l.toNat h.toNat=⟨(rng y l h).toArray⟩:=by
 apply ByteArray.ext;rw[ByteArray.data_extract];apply Array.ext';simp[rng,List.drop_take]
section
variable {P:Program} {env:Env} {e:Entry} {F:Blks} {w:World} {st:St} {V:Nat→Value} {fp:Nat→Blks} {fl:Blks} {a:Act} {o:Oper} {R:Type} {K:Unit→St→Option R} {res:R} {C:Cx R} {gh:Nat→Value} {next:Act→World→Prop} {Q:Exit→Act→World→Prop}
theorem znEa (V:Nat→Value) (s:Nat):updV V s (V s)=V:=by
 funext i
 unfold updV;split
 ·rename_i h; rw[h]
 ·rfl
theorem zQRa {x:Operand} {i:Nat} (ho:o.op = .extract x i) (hS:SR e F w st V fp none') (hA:AR env gh a V) (hN:Nxt env gh e K res next) (h:(evOp env o).run C st K=some res):wpp P o a w next:=by
 simp only[evOp,ho]at h;obtain ⟨sv,h1,hx⟩:=zmfa h;split at h1
 ·rename_i l;rcases hx with ⟨s,rfl,hs,h3⟩|⟨c,rfl,h3⟩|⟨f,rfl,h3⟩
  ·have hev:a.eval (.tmp s)=V (env.b+s):=hA.tmps s hs;have hsv:=hS.sv (env.b+s);rw[←h3]at hsv;obtain ⟨vs,e1,e2,fs,e3,e4,e5⟩:=hsv;have hrun:∀u,vs[i]?=some u→∀w,(execOp a.eval o).run P w = .ok (.value u) w:=by
    intro u hu w;simp only[execOp,ho,hev,e1,Instr.extract,List.getElem?_toArray,hu,Sem.run_bind,Sem.run_pure,Result.andThen_ok]
   split at h1
   ·rename_i t y hl;obtain ⟨u,k1,k2,k3⟩:=e5 i _ _ _ hl;exact endVp hS hA hN h1 (fun _=>k2 nofun) (rep_s (fp':=none') k3) (fun _ hb=>hb) (hrun u k1)
   ·rename_i t m y hm hl;obtain ⟨u,k1,k2,k3⟩:=e5 i _ _ _ hl;simp only[self,setS,RM.run]at h1;have hS1:=hS.drop (env.b+s);have hS2:=hS1.fillO (d:=env.b+s) (v:=V (env.b+s)) (sv := .tup (l.set i .un)) (fq:=fun b=>fp (env.b+s) b∧¬fs i b) (fl':=fs i) (fun _=>rfl) rfl
     ⟨vs,e1,by simpa using e2,fun k b=>k≠i∧fs k b,⟨fun k j hkj b hb hc=>e3.disj k j hkj b hb.2 hc.2⟩,fun k b hb=>⟨e4 k b hb.2,fun hc=>e3.disj k i hb.1 b hb.2 hc⟩,fun k t1 m1 x1 hk=>by
      by_cases hki:k=i
      ·subst hki;rw[List.getElem?_set]at hk;simp only[if_true]at hk;split at hk<;>cases hk
      ·rw[List.getElem?_set_ne (Ne.symm hki)]at hk;obtain ⟨u1,q1,q2,q3⟩:=e5 k t1 m1 x1 hk;exact ⟨u1,q1,q2,zEoa (fun b hb=>⟨hki,hb⟩) q3⟩⟩
     (fun b hb => .inr hb.1) (fun b hb=>⟨.inr (e4 i b hb),fun hc=>hc.2 hb⟩)
    rw[znEa]at hS2;have hst:(st.put (env.b+s) SV.un).put (env.b+s) (.tup (l.set i .un))=st.put (env.b+s) (.tup (l.set i .un)):=by
     funext j
     by_cases hj:j=env.b+s
     ·subst hj; rw[zWca,zWca]
     ·rw[zsba hj,zsba hj,zsba hj]
    rw[hst]at hS2;exact endVp hS2 hA hN h1 k2 k3 (fun _ hb=>hb) (hrun u k1)
   ·simp[RM.run]at h1
  ·unfold cst at h3; (repeat' split at h3)<;>cases h3
  ·cases h3
 ·simp[RM.run]at h1
theorem zLKa {α:Type} {K:α→St→Option R}:∀ {xs:List Operand} {k:List (Nat×List PE)→RM α} (_:SR e F w st V fp fl) (_:AR env gh a V) (_:(zdUa env xs k).run C st K=some res),
  ∃l:List (Nat×List PE),(k l).run C st K=some res∧l.length=xs.length∧∀(i:Nat) (q:Nat×List PE),l[i]?=some q→∃u,(xs.map a.eval)[i]?=some u∧CapOk F w st V q.1 q.2 u
 |[],k,hS,hA,h=>⟨[],h,rfl,fun i q hq=>by simp at hq⟩
 |x::xs,k,hS,hA,h=>by
  simp only[zdUa]at h;obtain ⟨sv,h,hx⟩:=zmfa h;have key:∀r p,CapOk F w st V r p (a.eval x)→(zdUa env xs fun l=>k ((r,p)::l)).run C st K=some res→∃l:List (Nat×List PE),(k l).run C st K=some res∧l.length=(x::xs).length∧∀(i:Nat) (q:Nat×List PE),l[i]?=some q→∃u,((x::xs).map a.eval)[i]?=some u∧CapOk F w st V q.1 q.2 u:=by
   intro r p ha h1;obtain ⟨l,h2,h3,h4⟩:=zLKa hS hA h1;refine ⟨(r,p)::l,h2,by simp[h3],fun i q hq=>?_⟩;cases i with
   |zero=>simp only[List.getElem?_cons_zero,Option.some.injEq]at hq; subst hq; exact ⟨_,rfl,ha⟩
   |succ i=>simp only[List.getElem?_cons_succ]at hq; simpa using h4 i q hq
  split at h
  ·exact key _ [] (zv1a hS hA hx) h
  ·rcases zNRa hS hA h with ⟨r,p,h1,ha⟩|⟨t,y,b,k,h1,_⟩
   ·cases p with
    |nil=>simp[RM.run]at h1
    |cons e p=>exact key r (e::p) ha h1
   ·simp[RM.run]at h1
theorem zHOa {f:FuncId} {first caps:Array Operand} (ho:o.op = .makeFunc (.func f) first caps) (hS:SR e F w st V fp none') (hA:AR env gh a V) (hN:Nxt env gh e K res next) (h:(evOp env o).run C st K=some res):wpp P o a w next:=by
 simp only[evOp,ho]at h;obtain ⟨l,h1,h2,h3⟩:=zLKa hS hA h;obtain ⟨l',h1,h2',h3'⟩:=zLKa hS hA h1;refine endOp (fq:=none') (v := .func (.func f) ((first.toList.map a.eval).toArray) ((caps.toList.map a.eval).toArray)) hS hA hN rfl h1 ⟨first.toList.map a.eval,caps.toList.map a.eval,rfl,⟨by simpa using h2.symm,fun k q hq=>h3 k q hq⟩,⟨by simpa using h2'.symm,fun k q hq=>h3' k q hq⟩⟩ (fun _ hb=>hb) ?_;intro w;simp only[execOp,ho,Instr.makeFunc,Sem.run_bind,Sem.run_pure,Result.andThen_ok];have e1:(List.map a.eval first.toList).toArray=Array.map a.eval first:=by apply Array.ext'; simp
 have e2:(List.map a.eval caps.toList).toArray=Array.map a.eval caps:=by apply Array.ext'; simp
 rw[e1,e2]
theorem zgKa {α:Type} {K:α→St→Option R} {x:Option Operand} {d:Int} {k:Int→RM α} (hS:SR e F w st V fp fl) (hA:AR env gh a V) (h:(bound env x d k).run C st K=some res) :
  ∃n,(k n).run C st K=some res∧((x=none∧n=d)∨∃o kd,x=some o∧a.eval o = .int kd n):=by
 unfold bound at h;split at h
 ·exact ⟨d,h,.inl ⟨rfl,rfl⟩⟩
 ·obtain ⟨kd,n,h1,e1,r1⟩:=zkma hS hA h;exact ⟨n,h1,.inr ⟨_,kd,rfl,e1⟩⟩
theorem zIKa {b:Bool} {len cap:Nat} {lo hi:Option Operand} {l h:Int} (hl:(lo=none∧l=0)∨∃o kd,lo=some o∧a.eval o = .int kd l) (hh:(hi=none∧h=(len:Nat))∨∃o kd,hi=some o∧a.eval o = .int kd h)
  (hr:0≤l∧l≤h∧h≤(len:Nat)) (hc:len≤cap):(Instr.sliceBounds b len cap (lo.map a.eval) (hi.map a.eval) none).run P w = .ok (l.toNat,h.toNat,cap) w:=by
 have h2:0≤h:=by omega
 have h3:h≤(cap:Int):=by omega
 have h4:l≤(h.toNat:Int):=by omega
 have h5:0≤(len:Int):=by omega
 rcases hl with ⟨rfl,rfl⟩|⟨o1,k1,rfl,e1⟩<;>rcases hh with ⟨rfl,rfl⟩|⟨o2,k2,rfl,e2⟩
 ·simp[Instr.sliceBounds]
 ·simp[Instr.sliceBounds,Instr.sliceBound,asIntOf,e2,h2,h3]
 ·simp[Instr.sliceBounds,Instr.sliceBound,asIntOf,e1,hr.1,hr.2.1]
 ·simp[Instr.sliceBounds,Instr.sliceBound,asIntOf,e1,e2,hr.1,h2,h3];intro hc; omega
theorem zwXa {T:TypeId} {x:Operand} {lo hi:Option Operand} (hE:EnvTy P env) (ho:o.op = .slice T x lo hi none) (hS:SR e F w st V fp none') (hA:AR env gh a V) (hN:Nxt env gh e K res next) (h:(evOp env o).run C st K=some res):wpp P o a w next:=by
 simp only[evOp,ho]at h;obtain ⟨sv,h,hx⟩:=zmfa h;obtain ⟨t,m,y,src,h1,hd,_⟩:=zFMa hS hA hx h;obtain ⟨hv,hm,fq,hrep,_⟩:=hd.rep hS;cases t with
 |str =>
  dsimp only at h1;split at h1
  ·rename_i hT;obtain ⟨l,h2,b1⟩:=zgKa hS hA h1;obtain ⟨hh,h3,b2⟩:=zgKa hS hA h2;simp only[RM.run]at h3;cases hb:inR l hh (List.length y) with
   |false=>rw[hb]at h3; cases h3
   |true =>
    rw[hb]at h3;have hb':=zXXa hb;have e1:=(zxHa hv hm hrep).1;have hln:=(zxHa hv hm hrep).2;have hsz:=zCKa y;refine endVp (v := .string ⟨(rng (y:List UInt8) l hh).toArray⟩) hS hA hN h3 (fun _=>rfl) (zTYa (by rw[zJKa hb']; omega)) (fun _ hb=>hb) ?_;have hbs:=fun w=>zIKa (P:=P) (w:=w) (b:=false) (cap:=List.length (y:List UInt8)) b1 b2 hb' (Nat.le_refl _)
    have hex:=zlWa y l hh;have hu:=zgPa (Env.is_ok hE hT);intro w;simp only[execOp,ho,e1,Option.map_none,Instr.sliceAt,Instr.slice,Sem.run_bind,run_underlying hu,Result.andThen_ok,hsz,hbs,Sem.run_pure,hex,Option.isSome_none,Bool.false_eq_true,if_false]
  ·simp[RM.run]at h1
 |sl et u =>
  dsimp only at h1;split at h1
  ·rename_i hT;obtain ⟨l,h2,b1⟩:=zgKa hS hA h1;obtain ⟨hh,h3,b2⟩:=zgKa hS hA h2;simp only[RM.run]at h3;cases hb:inR l hh (List.length y) with
   |false=>rw[hb]at h3; cases h3
   |true =>
    rw[hb]at h3;have hb':=zXXa hb;have key:∀ {F:Blks} {st:St} {fp:Nat→Blks},SR e F w st V fp none'→rep F w (.sl et u) .s y (cv (a.eval x)) none'→(fin env o (.v (.sl et u) .s (rng y l hh))).run C st K=some res→wpp P o a w next:=by
     intro F st fp hS hrep h3;obtain ⟨g1,g2⟩:=wt_sl (Env.is_ok hE hT);have hval:a.eval x=cv (a.eval x) 0:=by
      have h2:a.eval x=valOf (.sl et u) (cv (a.eval x)):=hv;simpa only[valOf,Ty.agg,Bool.false_eq_true,if_false] using h2
     simp only[rep]at hrep;obtain ⟨A,cap,q1,q2,q3,q4,q5⟩:=hrep;have hbs:=fun w=>zIKa (P:=P) (w:=w) (b:=true) (cap:=cap) b1 b2 hb' q2
     have hrun:∀w,(execOp a.eval o).run P w = .ok (.value (.slice (if cap=l.toNat then A else A.map (·.add (l.toNat * u.size))) (hh.toNat-l.toNat) (cap-l.toNat))) w:=by
      intro w;simp only[execOp,ho,hval.trans q1,Option.map_none,Instr.sliceAt,Instr.slice,Sem.run_bind,run_underlying g1,Result.andThen_ok,hbs,Sem.run_pure,zNga g2]
     have hlen:=zJKa (l:=(y:List u.I)) hb';refine endVp (fq:=none') hS hA hN h3 (fun _=>?_) ?_ (fun _ hb=>hb) hrun
     ·simp only[isV,valOf,Ty.agg,Bool.false_eq_true,if_false]; rfl
     ·simp only[rep];refine ⟨(if cap=l.toNat then A else A.map (·.add (l.toNat * u.size))),cap-l.toNat,?_,?_,?_,?_,fun A' hA'=>?_⟩
      ·rw[hlen]; rfl
      ·rw[hlen]; omega
      ·omega
      ·intro hA';cases A with
       |none=>have:=q4 rfl; omega
       |some A =>
        split at hA'
        ·cases hA'
        ·simp at hA'
      ·cases A with
       |none=>split at hA'<;>simp at hA'
       |some A =>
        obtain ⟨hsp,q6,q7⟩:=q5 A rfl;by_cases hcz:cap=0
        ·have hcl:cap=l.toNat:=by omega
         rw[if_pos hcl]at hA';cases hA';have h0:hh.toNat-l.toNat=0:=by omega
         refine ⟨fun hc=>by omega,.inl (by rw[hlen,h0,Nat.zero_mul]),fun i hi=>?_⟩;rw[hlen]at hi; omega
        replace hsp:=hsp (by omega)
        obtain ⟨b,k,sp⟩:=A;simp only at hsp;subst hsp;by_cases hcl:cap=l.toNat
        ·rw[if_pos hcl]at hA';cases hA';have h0:hh.toNat-l.toNat=0:=by omega
         refine ⟨fun _=>rfl,.inl (by rw[hlen,h0,Nat.zero_mul]),fun i hi=>?_⟩;rw[hlen]at hi; omega
        ·rw[if_neg hcl]at hA';simp only[Option.map_some,Option.some.injEq,zSfa]at hA';subst hA';refine ⟨fun _=>rfl,?_,fun i hi=>?_⟩
         ·rcases q6 with q6|⟨q6,q8⟩
          ·left
           rcases Nat.mul_eq_zero.1 q6 with q6|q6
           ·rw[hlen];have:hh.toNat-l.toNat=0:=by omega
            rw[this,Nat.zero_mul]
           ·rw[q6,Nat.mul_zero]
          ·right
           refine ⟨q6,?_⟩;obtain ⟨cs,el,fz,p1,p2,p3⟩:=q8;refine ⟨cs,el,fz,p1,?_,p3⟩;simp only at p2 ⊢;rw[hlen];have:(l.toNat+(hh.toNat-l.toNat))*u.size≤List.length (y:List u.I)*u.size:=Nat.mul_le_mul_right _ (by omega);rw[Nat.add_mul]at this;omega
         ·rw[hlen]at hi;rw[zYTa hb' hi];have:=q7 (l.toNat+i) (by omega);simp only at this ⊢
          rwa [Nat.add_mul,←Nat.add_assoc]at this
    simp only[cond_true]at h3;split at h3
    ·exact key hS (rep_s hrep) h3
    ·split at h3
     ·rename_i hnj;have hfr:(zDra src (fin env o (.v (.sl et u) .s (rng (y:List u.I) l hh)))).run C st K=some res→wpp P o a w next:=by
       intro h3;cases src with
       |none =>
        have hr:=hd.2.2;exact key hS (zxta (fun _ hb=>hb) hr hnj (fun _ hb=>hb.elim)) h3
       |some rp =>
        obtain ⟨st1,fp1,F1,h4,hS1,hF1,hv1,hrep1⟩:=zbua hS hd.at nofun h3;exact key hS1 hrep1 h4
      unfold cutS at h3;split at h3
      ·split at h3
       ·rename_i r p;obtain ⟨g1,g2⟩:=wt_sl (Env.is_ok hE hT);have hval:a.eval x=cv (a.eval x) 0:=by
         have h2:a.eval x=valOf (.sl et u) (cv (a.eval x)):=hv;simpa only[valOf,Ty.agg,Bool.false_eq_true,if_false] using h2
        have hA1:∃A cap,cv (a.eval x) 0 = .slice A (List.length (y:List u.I)) cap∧List.length (y:List u.I)≤cap:=by
         cases m<;>simp only[rep]at hrep<;>first|exact absurd rfl hm|(obtain ⟨A,cap,q1,q2,_⟩:=hrep; exact ⟨A,cap,q1,q2⟩)
        obtain ⟨A,cap,q1,q2⟩:=hA1;have hbs:=fun w=>zIKa (P:=P) (w:=w) (b:=true) (cap:=cap) b1 b2 hb' q2
        refine endOp (fq:=none') (v:=zqTa A cap l.toNat hh.toNat u.size) hS hA hN rfl h3 ?_ (fun _ hb=>hb) ?_
        ·obtain ⟨_,t0,m0,x0,d1,d2,d3,d4,c',ad,d5,d6⟩:=hd;intro t1 m1 x1 h2;rw[d1]at h2;cases h2;refine ⟨d3,d4,_,c',ad,d5,et,u,A,List.length (y:List u.I),cap,rfl,?_,hb'.1,hb'.2.1,hb'.2.2,rfl⟩;have:a.eval x=c' 0:=by rw[d6]; simp only[valOf,Ty.agg,Bool.false_eq_true,if_false]
         rw[←this,hval];exact q1
        ·intro w;simp only[execOp,ho,hval.trans q1,Option.map_none,Instr.sliceAt,Instr.slice,Sem.run_bind,run_underlying g1,Result.andThen_ok,hbs,Sem.run_pure,zNga g2,zqTa]
       ·exact hfr h3
      ·exact hfr h3
     ·simp[RM.run]at h3
  ·simp[RM.run]at h1
 |_=>simp[RM.run]at h1
theorem zh0a (l:List Int) (s:ByteArray):l.foldl (fun r n=>r.push (UInt8.ofNat n.toNat)) s=⟨(s.data.toList++u8s l).toArray⟩:=by
 induction l generalizing s with
 |nil=>simp[u8s]
 |cons n l ih =>
  simp only[List.foldl_cons];rw[ih];simp[u8s,ByteArray.push]
theorem zFOa {S T:TypeId} {kd k:IntKind} {n:Int} {d:TypeDesc} (h1:P.underlying S=some d) (h2:P.underlying T=some (.int k)):(convert S T (.int kd n)).run P w = .ok (.int k (k.wrap n)) w:=by
 simp only[convert,Sem.run_bind,run_underlying h1,run_underlying h2,Result.andThen_ok,Conv.intToInt];cases d<;>rfl
theorem zWWa {b k:Nat} {y:List Int} {m:Md} {fs:Nat→Blks} (h:zTga w b (k+y.length) false) (hm:m ≠ .j) (hr:∀i,i<y.length→rep F w (.int .u8) m (y.getD i (0:Int)) (rowW w b (k+i)) (fs i)) :
  (loadCells ⟨b,k,none⟩ y.length).run P w = .ok (y.map (Value.int .u8)).toArray w:=by
 rw[run_loadCells w ⟨b,k,none⟩ y.length (fun j=>rowW w b 0 (k+j)) (fun j hj=>by rw[zSfa,zZla h (by omega)])]
 congr 2
 refine List.ext_getElem (by simp) fun i h1 h2=>?_
 simp only[List.length_map]at h2;have h3:=hr i h2;have:rowW w b (k+i) 0 = .int .u8 (y.getD i (0:Int)):=by cases m<;>simp only[rep]at h3<;>first|exact h3.1|exact absurd rfl hm
 rw[zWba,Nat.add_zero]at this;simp[this,List.getD,h2]
end
end Go.Trm
namespace Go.Trm
section
variable {P:Program} {env:Env} {e:Entry} {F:Blks} {w:World} {st:St} {V:Nat→Value} {fp:Nat→Blks} {fl:Blks} {a:Act} {o:Oper} {R:Type} {K:Unit→St→Option R} {res:R} {C:Cx R} {gh:Nat→Value} {next:Act→World→Prop} {Q:Exit→Act→World→Prop}
theorem SR.push {w':World} {b:Nat} (hS:SR e F w st V fp fl) (hw:∀b,b<w.heap.size→w'.heap[b]?=w.heap[b]?) (hz:w'.heap.size=w.heap.size+1) (hb:b=w.heap.size) (hst:Still w w'):SR e F w' st V fp (fun b'=>fl b'∨b'=b):=by
 subst hb;exact hS.world (fun b hb _=>hw b hb) ⟨hst,by omega⟩ (fun b hb=>by
  rcases hb with hb|hb
  ·exact ⟨.inl hb,by have:=hS.flH b hb; omega⟩
  ·exact ⟨.inr (by omega),by omega⟩)
theorem zPda {w:World} {ob:Obj} {b:Nat} (h:b<w.heap.size):(w.alloc ob).heap[b]?=w.heap[b]?:=by
 simp only[World.alloc,Array.getElem?_push];rw[if_neg (by omega)]
theorem zYoa {w:World} {ob:Obj}:(w.alloc ob).heap[w.heap.size]?=some ob:=by
 simp only[World.alloc]; exact Array.getElem?_push_size
theorem zTTa {et:TypeId} {u:Ty} {v:Value} (hv:isV (.sl et u) v):v=cv v 0:=by
 have h2:v=valOf (.sl et u) (cv v):=hv;simpa only[valOf,Ty.agg,Bool.false_eq_true,if_false] using h2
theorem zLZa {et:TypeId} {u:Ty} {v:Value} (hv:isV (.ptr et u) v):v=cv v 0:=by
 have h2:v=valOf (.ptr et u) (cv v):=hv;simpa only[valOf,Ty.agg,Bool.false_eq_true,if_false] using h2
theorem zbQa {et:TypeId} {u:Ty} {A:Option Addr} {n c:Nat}:isV (.sl et u) (.slice A n c):=by
 simp only[isV,valOf,Ty.agg,Bool.false_eq_true,if_false]; rfl
theorem zVZa {et:TypeId} {u:Ty} {A:Option Addr}:isV (.ptr et u) (.pointer A):=by
 simp only[isV,valOf,Ty.agg,Bool.false_eq_true,if_false]; rfl
theorem zyTa (s:ByteArray) (cap:Nat) (h:s.size≤cap):(bytesRow s cap).size=cap:=by
 simp only[bytesRow,Array.size_append,Array.size_map,Array.size_replicate];have:s.data.size=s.size:=rfl;omega
theorem zxVa (y:List UInt8) (cap i:Nat) (h:i<y.length):(bytesRow ⟨y.toArray⟩ cap).getD i undef = .int .u8 ((nums y).getD i (0:Int)):=by
 simp only[bytesRow,Array.getD_eq_getD_getElem?];rw[Array.getElem?_append_left (by simpa using h)];simp[nums,List.getD,h]
theorem zeXa (l:List Int):(u8s l).length=l.length:=by simp[u8s]
theorem zY1a {et:TypeId} {v:Value} {m:Md} {y:List Int} {fq:Blks} (hv:isV (.sl et (.int .u8)) v) (hj:m.noJ=true) (hrep:rep F w (.sl et (.int .u8)) m y (cv v) fq):(Conv.bytesToString v).run P w = .ok (.string ⟨(u8s y).toArray⟩) w:=by
 have hm:m ≠ .j:=by rintro rfl; cases hj
 obtain ⟨A,cap,q0,q1,q2⟩:=zpXa hv hm hrep;have q0':v = .slice A y.length cap:=q0;have q1':y.length≤cap:=q1;have hcv:cv v 0 = .slice A y.length cap:=by rw[←zTTa hv]; exact q0
 rw[q0'];have hnone:A=none→(cap=0)→(Conv.bytesToString (.slice A y.length cap)).run P w = .ok (.string ⟨(u8s y).toArray⟩) w:=by
  rintro rfl rfl
  have:y=[]:=List.eq_nil_of_length_eq_zero (by omega);subst this;rfl
 have hsome:∀(b k:Nat) m,m ≠ .j→A=some ⟨b,k,none⟩→zTga w b (k+y.length) false→(∃fs:Nat→Blks,∀i,i<y.length→rep F w (.int .u8) m (y.getD i (0:Int)) (rowW w b (k+i)) (fs i)) →
   (Conv.bytesToString (.slice A y.length cap)).run P w = .ok (.string ⟨(u8s y).toArray⟩) w:=by
  rintro b k m hm rfl hh ⟨fs,hr⟩
  refine (run_bytesToString w _ _ cap y (zWWa hh hm hr)).trans ?_;rw[zh0a];rfl
 cases m with
 |j=>exact absurd rfl hm
 |p _ _ =>
  simp only[rep]at hrep;obtain ⟨A',cap',p1,p2,p3,p4,p5⟩:=hrep;rw[hcv]at p1; cases p1;cases A with
  |none=>exact hnone rfl (p4 rfl)
  |some A=>exact (p5 A rfl).2.elim
 |s =>
  simp only[rep]at hrep;obtain ⟨A',cap',p1,p2,p3,p4,p5⟩:=hrep;rw[hcv]at p1; cases p1;cases A with
  |none=>exact hnone rfl (p4 rfl)
  |some A =>
   obtain ⟨hsp,p6,p7⟩:=p5 A rfl;by_cases hc0:cap=0
   ·have:y=[]:=List.eq_nil_of_length_eq_zero (by omega);subst this;exact run_bytesToString (P:=P) w A 0 cap [] (run_loadCells w A 0 (fun _=>undef) (fun j hj=>by omega))
   replace hsp:=hsp (by omega)
   obtain ⟨b,k,sp⟩:=A;simp only at hsp;subst hsp;simp only[Ty.size,Nat.mul_one]at p6 p7;rcases p6 with p6|⟨_,p6⟩
   ·have:y=[]:=List.eq_nil_of_length_eq_zero p6;subst this;exact run_bytesToString (P:=P) w ⟨b,k,none⟩ 0 cap [] (run_loadCells w ⟨b,k,none⟩ 0 (fun _=>undef) (fun j hj=>by omega))
   ·exact hsome b k .s nofun rfl p6 ⟨fun _=>none',fun i hi=>p7 i hi⟩
 |o m' =>
  simp only[rep]at hrep;obtain ⟨A',cap',p1,p2,p3,p4,p5⟩:=hrep;rw[hcv]at p1; cases p1;cases A with
  |none=>exact hnone rfl (p4 rfl)
  |some A =>
   obtain ⟨hsp,p6,p7,fs,p8,p9,p10⟩:=p5 A rfl;by_cases hc0:cap=0
   ·have:y=[]:=List.eq_nil_of_length_eq_zero (by omega);subst this;exact run_bytesToString (P:=P) w A 0 cap [] (run_loadCells w A 0 (fun _=>undef) (fun j hj=>by omega))
   replace hsp:=hsp (by omega)
   obtain ⟨b,k,sp⟩:=A;simp only at hsp;subst hsp;simp only[Ty.size,Nat.mul_one]at p7 p10;have hl:zTga w b (k+y.length) false:=by
    obtain ⟨cs,el,fz,z1,z2,_⟩:=p7;exact ⟨cs,el,fz,z1,by have z3:k+cap≤cs.size:=z2; omega,nofun⟩
   have hm':m' ≠ .j:=by rintro rfl; cases hj
   exact hsome b k m' hm' rfl hl ⟨fs,p10⟩
theorem zX1a {S T et:TypeId} (y:List UInt8) (hs:P.underlying S=some .string) (hd:P.underlying T=some (.slice et)) (he:P.underlying et=some (.int .u8)) :
  (convert S T (.string ⟨y.toArray⟩)).run P w = .ok (.slice (some ⟨w.heap.size,0,none⟩) y.length (grownCap w y.length 0 et))
   (w.drew.alloc (.cells (bytesRow ⟨y.toArray⟩ (grownCap w y.length 0 et)) et ((bytesRow ⟨y.toArray⟩ (grownCap w y.length 0 et)).size,(bytesRow ⟨y.toArray⟩ (grownCap w y.length 0 et)).size+1))):=by
 have hr:=run_bytes_of_string (P:=P) w S T et ⟨y.toArray⟩ hs hd he
 rwa [zCKa]at hr
theorem zJYa {et:TypeId} {y:List UInt8} {gc:Nat} {w':World} {N:Nat} (hcap:y.length≤gc) (hmx:gc≤2 ^ 63-1) (hnew:w'.heap[N]?=some (.cells (bytesRow ⟨y.toArray⟩ gc) et ((bytesRow ⟨y.toArray⟩ gc).size,(bytesRow ⟨y.toArray⟩ gc).size+1))) :
  rep F w' (.sl et (.int .u8)) (.o .s) (nums y) (cv (.slice (some ⟨N,0,none⟩) y.length gc)) (fun b=>b=N):=by
 have hnl:(nums y).length=y.length:=by simp[nums]
 have hrow:=zyTa ⟨y.toArray⟩ gc (by rw[zCKa]; exact hcap);simp only[rep];refine ⟨some ⟨N,0,none⟩,gc,?_,?_,hmx,nofun,fun A' hA'=>?_⟩
 ·show Value.slice _ _ _=Value.slice _ (nums y).length _;rw[hnl]
 ·show (nums y).length≤gc;rw[hnl]; exact hcap
 ·cases hA';refine ⟨fun _=>rfl,rfl,⟨_,_,_,hnew,?_,?_⟩,fun _=>none',⟨fun _ _ _ _ hb=>hb.elim⟩,fun _ _ hb=>hb.elim,fun i hi=>?_⟩
  ·rw[hrow]; simp[Ty.size]
  ·exact fun _ => .inr (Nat.le_refl _)
  ·have hi':i<(nums y).length:=hi;rw[hnl]at hi';have hb:=zxVa y gc i hi';have e2:rowW w' N (0+i*Ty.size (.int .u8)) 0=(bytesRow ⟨y.toArray⟩ gc).getD i undef:=by
    simp only[rowW,hnew,rowOf,Ty.size,Nat.mul_one,Nat.zero_add,Nat.add_zero]
   refine ⟨e2.trans hb,?_⟩;have:((nums y).getD i (0:Int))=((y.getD i 0).toNat:Int):=by simp[nums,List.getD,hi']
   have h4:((y.getD i (0:UInt8)).toNat)<256:=UInt8.toNat_lt _;have e3:IntKind.u8.min=0:=by decide
   have e4:IntKind.u8.max=255:=by decide
   show IntKind.u8.has ((nums y).getD i (0:Int));rw[this];constructor
   ·rw[e3]; omega
   ·rw[e4]; omega
theorem zJ0a (hE:EnvTy P env) (hp:zVXa env o.op=true) (hS:SR e F w st V fp none') (hA:AR env gh a V) (hN:Nxt env gh e K res next) (h:(evOp env o).run C st K=some res):wpp P o a w next:=by
 unfold zVXa at hp;split at hp
 ·rename_i S T x ho;simp only[evOp,ho]at h;split at hp
  ·rename_i k hd;rw[hd]at h;cases hs:env.ty S with
   |none=>rw[hs]at h; simp[RM.run]at h
   |some ts =>
    rw[hs]at h;simp only at h;obtain ⟨kd,n,h1,e1,r1⟩:=zkma hS hA h;obtain ⟨d,hu⟩:=zI1a (hE.ty _ _ hs);refine endVp (v := .int k (k.wrap n)) hS hA hN h1 (fun _=>rfl) (zora (zHla _ _)) (fun _ hb=>hb) fun w'=>?_
    simp only[execOp,ho,Sem.run_bind];rw[e1,zFOa hu (zrRa (hE.ty _ _ hd))];rfl
  ·cases hp
 ·cases hp
theorem zRWa {w:World} {b n:Nat} {cs:Array Value} {el:TypeId} {fz:Nat×Nat} (h:w.heap[b]?=some (.cells cs el fz)) :
  (w.freeze ⟨b,n,none⟩ 1).heap[b]?=some (.cells cs el (if fz.1==fz.2 then (n,n+1) else (min fz.1 n,max fz.2 (n+1))))∧(∀b',b'≠b→(w.freeze ⟨b,n,none⟩ 1).heap[b']?=w.heap[b']?)∧(w.freeze ⟨b,n,none⟩ 1).heap.size=w.heap.size:=by
 obtain ⟨lo,hi⟩:=fz;unfold World.freeze;rw[if_neg (by decide)];have hb:=(Array.getElem?_eq_some_iff.1 h).1;refine ⟨?_,fun b' hb'=>?_,?_⟩
 ·simp only[Array.getElem?_modify,h,if_true,Option.map_some]
 ·simp only[Array.getElem?_modify,if_neg (Ne.symm hb')]
 ·simp
theorem zf2a {S et:TypeId} {y:List Int} {val:Value} {fq:Blks} (g1:P.underlying S=some (.slice et)) (g2:P.underlying et=some (.int .u8)) (hS:SR e F w st V fp fl) (hv:isV (.sl et (.int .u8)) val) (hr:rep F w (.sl et (.int .u8)) (.o .s) y (cv val) fq) (h0:0<y.length) (hq:∀b,fq b→fl b) :
  ∃w',(convert S S val).run P w = .ok val w'∧SR e F w' st V fp fl∧rep F w' (.sl et (.int .u8)) (.o .s) y (cv val) fq:=by
 have hval:=zTTa hv;have hr0:=hr;simp only[rep]at hr;obtain ⟨A,cap,q1,q2,q3,q4,q5⟩:=hr;have q2':y.length≤cap:=q2;cases A with
 |none=>have:=q4 rfl; omega
 |some A =>
  obtain ⟨hsp,p1,p2,fs,d1,s1,r1⟩:=q5 A rfl
  replace hsp:=hsp (by omega)
  obtain ⟨b,k,sp⟩:=A;simp only at hsp;subst hsp;simp only at p1 p2 s1 r1;obtain ⟨cs,el,fz,c1,c2,c3⟩:=p2;obtain ⟨k1,k2,k3⟩:=zRWa (n:=cs.size) c1;have hsh:w.shape? b=some (el,cs.size):=by unfold World.shape?; rw[c1]
  refine ⟨w.freeze ⟨b,cs.size,none⟩ 1,?_,hS.world (fun b' _ hb'=>k2 b' (fun hc=>hb' (hc ▸ hq b p1))) ⟨⟨rfl,rfl,rfl⟩,Nat.le_of_eq k3.symm⟩ (fun b' hb'=>⟨.inl hb',by rw[k3]; exact hS.flH b' hb'⟩),?_⟩
  ·rw[hval.trans q1];simp[convert,run_underlying g1,run_underlying g2,markStringish,hsh]
  ·simp only[rep];refine ⟨some ⟨b,k,none⟩,cap,q1,q2,q3,nofun,fun A hA=>?_⟩;cases hA;refine ⟨fun _=>rfl,p1,⟨cs,el,_,k1,c2,fun h=>?_⟩,fs,d1,s1,fun i hi=>?_⟩
   ·have c4:=c3 h;split
    ·exact .inr (Nat.le_refl _)
    ·rename_i hne;rcases c4 with c4|c4
     ·simp[c4]at hne
     ·exact .inr (by simp only; omega)
   ·have h1:=r1 i hi;have e1:rowW (w.freeze ⟨b,cs.size,none⟩ 1) b (k+i*Ty.size (.int .u8))=rowW w b (k+i*Ty.size (.int .u8)):=by
     funext j
     simp only[rowW,k1,c1]
    rw[e1];exact h1
theorem zcKa (n:Int):(runeB n).length≤4:=by
 unfold runeB Utf8.encode;dsimp only;generalize (if Utf8.valid n=true then n.toNat else Utf8.runeError)=c;by_cases h1:c<128
 ·rw[if_pos h1]; exact Nat.le_of_ble_eq_true rfl
 ·rw[if_neg h1];by_cases h2:c<2048
  ·rw[if_pos h2]; exact Nat.le_of_ble_eq_true rfl
  ·rw[if_neg h2];by_cases h3:c<65536
   ·rw[if_pos h3]; exact Nat.le_of_ble_eq_true rfl
   ·rw[if_neg h3]; exact Nat.le_of_ble_eq_true rfl
theorem zzXa {S T:TypeId} {x:Operand} (hE:EnvTy P env) (ho:o.op = .convert S T x) (hS:SR e F w st V fp none') (hA:AR env gh a V) (hN:Nxt env gh e K res next) (h:(evOp env o).run C st K=some res):o.wp P a w next Q:=by
 simp only[evOp,ho]at h;have hrun:∀ {v:Value} {w':World},(convert S T (a.eval x)).run P w = .ok v w'→(execOp a.eval o).run P w = .ok (.value v) w':=by
  intro v w' hc;simp only[execOp,ho,Sem.run_bind,hc,Result.andThen_ok,Sem.run_pure]
 split at h
 ·rename_i ts k hs hd;obtain ⟨kd,n,h1,e1,r1⟩:=zkma hS hA h;obtain ⟨d,hu⟩:=zI1a (hE.ty _ _ hs);refine endV (v := .int k (k.wrap n)) hS hA hN h1 (fun _=>rfl) (zora (zHla _ _)) (fun _ hb=>hb) (hrun ?_);rw[e1];exact zFOa hu (zrRa (hE.ty _ _ hd))
 ·rename_i ts hs hd;obtain ⟨t,m,y,src,h1,hda,_⟩:=zhja hS hA h;obtain ⟨hv,hm,fq,hrep,_⟩:=hda.rep hS;split at h1
  ·rename_i et y hT;simp only[Bool.and_eq_true]at hT;obtain ⟨g1,g2⟩:=wt_sl (Env.is_ok hE hT.1);have g3:=zrRa g2;have hd':=zgPa (hE.ty _ _ hd);refine endV (v := .string ⟨(u8s y).toArray⟩) hS hA hN h1 (fun _=>rfl) (zTYa ?_) (fun _ hb=>hb) (hrun ?_)
   ·obtain ⟨A,cap,q0,q1,q2⟩:=zpXa hv hm hrep;exact Nat.le_trans (Nat.le_of_eq (zeXa y)) (Nat.le_trans q1 q2)
   have hc:∀ {x:Value} {A:Option Addr} {n c:Nat},x = .slice A n c→(convert S T x).run P w=(Conv.bytesToString x).run P w:=by
    rintro x A n c rfl
    simp only[convert,Sem.run_bind,run_underlying g1,run_underlying hd',run_underlying g3,Result.andThen_ok]
   obtain ⟨A,cap,q0,q1,q2⟩:=zpXa hv hm hrep;rw[hc q0];exact zY1a hv hT.2 hrep
  ·rename_i kk y hT;simp only[Bool.and_eq_true]at hT;have g3:=zrRa (Env.is_ok hE hT.1);have hd':=zgPa (hE.ty _ _ hd);have e1:=(zMRa hv hm hrep).1;refine endV (v := .string ⟨(runeB y).toArray⟩) hS hA hN h1 (fun _=>rfl) (zTYa ?_) (fun _ hb=>hb) (hrun ?_)
   ·exact Nat.le_trans (zcKa y) (by omega)
   ·rw[e1];simp only[convert,Sem.run_bind,run_underlying g3,run_underlying hd',Result.andThen_ok];rfl
  ·simp[RM.run]at h1
 ·rename_i ts et hs hd;obtain ⟨t,m,y,src,h1,hda,_⟩:=zhja hS hA h;obtain ⟨hv,hm,fq,hrep,_⟩:=hda.rep hS;split at h1
  ·rename_i y hT;have e1:=(zxHa hv hm hrep).1;simp only[RM.run]at h1;cases hq:decide (List.length y≤most) with
   |false=>rw[hq]at h1; cases h1
   |true =>
    rw[hq]at h1;have hq':=of_decide_eq_true hq;obtain ⟨g1,g2⟩:=wt_sl (hE.ty _ _ hd);have hr:=zX1a (P:=P) (w:=w) y (zgPa (Env.is_ok hE hT)) g1 (zrRa g2);have hmx':List.length (α:=UInt8) y≤maxLen:=by unfold maxLen; unfold most at hq'; have:List.length (α:=UInt8) y≤4294967296:=hq'; omega
    have hcap:=grownCap_ge w (List.length (α:=UInt8) y) 0 et;have hmx:=grownCap_le_maxLen w (List.length (α:=UInt8) y) 0 et hmx';have hnew:=zYoa (w:=w.drew) (ob := .cells (bytesRow ⟨List.toArray (α:=UInt8) y⟩ (grownCap w (List.length (α:=UInt8) y) 0 et)) et ((bytesRow ⟨List.toArray (α:=UInt8) y⟩ (grownCap w (List.length (α:=UInt8) y) 0 et)).size,(bytesRow ⟨List.toArray (α:=UInt8) y⟩ (grownCap w (List.length (α:=UInt8) y) 0 et)).size+1));refine endV (fq:=fun b=>b=w.heap.size) (hS.push (w':=w.drew.alloc _) (fun b hb=>zPda (w:=w.drew) hb) (World.size_alloc w.drew _) rfl ⟨rfl,rfl,rfl⟩) hA hN h1 (fun _=>zbQa) (zJYa hcap hmx hnew) (fun _ hb => .inr hb) (hrun (by rw[e1]; exact hr))
  ·rename_i e' y hT;split at h1
   ·rename_i hST;have hST':=Nat.eq_of_beq_eq_true hST;subst hST';obtain ⟨st1,fp1,fq1,h2,hS1,hv1,_,hr1,_⟩:=zAsa hS hda h1;simp only[RM.run]at h2;cases hb:Nat.blt 0 (List.length (α:=(Ty.int .u8).I) y) with
    |false=>rw[hb]at h2; cases h2
    |true =>
     rw[hb]at h2;have hb':0<List.length (α:=Int) y:=Nat.le_of_ble_eq_true hb;obtain ⟨g1,g2⟩:=wt_sl (Env.is_ok hE hT);obtain ⟨w',hr,hS2,hr2⟩:=zf2a g1 (zrRa g2) hS1 hv1 hr1 hb' (fun b hb => .inr hb);exact endV hS2 hA hN h2 (fun _=>hv1) hr2 (fun b hb => .inr hb) (hrun hr)
   ·simp[RM.run]at h1
  ·simp[RM.run]at h1
 ·simp[RM.run]at h
end
end Go.Trm
namespace Go.Trm
theorem ziYa {α:Type} (l:List α) (d:α):∀(n i j:Nat),i<n→j<l.length→(List.replicate n l).flatten.getD (i*l.length+j) d=l.getD j d:=by
 intro n
 induction n with
 |zero=>intro i j h; omega
 |succ n ih =>
  intro i j h hj;simp only[List.replicate_succ,List.flatten_cons,List.getD_eq_getElem?_getD];cases i with
  |zero=>rw[Nat.zero_mul,Nat.zero_add,List.getElem?_append_left hj]
  |succ i =>
   rw[Nat.add_mul,Nat.one_mul,List.getElem?_append_right (by omega)];have:=ih i j (by omega) hj;simp only[List.getD_eq_getElem?_getD]at this;rw[←this]
   congr 2
   omega
theorem zb1a (k:IntKind):k.has 0:=by
 cases k<;>exact ⟨by decide,by decide⟩
theorem zuPa {F:Blks} {w:World}:∀ {t:Ty} {m:Md} {c:Cells} {fq:Blks},(∀j,j<t.size→c j=(zwea t).getD j undef)→rep F w t m t.dflt c fq:=by
 intro t
 induction t with
 |int k=>intro m c fq h; have:=h 0 (by simp[Ty.size]); cases m<;>simp only[rep]<;>exact ⟨this,zb1a k⟩
 |bool=>intro m c fq h; have:=h 0 (by simp[Ty.size]); cases m<;>simp only[rep]<;>exact this
 |err=>intro m c fq h; have:=h 0 (by simp[Ty.size]); cases m<;>simp only[rep]<;>exact this
 |str=>intro m c fq h; have:=h 0 (by simp[Ty.size]); cases m<;>simp only[rep]<;>exact ⟨this,by decide⟩
 |sl e t ih =>
  intro m c fq h;have:=h 0 (by simp[Ty.size]);cases m<;>simp only[rep]<;>exact ⟨none,0,this,Nat.le_refl _,by decide,fun _=>rfl,nofun⟩
 |ptr e t ih =>
  intro m c fq h;have:=h 0 (by simp[Ty.size]);cases m<;>simp only[rep]<;>exact ⟨none,this,rfl⟩
 |unit=>intro m c fq h; cases m<;>simp only[rep]
 |pair a b iha ihb =>
  intro m c fq h;have ha:∀j,j<a.size→c j=(zwea a).getD j undef:=fun j hj=>by
   rw[h j (by simp only[Ty.size]; omega)];simp only[zwea,List.getD_eq_getElem?_getD];rw[List.getElem?_append_left (by rw[zeba]; exact hj)]
  have hb:∀j,j<b.size→c (a.size+j)=(zwea b).getD j undef:=fun j hj=>by
   rw[h _ (by simp only[Ty.size]; omega)];simp only[zwea,List.getD_eq_getElem?_getD];rw[List.getElem?_append_right (by rw[zeba]; omega),zeba,Nat.add_sub_cancel_left]
  have:∃fa fb:Blks,(∀i,fa i→fq i)∧(∀i,fb i→fq i)∧(∀i,fa i→¬fb i)∧rep F w a m.fst a.dflt c fa∧rep F w b m.snd b.dflt (fun j=>c (a.size+j)) fb :=
   ⟨none',none',fun _ h=>h.elim,fun _ h=>h.elim,fun _ h=>h.elim,iha ha,ihb hb⟩
  cases m with
  |j=>exact rep_j
  |_=>simpa only[rep,Ty.dflt] using this
 |arr n t ih =>
  intro m c fq h;have:(List.replicate n t.dflt).length=n∧∃fs:Nat→Blks,Disj fs∧(∀i b,fs i b→fq b)∧∀i,i<n→rep F w t m.el ((List.replicate n t.dflt).getD i t.dflt) (fun j=>c (i*t.size+j)) (fs i):=by
   refine ⟨by simp,fun _=>none',⟨fun _ _ _ _ h=>h.elim⟩,fun _ _ h=>h.elim,fun i hi=>?_⟩;have e1:(List.replicate n t.dflt).getD i t.dflt=t.dflt:=by simp[List.getD,hi]
   rw[e1];refine ih fun j hj=>?_
   rw[h _ (by
    simp only[Ty.size]
    calc i*t.size+j<i*t.size+t.size:=by omega
     _=(i+1)*t.size:=by rw[Nat.add_mul,Nat.one_mul]
     _≤n*t.size:=Nat.mul_le_mul_right _ hi)]
   simp only[zwea];rw[←zeba t];exact ziYa _ _ _ _ _ hi (by rw[zeba]; exact hj)
  cases m with
  |j=>exact rep_j
  |_=>simpa only[rep,Ty.dflt] using this
section
variable {P:Program} {env:Env} {e:Entry} {F:Blks} {w:World} {st:St} {V:Nat→Value} {fp:Nat→Blks} {fl:Blks} {a:Act} {o:Oper} {R:Type} {K:Unit→St→Option R} {res:R} {C:Cx R} {gh:Nat→Value} {next:Act→World→Prop} {Q:Exit→Act→World→Prop}
theorem zABa {w':World} {N:Nat} {cs:Array Value} {el:TypeId} {fz:Nat×Nat} (h:w'.heap[N]?=some (.cells cs el fz)) (o j:Nat):rowW w' N o j=cs.getD (o+j) undef:=by
 simp only[rowW,h,rowOf]
theorem zHKa (T:TypeId) (v:Value):(newVar T v).run P w = .ok ⟨w.heap.size,0,none⟩ (w.alloc (.cells v.cells T)):=rfl
theorem zK0a {T:TypeId} (hE:EnvTy P env) (ho:o.op = .alloc T) (hS:SR e F w st V fp none') (hA:AR env gh a V) (hN:Nxt env gh e K res next) (h:(evOp env o).run C st K=some res):o.wp P a w next Q:=by
 simp only[evOp,ho]at h;split at h
 ·rename_i t ht;obtain ⟨i,z,h1,h2,h3,h4,h5,h6⟩:=zzwa (hE.ty _ _ ht);have hrun:(execOp a.eval o).run P w = .ok (.value (.pointer (some ⟨w.heap.size,0,none⟩))) (w.alloc (.cells z.cells T)):=by
   simp only[execOp,ho,Instr.alloc,Sem.run_bind,zjXa (hE.ty _ _ ht),Result.andThen_ok,zHKa,Sem.run_pure];rw[←h5]
  have hnew:=zYoa (w:=w) (ob := .cells z.cells T);refine endV (fq:=fun b=>b=w.heap.size) (hS.push (fun b hb=>zPda hb) (World.size_alloc w _) rfl ⟨rfl,rfl,rfl⟩) hA hN h (fun _=>zVZa) ?_ (fun _ hb => .inr hb) hrun;simp only[rep];refine ⟨_,rfl,_,rfl,rfl,rfl,⟨_,_,_,hnew,?_,fun _ => .inl rfl⟩,none',fun _ hb=>hb.elim,zuPa fun j hj=>?_⟩
  ·rw[h6]; simp[zeba]
  ·rw[zABa hnew,Nat.zero_add,h6];simp[Array.getD_eq_getD_getElem?,List.getD]
 ·simp[RM.run]at h
theorem zAPa {t:Ty} {m:Md} {y:t.I} {v:Value} {fq:Blks} (hv:isV t v) (hm:m ≠ .j) (hrep:rep F w t m y (cv v) fq):v.cells.size=t.size:=by
 refine zRTa hv fun ha=>?_
 have:=zJwa hrep hm ha;have hv':v=valOf t (cv v):=hv;rw[hv'];simp only[valOf,ha,Bool.false_eq_true,if_false];exact this
theorem zS2a {r:Nat} {T:TypeId} {t:Ty} {m:Md} {y:t.I} {v:Value} (hS:SR e F w st V fp fl) (hst:st r = .v (.ptr T t) (.o m) (some y)) (ha:AlOk w st V r [.der] v):v=V r:=by
 obtain ⟨_,_,_,u,c',b,o,h1,h2⟩:=ha _ _ _ hst;have h3:=zzYa hS hst;obtain ⟨_,_,_,u',c'',b',o',h4,h5⟩:=h3 _ _ _ hst;rw[h1]at h4;cases h4;rw[h2,h5]
theorem zi2a {T:TypeId} {x:Operand} {r:Nat} (hE:EnvTy P env) (ho:o.op = .box T x) (ha:AlOk w st V r [.der] (a.eval x)) (hS:SR e F w st V fp none') (hA:AR env gh a V) (hN:Nxt env gh e K res next) (h:(boxAl env o T r).run C st K=some res):o.wp P a w next Q:=by
 unfold boxAl at h;split at h
 ·rename_i hT;simp only[Bool.and_eq_true]at hT;have hg:=Nat.le_of_ble_eq_true hT.1;obtain ⟨U,t,hw⟩:=zRXa hE hT.2;simp only[ownR,RM.run]at h;split at h
  ·rename_i T' t' m y hst;have hv:=zS2a hS hst ha;have hcell:(a.eval x).cells=#[a.eval x]:=by
    obtain ⟨_,_,_,u,c',b,o,h1,h2⟩:=ha _ _ _ hst;rw[h2]; rfl
   have hrun:(execOp a.eval o).run P w = .ok (.value (.pointer (some ⟨w.heap.size,0,none⟩))) (w.alloc (.cells (a.eval x).cells T)):=by
    simp only[execOp,ho,Instr.box,Sem.run_bind,Result.andThen_ok,zHKa,Sem.run_pure]
   have hnew:=zYoa (w:=w) (ob := .cells (a.eval x).cells T);have hS1:=hS.push (fun b hb=>zPda hb) (World.size_alloc w (.cells (a.eval x).cells T)) rfl ⟨rfl,rfl,rfl⟩;have hS2:=hS1.moreF (F':=fun b=>F b∨b=w.heap.size) (fl':=none') (fun b hb => .inl hb) (fun b hb=>hb.imp id (fun hb => .inr hb)) (fun _ hb=>hb.elim) (fun _ hb=>hb.elim);refine endO (fq:=none') hS2 hA hN rfl h ⟨hg,w.heap.size,0,rfl,.inr rfl,⟨_,_,_,hnew,?_,fun _ => .inl rfl⟩,?_⟩ (fun _ hb=>hb) hrun
   ·rw[hcell]; simp
   ·rw[zABa hnew,hcell,←hv]; rfl
  ·simp[RM.run]at h
 ·simp[RM.run]at h
theorem ze3a {T:TypeId} {x:Operand} (hE:EnvTy P env) (ho:o.op = .box T x) (hS:SR e F w st V fp none') (hA:AR env gh a V) (hN:Nxt env gh e K res next) (h:(evOp env o).run C st K=some res):o.wp P a w next Q:=by
 simp only[evOp,ho,rdT]at h;obtain ⟨sv,h,hx⟩:=zmfa h;split at h
 ·rename_i r;refine zi2a hE ho ?_ hS hA hN h;rcases hx with ⟨s,rfl,hs,h3⟩|⟨c,rfl,h3⟩|⟨f',rfl,h3⟩
  ·have hev:a.eval (.tmp s)=V (env.b+s):=hA.tmps s hs;have hsv:=hS.sv (env.b+s);rw[←h3]at hsv;rw[hev];exact hsv
  ·unfold cst at h3; (repeat' split at h3)<;>cases h3
  ·cases h3
 obtain ⟨t,m,y,src,h1,hd,_⟩:=zhja hS hA h;obtain ⟨st1,fp1,fq,h2,hS1,hv,hm,hrep,hfl,_⟩:=zAsa hS hd h1;split at h2
 ·rename_i hT;have hsz:=zAPa hv hm hrep;have hrun:(execOp a.eval o).run P w = .ok (.value (.pointer (some ⟨w.heap.size,0,none⟩))) (w.alloc (.cells (a.eval x).cells T)):=by
   simp only[execOp,ho,Instr.box,Sem.run_bind,Result.andThen_ok,zHKa,Sem.run_pure]
  have hnew:=zYoa (w:=w) (ob := .cells (a.eval x).cells T);refine endV (fq:=fun b=>b=w.heap.size∨fq b) (hS1.push (fun b hb=>zPda hb) (World.size_alloc w _) rfl ⟨rfl,rfl,rfl⟩) hA hN h2 (fun _=>zVZa) ?_ (fun _ hb=>by rcases hb with hb|hb; exact .inr hb; exact .inl (.inr hb)) hrun;simp only[rep];refine ⟨_,rfl,_,rfl,rfl,.inl rfl,⟨_,_,_,hnew,by simp[hsz],fun _ => .inl rfl⟩,fq,fun b hb=>⟨.inr hb,?_⟩,?_⟩
  ·intro hc;have:=hS1.flH b (.inr hb);exact absurd hc (Nat.ne_of_lt this)
  ·refine zEaa (fun j hj=>?_) (zxaa (fun _ hb=>hb) (fun b hb=>zPda (hS1.inF b hb)) (fun b hb=>zPda (hS1.flH b (.inr hb))) hrep);rw[zABa hnew,Nat.zero_add];rfl
 ·simp[RM.run]at h2
theorem zw2a {T U:TypeId} (y:List UInt8) (h:P.underlying T=some .string):(Builtin.len_ #[T] U #[.string ⟨y.toArray⟩]).run P w = .ok (goInt (y.length:Nat)) w:=by
 simp only[Builtin.len_,List.getElem?_toArray,List.getElem?_cons_zero,Sem.run_bind,run_underlying h,Result.andThen_ok,Sem.run_pure];rw[zCKa]
theorem zg2a {T:TypeId} {x:Operand} {c:Call} (hE:EnvTy P env) (ho:o.op = .call c) (hc:c.callee = .builtin .len) (h1:c.args.toList=[x]) (h2:c.argTypes.toList=[T]) (hS:SR e F w st V fp none') (hA:AR env gh a V) (hN:Nxt env gh e K res next)
  (h:(evB env o .len [x] [T]).run C st K=some res):wpp P o a w next:=by
 have e1:c.args=#[x]:=by apply Array.ext'; rw[h1]
 have e2:c.argTypes=#[T]:=by apply Array.ext'; rw[h2]
 have hrun:∀v,(∀w,(Builtin.len_ #[T] o.type #[a.eval x]).run P w = .ok v w)→∀w,(execOp a.eval o).run P w = .ok (.value v) w:=by
  intro v hv w;simp only[execOp,ho,resolve,hc,e1,e2,Sem.run_bind,Sem.run_pure,Result.andThen_ok,invoke,builtin,List.map_toArray,List.map_cons,List.map_nil,hv]
 simp only[evB]at h;obtain ⟨t,m,y,src,h1,hd,_⟩:=zhja hS hA h;obtain ⟨hv,hm,fq,hrep,_⟩:=hd.rep hS;have e3:IntKind.i64.min = -9223372036854775808:=by decide
 have e4:IntKind.i64.max=9223372036854775807:=by decide
 cases hT:env.is T t with
 |false =>
  rw[hT]at h1;simp only at h1;split at h1
  ·rename_i et y;split at h1
   ·rename_i et' u' hTy;obtain ⟨A,cap,q0,q1,q2⟩:=zpXa hv hm hrep;refine endVp (v:=goInt (List.length y:Nat)) hS hA hN h1 (fun _=>rfl) (zora ?_) (fun _ hb=>hb) (hrun _ ?_)
    ·constructor
     ·rw[e3]; omega
     ·rw[e4]; omega
    ·intro w;simp only[Builtin.len_,List.getElem?_toArray,List.getElem?_cons_zero,Sem.run_bind,run_underlying (wt_sl (hE.ty _ _ hTy)).1,Result.andThen_ok,q0,Sem.run_pure]
   ·simp[RM.run]at h1
  ·simp[RM.run]at h1
 |true =>
 rw[hT]at h1;have hE':=Env.is_ok hE hT;cases t with
 |sl et u =>
  obtain ⟨A,cap,q0,q1,q2⟩:=zpXa hv hm hrep;refine endVp (v:=goInt (List.length y:Nat)) hS hA hN h1 (fun _=>rfl) (zora ?_) (fun _ hb=>hb) (hrun _ ?_)
  ·constructor
   ·rw[e3]; omega
   ·rw[e4]; omega
  ·intro w;simp only[Builtin.len_,List.getElem?_toArray,List.getElem?_cons_zero,Sem.run_bind,run_underlying (wt_sl hE').1,Result.andThen_ok,q0,Sem.run_pure]
 |str =>
  obtain ⟨q0,q1⟩:=zxHa hv hm hrep;refine endVp (v:=goInt (List.length y:Nat)) hS hA hN h1 (fun _=>rfl) (zora ?_) (fun _ hb=>hb) (hrun _ ?_)
  ·have q1':List.length y≤2 ^ 63-1:=q1;constructor
   ·rw[e3]; omega
   ·rw[e4]; omega
  ·rw[q0];exact fun w=>zw2a y (zgPa hE')
 |arr n u =>
  dsimp only at h1;split at h1
  ·rename_i hk;obtain ⟨el,g1,g2⟩:=zCYa hE';refine endVp (v:=goInt (n:Int)) hS hA hN h1 (fun _=>rfl) (zora (zWZa hk)) (fun _ hb=>hb) (hrun _ ?_);intro w;simp only[Builtin.len_,List.getElem?_toArray,List.getElem?_cons_zero,Sem.run_bind,run_underlying g1,Result.andThen_ok,Sem.run_pure]
  ·simp[RM.run]at h1
 |_=>simp[RM.run]at h1
end
end Go.Trm
namespace Go.Trm
def lay (v:Array Value) (off:Nat) (cs:Array Value):Array Value:=v.zipIdx.foldl (fun cs (c,j)=>cs.setIfInBounds (off+j) c) cs
theorem zNXa (off:Nat):∀(l:List Value) (k:Nat) (cs:Array Value),off+k+l.length≤cs.size →
  ((l.zipIdx k).foldl (fun cs (c,j)=>cs.setIfInBounds (off+j) c) cs).size=cs.size ∧
  (∀j,j<l.length→((l.zipIdx k).foldl (fun cs (c,j)=>cs.setIfInBounds (off+j) c) cs).getD (off+k+j) undef=l.getD j undef) ∧
  (∀j,(j<off+k∨off+k+l.length≤j)→((l.zipIdx k).foldl (fun cs (c,j)=>cs.setIfInBounds (off+j) c) cs).getD j undef=cs.getD j undef)
 |[],k,cs,_=>⟨rfl,fun j hj=>by simp at hj,fun _ _=>rfl⟩
 |v::l,k,cs,h=>by
  simp only[List.length_cons]at h;obtain ⟨h1,h2,h3⟩:=zNXa off l (k+1) (cs.setIfInBounds (off+k) v) (by simp; omega);simp only[List.zipIdx_cons,List.foldl_cons];refine ⟨by simpa using h1,fun j hj=>?_,fun j hj=>?_⟩
  ·cases j with
   |zero =>
    rw[h3 (off+k+0) (.inl (by omega))];have:off+k<cs.size:=by omega
    simp[Array.getD,this]
   |succ j =>
    have:=h2 j (by simpa using hj);rw[show off+k+(j+1)=off+(k+1)+j by omega,this];simp
  ·simp only[List.length_cons]at hj;rw[h3 j (by omega)];have:off+k≠j:=by omega
   simp only[Array.getD_eq_getD_getElem?];rw[Array.getElem?_setIfInBounds_ne this]
theorem zz2a {v cs:Array Value} {off:Nat} (h:off+v.size≤cs.size):(lay v off cs).size=cs.size∧(∀j,j<v.size→(lay v off cs).getD (off+j) undef=v.getD j undef)∧(∀j,(j<off∨off+v.size≤j)→(lay v off cs).getD j undef=cs.getD j undef):=by
 have e:lay v off cs=(v.toList.zipIdx 0).foldl (fun cs (c,j)=>cs.setIfInBounds (off+j) c) cs:=by
  unfold lay;rw[←Array.foldl_toList,Array.toList_zipIdx]
 rw[e];obtain ⟨h1,h2,h3⟩:=zNXa off v.toList 0 cs (by simpa using h);simp only[Nat.add_zero,Array.length_toList]at h1 h2 h3;refine ⟨h1,fun j hj=>?_,h3⟩;rw[h2 j hj];simp[List.getD,Array.getD_eq_getD_getElem?]
theorem zZVa {place:Nat→Option (Nat×Nat)} {cs:Array Value} {i:Nat} {v:Value} {rest:List (Nat×Value)} {off size:Nat} (h:place i=some (off,size)) (h1:v.cells.size=size) (h2:off+size≤cs.size) :
  Instr.fill place cs ((i,v)::rest)=Instr.fill place (lay v.cells off cs) rest:=by
 simp only[Instr.fill,h];rw[if_neg (by simp[h1]; omega)];rfl
theorem zqXa {F:Blks} {w:World}:∀ {t:Ty} {m:Md} {z:t.I} {c:Cells} {i:Nat} {u:Ty} {mu:Md} {y:u.I} {m':Md} {z':t.I} {fz fq:Blks} {d:Cells},rep F w t m z c fz→setP t m z [.fld i] u mu y=some (m',z')→rep F w u mu y d fq→(∀b,fz b→¬fq b) →
  ∃k,fldT t i=some (u,k)∧k+u.size≤t.size∧∀c':Cells,(∀j,j<u.size→c' (k+j)=d j)→(∀j,(j<k∨k+u.size≤j)→c' j=c j)→rep F w t m' z' c' (fun b=>fz b∨fq b):=by
 intro t
 induction t with
 |pair a b iha ihb =>
  intro m z c i u mu y m' z' fz fq d h hs hy hd;obtain ⟨fa,fb,h1,h2,h3,ra,rb⟩:=zaka h;cases i with
  |zero =>
   simp only[setP]at hs;split at hs
   ·rename_i ma xa hc;split at hc
    ·rename_i y' hy';simp only[Option.some.injEq,Prod.mk.injEq]at hc hs;obtain ⟨rfl,rfl⟩:=hc;obtain ⟨rfl,rfl⟩:=hs;obtain ⟨e,hy2⟩:=zdca hy';subst e;simp only at hy2;subst hy2;refine ⟨0,rfl,by simp only[Ty.size]; omega,fun c' h4 h5=>?_⟩;refine zIVa (fa:=fq) (fb:=fb) (fun _ hb => .inr hb) (fun _ hb => .inl (h2 _ hb)) (fun b hb hc=>hd b (h2 b hc) hb) (zEaa (fun j hj=>by rw[←h4 j hj,Nat.zero_add]) hy) (zEaa (fun j hj=>(h5 _ (.inr (by omega))).symm) rb)
    ·cases hc
   ·cases hs
  |succ i =>
   simp only[setP]at hs;split at hs
   ·rename_i mb xb hc;simp only[Option.some.injEq]at hs;cases hs;obtain ⟨k,k1,k2,k3⟩:=ihb rb hc hy (fun b hb=>hd b (h2 b hb));refine ⟨a.size+k,by simp[fldT,k1],by simp only[Ty.size]; omega,fun c' h4 h5=>?_⟩;refine zIVa (fa:=fa) (fb:=fun b=>fb b∨fq b) (fun _ hb => .inl (h1 _ hb)) (fun _ hb=>by rcases hb with hb|hb; exact .inl (h2 _ hb); exact .inr hb) (fun b hb hc=>by rcases hc with hc|hc; exact h3 b hb hc; exact hd b (h1 b hb) hc)
     (zEaa (fun j hj=>(h5 j (.inl (by omega))).symm) ra)
     (k3 (fun j=>c' (a.size+j)) (fun j hj=>by rw[←Nat.add_assoc]; exact h4 j hj) (fun j hj=>h5 _ (by omega)))
   ·cases hs
 |_=>intro m z c i u mu y m' z' fz fq d h hs hy hd; simp[setP]at hs
section
variable {P:Program} {env:Env} {e:Entry} {F:Blks} {w:World} {st:St} {V:Nat→Value} {fp:Nat→Blks} {fl:Blks} {a:Act} {o:Oper} {R:Type} {K:Unit→St→Option R} {res:R} {C:Cx R} {gh:Nat→Value} {next:Act→World→Prop} {Q:Exit→Act→World→Prop}
theorem zZWa:∀ {t:Ty} {fs:List Field} {o:Nat},wtF P t fs o=true→∃pl:List (Nat×Nat),fs.mapM (fun f=>(P.info? f.type).map fun i=>(f.offset,i.size))=some pl∧∀i u k,fldT t i=some (u,k)→pl[i]?=some (o+k,u.size):=by
 intro t
 induction t with
 |unit =>
  intro fs o h;cases fs with
  |nil=>exact ⟨[],rfl,fun i u k hf=>by simp[fldT]at hf⟩
  |cons f fs=>simp[wtF]at h
 |pair a b iha ihb =>
  intro fs o h;cases fs with
  |nil=>simp[wtF]at h
  |cons f fs =>
   simp only[wtF,Bool.and_eq_true]at h;obtain ⟨pl,h1,h2⟩:=ihb h.2.2;obtain ⟨i,z,i1,i2,_⟩:=zzwa h.2.1;refine ⟨(f.offset,i.size)::pl,by simp[h1,i1],fun n u k hf=>?_⟩;cases n with
   |zero =>
    simp only[fldT,Option.some.injEq,Prod.mk.injEq]at hf;obtain ⟨rfl,rfl⟩:=hf;simp[Nat.eq_of_beq_eq_true h.1,i2]
   |succ n =>
    simp only[fldT,Option.map_eq_some_iff]at hf;obtain ⟨⟨u',k'⟩,hf,he⟩:=hf;simp only[Prod.mk.injEq]at he;obtain ⟨rfl,rfl⟩:=he;have:=h2 n u' k' hf;simp only[List.getElem?_cons_succ,this,Nat.add_assoc]
 |_=>intro fs o h; simp[wtF]at h
theorem zBYa {t:Ty} {T:TypeId} (h:wt P t T=true) (hs:t.strc=true):∃fs pl,P.underlying T=some (.struct fs)∧fs.toList.mapM (fun f=>(P.info? f.type).map fun i=>(f.offset,i.size))=some pl∧∀i u k,fldT t i=some (u,k)→pl[i]?=some (k,u.size):=by
 cases t with
 |unit =>
  simp only[wt,Bool.and_eq_true]at h;obtain ⟨_,h⟩:=h;split at h
  ·rename_i fs h2;refine ⟨fs,[],h2,?_,fun i u k hf=>by simp[fldT]at hf⟩;have:fs.toList=[]:=by simpa using h
   rw[this]; rfl
  ·cases h
 |pair a b =>
  simp only[wt,Bool.and_eq_true]at h;obtain ⟨_,h⟩:=h;split at h
  ·rename_i fs h2;split at h
   ·rename_i f fs' h3;have hw:wtF P (.pair a b) fs.toList 0=true:=by
     rw[h3];simp only[wtF,Nat.zero_add];exact h
    obtain ⟨pl,p1,p2⟩:=zZWa hw;exact ⟨fs,pl,h2,p1,fun i u k hf=>by rw[p2 i u k hf,Nat.zero_add]⟩
   ·cases h
  ·cases h
 |_=>cases hs
theorem zdTa {α:Type} {Kk:α→St→Option R} {Ts:Nat→TypeId} {t:Ty} {place:Nat→Option (Nat×Nat)} (hA:AR env gh a V) (hp:∀i u k,fldT t i=some (u,k)→place i=some (k,u.size)):∀ {ps:List (Nat×Operand)} {m:Md} {z:t.I} {k:Md→t.I→RM α} {st:St} {fp:Nat→Blks} {fl fz:Blks} {cs:Array Value},
  SR e F w st V fp fl→rep F w t m z (fun j=>cs.getD j undef) fz→(∀b,fz b→fl b)→cs.size=t.size→(zwPa env Ts ps t m z k).run C st Kk=some res →
  ∃st' fp' fl' m' z' cs' fz',(k m' z').run C st' Kk=some res∧SR e F w st' V fp' fl'∧Instr.fill place cs (ps.map fun q=>(q.1,a.eval q.2))=some cs'∧rep F w t m' z' (fun j=>cs'.getD j undef) fz'∧(∀b,fz' b→fl' b)∧cs'.size=t.size
 |[],m,z,k,st,fp,fl,fz,cs,hS,hr,hf,hz,h=>⟨st,fp,fl,m,z,cs,fz,h,hS,rfl,hr,hf,hz⟩
 |(i,x)::ps,m,z,k,st,fp,fl,fz,cs,hS,hr,hf,hz,h=>by
  simp only[zwPa,rdT]at h;obtain ⟨u,mu,y,src,h1,hd,_⟩:=zhja hS hA h;obtain ⟨st1,fp1,fq,h2,hS1,hv,hm,hrep,hfl,_⟩:=zAsa hS hd h1;split at h2
  ·rename_i m' z' hset;obtain ⟨kk,f1,f2,f3⟩:=zqXa hr hset hrep (fun b hb hc=>hfl b hc (hf b hb));have hsz:=zAPa hv hm hrep;obtain ⟨l1,l2,l3⟩:=zz2a (v:=(a.eval x).cells) (cs:=cs) (off:=kk) (by rw[hsz,hz]; exact f2);have hr':=f3 (fun j=>(lay (a.eval x).cells kk cs).getD j undef) (fun j hj=>l2 j (by rw[hsz]; exact hj)) (fun j hj=>l3 j (by rw[hsz]; exact hj));obtain ⟨st',fp',fl',m2,z2,cs2,fz2,g1,g2,g3,g4⟩:=zdTa hA hp hS1 hr' (fun b hb=>by rcases hb with hb|hb; exact .inl (hf b hb); exact .inr hb) (by rw[l1,hz]) h2;refine ⟨st',fp',fl',m2,z2,cs2,fz2,g1,g2,?_,g4⟩;rw[List.map_cons,zZVa (hp i u kk f1) hsz (by rw[hz]; exact f2)];exact g3
  ·simp[RM.run]at h2
theorem zc0a {t:Ty} {cs:Array Value} (ha:t.agg=true) (hz:cs.size=t.size):isV t (.agg cs):=by
 unfold isV valOf;rw[ha];simp only[if_true]
 congr 1
 apply Array.ext
 ·simp[hz]
 ·intro i h1 h2;simp[cv,Value.cells,Array.getD,h1]
theorem zo0a {t:Ty} (h:t.strc=true):t.agg=true:=by cases t<;>first|rfl|cases h
theorem zyPa {α:Type} {Kk:α→St→Option R} {T:TypeId} {t:Ty} {n:Nat} (hA:AR env gh a V):∀ {ps:List (Nat×Operand)} {m:Option Md} {z:List t.I} {k:Option Md→List t.I→RM α} {st:St} {fp:Nat→Blks} {fl:Blks} {fs:Nat→Blks} {cs:Array Value},
  SR e F w st V fp fl→z.length=n→Disj fs→(∀i b,fs i b→fl b)→(∀mm,(m=none∨m=some mm)→∀i,i<n→rep F w t mm (z.getD i t.dflt) (fun j=>cs.getD (i*t.size+j) undef) (fs i))→cs.size=n*t.size →
  (zKKa env T t n ps m z k).run C st Kk=some res →
  ∃st' fp' fl' m' z' cs' fs',(k m' z').run C st' Kk=some res∧SR e F w st' V fp' fl'∧Instr.fill (fun i=>some (i*t.size,t.size)) cs (ps.map fun q=>(q.1,a.eval q.2))=some cs'∧z'.length=n∧Disj fs'∧(∀i b,fs' i b→fl' b) ∧
   (∀mm,(m'=none∨m'=some mm)→∀i,i<n→rep F w t mm (z'.getD i t.dflt) (fun j=>cs'.getD (i*t.size+j) undef) (fs' i))∧cs'.size=n*t.size∧(∀mm,m=some mm→m'=some mm)
 |[],m,z,k,st,fp,fl,fs,cs,hS,hl,hdj,hf,hr,hz,h=>⟨st,fp,fl,m,z,cs,fs,h,hS,rfl,hl,hdj,hf,hr,hz,fun _ h=>h⟩
 |(i,x)::ps,m,z,k,st,fp,fl,fs,cs,hS,hl,hdj,hf,hr,hz,h=>by
  simp only[zKKa,rdT]at h;obtain ⟨u,mu,y,src,h1,hd,_⟩:=zhja hS hA h;obtain ⟨st1,fp1,fq,h2,hS1,hv,hm,hrep,hfl,_⟩:=zAsa hS hd h1;have hsz:=zAPa hv hm hrep;split at h2
  ·rename_i y' hc hi;have hi':=zsta hi;obtain ⟨eu,hy⟩:=zdca hc;subst eu;simp only at hy;subst hy;have hle:i*u.size+u.size≤n*u.size:=by
    calc i*u.size+u.size=(i+1)*u.size:=by rw[Nat.add_mul,Nat.one_mul]
     _≤n*u.size:=Nat.mul_le_mul_right _ hi'
   obtain ⟨l1,l2,l3⟩:=zz2a (v:=(a.eval x).cells) (cs:=cs) (off:=i*u.size) (by rw[hsz,hz]; exact hle);have hrest:∀m',(m=none∨m=some mu)→m'=some mu→(zKKa env T u n ps m' (z.set i y) k).run C st1 Kk=some res →
     ∃st' fp' fl' m' z' cs' fs',(k m' z').run C st' Kk=some res∧SR e F w st' V fp' fl'∧Instr.fill (fun i=>some (i*u.size,u.size)) cs (((i,x)::ps).map fun q=>(q.1,a.eval q.2))=some cs'∧z'.length=n∧Disj fs'∧(∀i b,fs' i b→fl' b) ∧
   (∀mm,(m'=none∨m'=some mm)→∀i,i<n→rep F w u mm (z'.getD i u.dflt) (fun j=>cs'.getD (i*u.size+j) undef) (fs' i))∧cs'.size=n*u.size∧(∀mm,m=some mm→m'=some mm):=by
    rintro m' hmm rfl h3
    obtain ⟨st',fp',fl',m2,z2,cs2,fs2,g1,g2,g3,g4,g5,g6,g7,g8,g9⟩:=zyPa hA (fs:=fun j b=>(j≠i∧fs j b)∨(j=i∧fq b)) (cs:=lay (a.eval x).cells (i*u.size) cs) hS1 (by simpa using hl)
     ⟨fun j j' hjj b hb hb'=>by
      rcases hb with ⟨q1,hb⟩|⟨q1,hb⟩<;>rcases hb' with ⟨q2,hb'⟩|⟨q2,hb'⟩
      ·exact hdj.disj j j' hjj b hb hb'
      ·exact hfl b hb' (hf j b hb)
      ·exact hfl b hb (hf j' b hb')
      ·exact hjj (q1.trans q2.symm)⟩
     (fun j b hb=>by
      rcases hb with ⟨_,hb⟩|⟨_,hb⟩
      ·exact .inl (hf j b hb)
      ·exact .inr hb)
     (fun mm hmm' j hj=>by
      rcases hmm' with hmm'|hmm'
      ·cases hmm'
      cases hmm';by_cases hji:j=i
      ·subst hji;rw[zjca (by rw[hl]; exact hj)];exact zEoa (fun b hb => .inr ⟨rfl,hb⟩) (zEaa (fun q hq=>(l2 q (by rw[hsz]; exact hq)).symm) hrep)
      ·rw[zxha hji];refine zEoa (fun b hb => .inl ⟨hji,hb⟩) (zEaa (fun q hq=>(l3 _ ?_).symm) (hr mu hmm j hj));rw[hsz];rcases Nat.lt_or_gt_of_ne hji with h9|h9
       ·left
        calc j*u.size+q<j*u.size+u.size:=by omega
         _=(j+1)*u.size:=by rw[Nat.add_mul,Nat.one_mul]
         _≤i*u.size:=Nat.mul_le_mul_right _ h9
       ·right
        calc i*u.size+u.size=(i+1)*u.size:=by rw[Nat.add_mul,Nat.one_mul]
         _≤j*u.size:=Nat.mul_le_mul_right _ h9
         _≤j*u.size+q:=Nat.le_add_right _ _)
     (by rw[l1,hz]) h3
    refine ⟨st',fp',fl',m2,z2,cs2,fs2,g1,g2,?_,g4,g5,g6,g7,g8,fun mm hq=>?_⟩
    ·rw[List.map_cons,zZVa (size:=u.size) rfl hsz (by rw[hz]; exact hle)];exact g3
    ·rcases hmm with hmm|hmm
     ·rw[hmm]at hq; cases hq
     ·rw[hmm]at hq; cases hq; exact g9 _ rfl
   split at h2
   ·exact hrest _ (.inl rfl) rfl h2
   ·rename_i m0;split at h2
    ·rename_i he;have:=Md.eqb_eq he;subst this;exact hrest _ (.inr rfl) rfl h2
    ·simp[RM.run]at h2
  ·simp[RM.run]at h2
end
end Go.Trm
namespace Go.Trm
theorem zO0a {z:Array Value} {n i j:Nat} (hi:i<n) (hj:j<z.size):(madeCells z (n*z.size)).getD (i*z.size+j) undef=z.getD j undef:=by
 have h1:i*z.size+j<n*z.size:=by
  calc i*z.size+j<i*z.size+z.size:=by omega
   _=(i+1)*z.size:=by rw[Nat.add_mul,Nat.one_mul]
   _≤n*z.size:=Nat.mul_le_mul_right _ hi
 have h2:(i*z.size+j)%z.size=j:=by rw[Nat.add_comm,Nat.add_mul_mod_self_right,Nat.mod_eq_of_lt hj]
 simp only[madeCells,Array.getD_eq_getD_getElem?,Array.getElem?_map];rw[Array.getElem?_range,if_pos h1];simp[h2,hj]
theorem ztVa (f:Operand→Value) (ps:Array (Nat×Operand)):(ps.map fun (i,x)=>(i,f x)).toList=ps.toList.map fun q=>(q.1,f q.2):=by
 simp
section
variable {P:Program} {env:Env} {e:Entry} {F:Blks} {w:World} {st:St} {V:Nat→Value} {fp:Nat→Blks} {fl:Blks} {a:Act} {o:Oper} {R:Type} {K:Unit→St→Option R} {res:R} {C:Cx R} {gh:Nat→Value} {next:Act→World→Prop} {Q:Exit→Act→World→Prop}
theorem ze0a {t:Ty} {m:Md} {fq:Blks}:rep F w t m t.dflt (fun j=>(zwea t).toArray.getD j undef) fq :=
 zuPa fun j hj=>by simp[Array.getD_eq_getD_getElem?,List.getD]
theorem zCVa {t:Ty} {n:Nat} {m:Md} {i:Nat} (hi:i<n):rep F w t m ((List.replicate n t.dflt).getD i t.dflt) (fun j=>(madeCells (zwea t).toArray (n*t.size)).getD (i*t.size+j) undef) none':=by
 have e1:(List.replicate n t.dflt).getD i t.dflt=t.dflt:=by simp[List.getD,hi]
 rw[e1];refine zuPa fun j hj=>?_
 have hz:(zwea t).toArray.size=t.size:=by simp[zeba]
 have:=zO0a (z:=(zwea t).toArray) (n:=n) (i:=i) (j:=j) hi (by rw[hz]; exact hj);rw[hz]at this;rw[this];simp[Array.getD_eq_getD_getElem?,List.getD]
theorem zD1a {t:Ty} {n:Nat} {m:Md} {i:Nat} (hi:i<n):rep F w t m ((List.replicate n t.dflt).getD i t.dflt) (fun j=>(zwea (.arr n t)).toArray.getD (i*t.size+j) undef) none':=by
 have e1:(List.replicate n t.dflt).getD i t.dflt=t.dflt:=by simp[List.getD,hi]
 rw[e1];refine zuPa fun j hj=>?_
 have:=ziYa (zwea t) undef n i j hi (by rw[zeba]; exact hj);rw[zeba]at this;rw[←this];simp[zwea,Array.getD_eq_getD_getElem?,List.getD]
theorem zAXa {T:TypeId} {ps:Array (Nat×Operand)} (hE:EnvTy P env) (ho:o.op = .build T ps) (hS:SR e F w st V fp none') (hA:AR env gh a V) (hN:Nxt env gh e K res next) (h:(evOp env o).run C st K=some res):wpp P o a w next:=by
 simp only[evOp,ho]at h;have hrun:∀cs,P.built T (ps.map fun (i,x)=>(i,a.eval x)).toList=some cs→∀w,(execOp a.eval o).run P w = .ok (.value (.agg cs)) w:=by
  intro cs hb w;simp only[execOp,ho,Sem.run_bind,Go.run_build w T _ cs hb,Result.andThen_ok,Sem.run_pure]
 split at h
 ·rename_i n t ht;have hw:=hE.ty _ _ ht;obtain ⟨i,z,h1,h2,h3,h4,h5,h6⟩:=zzwa hw;obtain ⟨el,g1,g2⟩:=zCYa hw;obtain ⟨i',z',j1,j2,j3,j4,j5,j6⟩:=zzwa g2;have hz0:(zwea (.arr n t)).toArray.size=n*t.size:=by simp[zeba,Ty.size]
  obtain ⟨st',fp',fl',m',z1,cs',fs',k1,k2,k3,k4,k5,k6,k7,k8,k9⟩:=zyPa (n:=n) (t:=t) (fs:=fun _=>none') (cs:=(zwea (.arr n t)).toArray) hA hS (by simp) ⟨fun _ _ _ _ hb=>hb.elim⟩ (fun _ _ hb=>hb.elim)
   (fun mm _ i hi=>zD1a hi)
   hz0 h
  obtain rfl:m'=some .s:=k9 _ rfl;have hb:P.built T (ps.map fun (i,x)=>(i,a.eval x)).toList=some cs':=by
   simp only[Program.built,h1,g1,h4,j1,h6,ztVa,j2];exact k3
  refine endVp (fq:=none') k2 hA hN k1 (fun _=>zc0a rfl k8) ?_ (fun _ hb=>hb.elim) (hrun _ hb);simp only[rep,Md.el];exact ⟨k4,fun _=>none',⟨fun _ _ _ _ hb=>hb.elim⟩,fun _ _ hb=>hb.elim,fun i hi=>rep_s (k7 .s (.inr rfl) i hi)⟩
 ·rename_i t _ ht;split at h
  ·rename_i hs;have hw:=hE.ty _ _ ht;obtain ⟨i,z,h1,h2,h3,h4,h5,h6⟩:=zzwa hw;obtain ⟨fs,pl,p1,p2,p3⟩:=zBYa hw hs;have hz0:(zwea t).toArray.size=t.size:=by simp[zeba]
   obtain ⟨st',fp',fl',m',z1,cs',fz',k1,k2,k3,k4,k5,k6⟩:=zdTa (t:=t) (place:=fun i=>pl[i]?) (fz:=none') (cs:=(zwea t).toArray) hA p3 hS ze0a (fun _ hb=>hb.elim) hz0 h;have hb:P.built T (ps.map fun (i,x)=>(i,a.eval x)).toList=some cs':=by
    simp only[Program.built,h1,p1,h4,p2,h6,ztVa];simpa using k3
   exact endVp (fq:=fz') k2 hA hN k1 (fun _=>zc0a (zo0a hs) k6) k4 k5 (hrun _ hb)
  ·simp[RM.run]at h
 ·simp[RM.run]at h
theorem zJRa {w':World} {N:Nat} {cs:Array Value} {el et:TypeId} {fz:Nat×Nat} {t:Ty} {m:Md} {z:List t.I} {fs:Nat→Blks} {cap:Nat} (hnew:w'.heap[N]?=some (.cells cs el fz)) (hfz:fz.1=fz.2) (hc:cs.size=cap*t.size) (hl:z.length≤cap) (hm:cap≤2 ^ 63-1) (hd:Disj fs)
  (hn:∀i b,fs i b→b≠N) (hr:∀i,i<z.length→rep F w' t m (z.getD i t.dflt) (fun j=>cs.getD (i*t.size+j) undef) (fs i)):rep F w' (.sl et t) (.o m) z (cv (.slice (some ⟨N,0,none⟩) z.length cap)) (fun b=>b=N∨∃i,fs i b):=by
 simp only[rep];refine ⟨some ⟨N,0,none⟩,cap,rfl,hl,hm,nofun,fun A hA=>?_⟩;cases hA;refine ⟨fun _=>rfl,.inl rfl,⟨cs,el,fz,hnew,by simp[hc],fun _ => .inl hfz⟩,fs,hd,fun i b hb=>⟨.inr ⟨i,hb⟩,hn i b hb⟩,fun i hi=>?_⟩;refine zEaa (fun j hj=>?_) (hr i hi);rw[zABa hnew,Nat.zero_add]
theorem zRRa {T:TypeId} {n:Nat} {ps:Array (Nat×Operand)} (hE:EnvTy P env) (ho:o.op = .buildSlice T n ps) (hS:SR e F w st V fp none') (hA:AR env gh a V) (hN:Nxt env gh e K res next) (h:(evOp env o).run C st K=some res):o.wp P a w next Q:=by
 simp only[evOp,ho]at h;split at h
 ·rename_i et t ht;split at h
  ·rename_i hn;simp only[Bool.and_eq_true]at hn;have hn':=Nat.le_of_ble_eq_true hn.1;have hn2:=Nat.le_of_ble_eq_true hn.2;have hw:=hE.ty _ _ ht;obtain ⟨g1,g2⟩:=wt_sl hw;obtain ⟨i',z',j1,j2,j3,j4,j5,j6⟩:=zzwa g2;have hz0:(madeCells (zwea t).toArray (n*t.size)).size=n*t.size:=size_madeCells _ _;obtain ⟨st',fp',fl',m',z1,cs',fs',k1,k2,k3,k4,k5,k6,k7,k8,k9⟩:=zyPa (n:=n) (t:=t) (fs:=fun _=>none') (cs:=madeCells (zwea t).toArray (n*t.size)) hA hS (by simp) ⟨fun _ _ _ _ hb=>hb.elim⟩ (fun _ _ hb=>hb.elim)
    (fun mm _ i hi=>zCVa hi) hz0 h
   have hrun:(execOp a.eval o).run P w = .ok (.value (.slice (some ⟨w.heap.size,0,none⟩) n n)) (w.alloc (.cells cs' et)):=by
    have hnl:¬(n*t.size>2 ^ 24):=by omega
    have k3':Instr.fill (fun i=>some (i*t.size,t.size)) (madeCells (zwea t).toArray (n*t.size)) (ps.map fun (i,x)=>(i,a.eval x)).toList=some cs':=by rw[ztVa]; exact k3
    simp only[execOp,ho,Instr.buildSlice,Sem.run_bind,run_underlying g1,Result.andThen_ok,zNga g2];rw[if_neg hnl];by_cases h0:n*t.size=0
    ·rw[if_pos h0];have hm:(Array.range (n*t.size)).map ((#[]:Array Value)[·%(#[]:Array Value).size]!)=madeCells (zwea t).toArray (n*t.size):=by
      rw[h0]; simp[madeCells]
     simp only[Sem.run_bind,Sem.run_pure,Result.andThen_ok,hm,k3'];rfl
    ·rw[if_neg h0];have hm:(Array.range (n*t.size)).map (z'.cells[·%z'.cells.size]!)=madeCells (zwea t).toArray (n*t.size):=by
      rw[j6]; rfl
     have hzv:=zjXa (w:=w) g2;rw[←j5]at hzv;simp only[Sem.run_bind,Sem.run_pure,Result.andThen_ok,hzv,hm,k3'];rfl
   have hnew:=zYoa (w:=w) (ob := .cells cs' et);have hfin:∀m,(m'=none∨m'=some m)→(fin env o (.v (.sl et t) (.o m) z1)).run C st' K=some res→o.wp P a w next Q:=by
    intro m hm h2;refine endV (fq:=fun b=>b=w.heap.size∨∃i,fs' i b) (k2.push (fun b hb=>zPda hb) (World.size_alloc w _) rfl ⟨rfl,rfl,rfl⟩) hA hN h2 (fun _=>zbQa) ?_ (fun b hb=>?_) hrun
    ·have hr:=zJRa (F:=F) (w':=w.alloc (.cells cs' et)) (et:=et) (m:=m) (fs:=fs') hnew rfl k8 (Nat.le_of_eq k4) (by omega) k5 (fun i b hb hc=>absurd hc (Nat.ne_of_lt (k2.flH b (k6 i b hb))))
      (fun i hi=>zxaa (fun _ hb=>hb) (fun b hb=>zPda (k2.inF b hb)) (fun b hb=>zPda (k2.flH b (k6 i b hb))) (k7 m hm i (by rw[←k4]; exact hi)))
     rw[k4]at hr;exact hr
    ·rcases hb with hb|⟨i,hb⟩
     ·exact .inr hb
     ·exact .inl (k6 i b hb)
   split at k1
   ·exact hfin .s (.inl rfl) k1
   ·exact hfin _ (.inr rfl) k1
  ·simp[RM.run]at h
 ·simp[RM.run]at h
end
end Go.Trm
namespace Go.Trm
def rowL (c:Cells) (n:Nat):List Value:=(List.range n).map c
theorem zsPa {c:Cells} {n j:Nat} (h:j<n):(rowL c n).getD j undef=c j:=by simp[rowL,List.getD,h]
theorem zbDa {c:Cells} {n:Nat}:(rowL c n).length=n:=by simp[rowL]
theorem zZua {c:Cells} {n j:Nat} {v:Value} (h:(rowL c n)[j]?=some v):j<n∧v=c j:=by
 have hj:j<n:=by
  have:=(List.getElem?_eq_some_iff.1 h).1;simpa[rowL] using this
 refine ⟨hj,?_⟩;simp[rowL,hj]at h;exact h.symm
section
variable {P:Program} {env:Env} {e:Entry} {F:Blks} {w:World} {st:St} {V:Nat→Value} {fp:Nat→Blks} {fl:Blks} {a:Act} {o:Oper} {R:Type} {K:Unit→St→Option R} {res:R} {C:Cx R} {gh:Nat→Value} {next:Act→World→Prop} {Q:Exit→Act→World→Prop}
theorem zeUa {T:TypeId} {n c:Operand} (hE:EnvTy P env) (ho:o.op = .makeSlice T n c) (hS:SR e F w st V fp none') (hA:AR env gh a V) (hN:Nxt env gh e K res next) (h:(evOp env o).run C st K=some res):o.wp P a w next Q:=by
 simp only[evOp,ho]at h;split at h
 ·rename_i et t ht;have hw:=hE.ty _ _ ht;obtain ⟨g1,g2⟩:=wt_sl hw;obtain ⟨i',z',j1,j2,j3,j4,j5,j6⟩:=zzwa g2;obtain ⟨k1,x,h1,e1,r1⟩:=zkma hS hA h;obtain ⟨k2,y,h2,e2,r2⟩:=zkma hS hA h1;split at h2
  ·simp only[RM.run]at h2;cases hb:inR x y most with
   |false=>rw[hb]at h2; cases h2
   |true =>
    rw[hb]at h2;have hb':=zXXa hb;unfold most at hb';have hbytes:(i'.bytes:Int)*y≤281474976710656:=by
     have q1:(i'.bytes:Int)≤4096:=by omega
     have q2:(0:Int)≤(i'.bytes:Int):=by omega
     have q3:(i'.bytes:Int)*y≤4096*4294967296:=Int.mul_le_mul q1 hb'.2.2 (by omega) (by omega);omega
    have hr:=run_make (P:=P) w T et i' z' g1 j1 j4 .i64 .i64 x y hb'.1 hb'.2.1 hbytes (by omega);rw[j6,j2]at hr;have hrun:(execOp a.eval o).run P w = .ok (.value (.slice (some ⟨w.heap.size,0,none⟩) x.toNat y.toNat)) (w.alloc (.cells (madeCells (zwea t).toArray (y.toNat * t.size)) et)):=by
     simp only[execOp,ho,e1,e2,Sem.run_bind,hr,Result.andThen_ok,Sem.run_pure]
    have hnew:=zYoa (w:=w) (ob := .cells (madeCells (zwea t).toArray (y.toNat * t.size)) et);have hrr:=zJRa (F:=F) (w':=w.alloc (.cells (madeCells (zwea t).toArray (y.toNat * t.size)) et)) (et:=et) (t:=t) (m:=t.ownE env.om) (z:=List.replicate x.toNat t.dflt) (fs:=fun _=>none') (cap:=y.toNat) hnew rfl (size_madeCells _ _) (by simp; omega) (by omega)
     ⟨fun _ _ _ _ hb=>hb.elim⟩ (fun _ _ hb=>hb.elim) (fun i hi=>by
      simp only[List.length_replicate]at hi;have:=zCVa (F:=F) (w:=w.alloc (.cells (madeCells (zwea t).toArray (y.toNat * t.size)) et)) (t:=t) (n:=y.toNat) (m:=t.ownE env.om) (i:=i) (by omega);have e3:(List.replicate x.toNat t.dflt).getD i t.dflt=(List.replicate y.toNat t.dflt).getD i t.dflt:=by
       have:i<y.toNat:=by omega
       simp[List.getD,hi,this]
      rw[e3];exact this)
    rw[List.length_replicate]at hrr;exact endV (hS.push (fun b hb=>zPda hb) (World.size_alloc w _) rfl ⟨rfl,rfl,rfl⟩) hA hN h2 (fun _=>zbQa) hrr (fun b hb=>by
     rcases hb with hb|⟨_,hb⟩
     ·exact .inr hb
     ·exact hb.elim) hrun
  ·simp[RM.run]at h2
 ·simp[RM.run]at h
structure zGTa (P:Program) (F:Blks) (w:World) (t:Ty) (m:Md) (U:TypeId) (x:Value) (y:List t.I) (fq:Blks):Prop where
 ex:∃news:List Value,_root_.Go.Src P t.size U x y.length news w∧∃fs:Nat→Blks,Disj fs∧(∀i b,fs i b→fq b)∧∀i,i<y.length→rep F w t m (y.getD i t.dflt) (fun j=>news.getD (i*t.size+j) undef) (fs i)
theorem zEJa {i j n s:Nat} (hi:i<n) (hj:j<s):i*s+j<n*s:=by
 calc i*s+j<i*s+s:=by omega
  _=(i+1)*s:=by rw[Nat.add_mul,Nat.one_mul]
  _≤n*s:=Nat.mul_le_mul_right _ hi
theorem zzFa {β:Type} {l l':List β} {i:Nat} {d:β}:(l++l').getD i d=if i<l.length then l.getD i d else l'.getD (i-l.length) d:=by
 simp only[List.getD_eq_getElem?_getD,List.getElem?_append];split<;>rfl
theorem zAZa {T U ty:TypeId} {et:TypeId} {t:Ty} {m:Md} {y y':List t.I} {v x:Value} {f1 f2:Blks} (hw:wt P (.sl et t) T=true) (hS:SR e F w st V fp fl) (hv:isV (.sl et t) v) (hr:rep F w (.sl et t) (.o m) y (cv v) f1) (hb:zGTa P F w t m U x y' f2)
  (h1:∀b,f1 b→fl b) (h2:∀b,f2 b→fl b) (h12:∀b,f1 b→¬f2 b) (hle:y.length+y'.length≤most) :
  ∃v' w' fl' fq,(Builtin.append_ #[T,U] ty #[v,x]).run P w = .ok v' w'∧SR e F w' st V fp fl'∧isV (.sl et t) v'∧rep F w' (.sl et t) (.o m) (y++y') (cv v') fq∧(∀b,fq b→fl' b):=by
 obtain ⟨g1,g2⟩:=wt_sl hw;obtain ⟨i',z',j1,j2,j3,j4,j5,j6⟩:=zzwa g2;obtain ⟨news,hsrc,fs2,d2,s2,r2⟩:=hb.ex;rw[←j2]at hsrc;have hnl:news.length=y'.length*t.size:=by rw[hsrc.newsLen,j2]
 have hval:=zTTa hv;simp only[rep]at hr;obtain ⟨A,cap,q1,q2,q3,q4,q5⟩:=hr;have hve:v = .slice A y.length cap:=hval.trans q1;unfold most at hle;by_cases hroom:y.length+y'.length≤cap
 ·by_cases hc0:cap=0
  ·have hy0:y=[]:=List.eq_nil_of_length_eq_zero (by omega);have hy0':y'=[]:=List.eq_nil_of_length_eq_zero (by omega);subst hy0;subst hy0';have hn0:news=[]:=List.eq_nil_of_length_eq_zero (by rw[hnl]; simp);subst hn0;have hrun:=run_append_nothing (P:=P) w T U ty et i' g1 j1 A 0 cap (by omega) x hsrc;refine ⟨v,w,fl,f1,by rw[hve]; exact hrun,hS,hv,?_,h1⟩;simp only[rep];exact ⟨A,cap,q1,q2,q3,q4,q5⟩
  cases A with
  |none=>exact absurd (q4 rfl) hc0
  |some A =>
   obtain ⟨hsp,p1,p2,fs1,d1,s1,r1⟩:=q5 A rfl
   replace hsp:=hsp (by omega)
   obtain ⟨b,k,sp⟩:=A;simp only at hsp;subst hsp;simp only at p1 p2 s1 r1;have hoff:k+y.length*t.size+news.length≤k+cap*t.size:=by
    rw[hnl];have:(y.length+y'.length)*t.size≤cap*t.size:=Nat.mul_le_mul_right _ hroom;rw[Nat.add_mul]at this;omega
   have hrun:=run_append_room_src (P:=P) w T U ty et i' g1 j1 b k y.length cap x y'.length news hsrc hroom
    (fun j hj=>by rw[j2,zZla p2 (by omega)]; rfl) (fun j hj=>by rw[j2]; exact zCEa p2 (by omega))
   rw[j2]at hrun;obtain ⟨cs,el,fz,c1,c2,c3⟩:=p2;obtain ⟨cs',k1,k2,k3,k4,k5,k6⟩:=zGra (vs:=news) (o:=k+y.length*t.size) c1 (by omega);have hsame:∀b',b'≠b→Same w (w.setCells b (k+y.length*t.size) news) b':=k5;have hbF:∀b',F b'→b'≠b:=fun b' hb' hc=>hS.flF b (h1 b p1) (hc ▸ hb')
   refine ⟨_,_,fl,fun b=>f1 b∨f2 b,by rw[hve]; exact hrun,hS.world (fun b' _ hb'=>hsame b' (fun hc=>hb' (hc ▸ h1 b p1))) ⟨zJua _ _ _ _,Nat.le_of_eq k6.symm⟩ (fun b' hb'=>⟨.inl hb',by rw[k6]; exact hS.flH b' hb'⟩),zbQa,?_,fun b hb=>by
    rcases hb with hb|hb
    ·exact h1 b hb
    ·exact h2 b hb⟩
   simp only[rep];refine ⟨some ⟨b,k,none⟩,cap,by rw[List.length_append]; rfl,by rw[List.length_append]; exact hroom,q3,nofun,fun A hA=>?_⟩;cases hA;refine ⟨fun _=>rfl,.inl p1,⟨cs',el,fz,k1,by rw[k2]; exact c2,fun hw=>by rw[k2]; exact c3 hw⟩,fun i b'=>(i<y.length∧fs1 i b')∨(y.length≤i∧fs2 (i-y.length) b'),⟨fun i j hij b' hb hb'=>?_⟩,fun i b' hb'=>?_,fun i hi=>?_⟩
   ·rcases hb with ⟨u1,hb⟩|⟨u1,hb⟩<;>rcases hb' with ⟨u2,hb'⟩|⟨u2,hb'⟩
    ·exact d1.disj i j hij b' hb hb'
    ·exact h12 b' (s1 i b' hb).1 (s2 _ b' hb')
    ·exact h12 b' (s1 j b' hb').1 (s2 _ b' hb)
    ·exact d2.disj _ _ (by omega) b' hb hb'
   ·rcases hb' with ⟨_,hb'⟩|⟨_,hb'⟩
    ·exact ⟨.inl (s1 i b' hb').1,(s1 i b' hb').2⟩
    ·exact ⟨.inr (s2 _ b' hb'),fun hc=>h12 b p1 (by have h9:=s2 _ b' hb'; rw[hc]at h9; exact h9)⟩
   ·rw[zzFa];rw[List.length_append]at hi;split
    ·rename_i hlt;refine zEoa (fun b' hb' => .inl ⟨hlt,hb'⟩) (zEaa (fun j hj=>?_) (zxaa (fun _ hb=>hb) (fun b' hb'=>hsame b' (hbF b' hb')) (fun b' hb'=>hsame b' (s1 i b' hb').2) (r1 i hlt)));rw[zABa k1,zABa c1];have:=zEJa hlt hj;rw[k4 _ (.inl (by simp only; omega))]
    ·rename_i hge;have hi2:i-y.length<y'.length:=by omega
     refine zEoa (fun b' hb' => .inr ⟨by omega,hb'⟩) (zEaa (fun j hj=>?_) (zxaa (fun _ hb=>hb) (fun b' hb'=>hsame b' (hbF b' hb')) (fun b' hb'=>hsame b' (fun hc=>h12 b p1 (hc ▸ s2 _ b' hb'))) (r2 (i-y.length) hi2)));have:=zEJa hi2 hj;have e1:k+i*t.size+j=k+y.length*t.size+((i-y.length)*t.size+j):=by
      have:i*t.size=y.length*t.size+(i-y.length)*t.size:=by rw[←Nat.add_mul]; congr 1; omega
      omega
     rw[zABa k1,e1,k3 _ (by rw[hnl]; exact this)]
 ·have hgrow:cap<y.length+y'.length:=by omega
  have hfit:Builtin.nextslicecap (y.length+y'.length) cap*i'.bytes≤281474976710656:=growslice_fits hgrow (by
   have:(y.length+y'.length)*i'.bytes≤4294967296*4096:=Nat.mul_le_mul hle j3;omega)
  have key:∃olds:List Value,olds.length=y.length*t.size∧(Builtin.firstCells i'.size y.length (.slice A y.length cap)).run P w.drew = .ok olds.toArray w.drew∧∃fs1:Nat→Blks,Disj fs1∧(∀i b,fs1 i b→f1 b) ∧
    ∀i,i<y.length→rep F w t m (y.getD i t.dflt) (fun j=>olds.getD (i*t.size+j) undef) (fs1 i):=by
   cases A with
   |none =>
    have hc0:=q4 rfl;have hy0:y=[]:=List.eq_nil_of_length_eq_zero (by omega);subst hy0;exact ⟨[],by simp,run_firstCells_none w.drew _ _ _ _,fun _=>none',⟨fun _ _ _ _ hb=>hb.elim⟩,fun _ _ hb=>hb.elim,fun i hi=>by simp at hi⟩
   |some A =>
    by_cases hc0:cap=0
    ·have hy0:y=[]:=List.eq_nil_of_length_eq_zero (by omega);subst hy0;exact ⟨[],by simp,run_firstCells_some w.drew _ _ _ _ _ [] (by simp) (fun j v hj=>by simp at hj),fun _=>none',⟨fun _ _ _ _ hb=>hb.elim⟩,fun _ _ hb=>hb.elim,fun i hi=>by simp at hi⟩
    obtain ⟨hsp,p1,p2,fs1,d1,s1,r1⟩:=q5 A rfl
    replace hsp:=hsp (by omega)
    obtain ⟨b,k,sp⟩:=A;simp only at hsp;subst hsp;simp only at p1 p2 s1 r1;refine ⟨rowL (rowW w b k) (y.length*t.size),zbDa,?_,fs1,d1,fun i b hb=>(s1 i b hb).1,fun i hi=>zEaa (fun j hj=>?_) (r1 i hi)⟩
    ·rw[j2];refine run_firstCells_some w.drew _ _ _ _ _ _ zbDa fun j v hj=>?_
     obtain ⟨hj',rfl⟩:=zZua hj;rw[World.cell?_drew,zSfa,zZla p2 (by
      have:y.length*t.size≤cap*t.size:=Nat.mul_le_mul_right _ q2;omega),←zWba]
    ·rw[zsPa (zEJa hi hj),zWba w b k,zWba w b (k+i*t.size),Nat.add_assoc]
  obtain ⟨olds,ol,hold,fs1,d1,s1,r1⟩:=key;have hrun:=run_append_grow_src (P:=P) w T U ty et i' z' g1 j1 j4 A y.length cap olds hold x y'.length news hsrc hgrow (by omega) hfit;have hgc:=grownCap_ge w (y.length+y'.length) cap et;have hmx:=grownCap_le_maxLen w (y.length+y'.length) cap et (by unfold maxLen; omega);generalize hcsd:(olds++news).toArray++Builtin.zeroCells z'.cells (grownCap w (y.length+y'.length) cap et-(y.length+y'.length))=cs at hrun;have hcs:cs.size=grownCap w (y.length+y'.length) cap et*t.size:=by
   rw[←hcsd];have:(Builtin.zeroCells z'.cells (grownCap w (y.length+y'.length) cap et-(y.length+y'.length))).size=(grownCap w (y.length+y'.length) cap et-(y.length+y'.length))*t.size:=by
    simp[Builtin.zeroCells,j6,zeba]
   simp only[Array.size_append,this,List.size_toArray,List.length_append,ol,hnl];rw[←Nat.add_mul,←Nat.add_mul]
   congr 1
   omega
  have hget1:∀q,q<y.length*t.size→cs.getD q undef=olds.getD q undef:=by
   intro q hq;rw[←hcsd];simp only[Array.getD_eq_getD_getElem?,List.getD_eq_getElem?_getD];rw[Array.getElem?_append_left (by simp[ol]; omega)];simp only[List.getElem?_toArray];rw[List.getElem?_append_left (by rw[ol]; exact hq)]
  have hget2:∀q,q<y'.length*t.size→cs.getD (y.length*t.size+q) undef=news.getD q undef:=by
   intro q hq;rw[←hcsd];simp only[Array.getD_eq_getD_getElem?,List.getD_eq_getElem?_getD];rw[Array.getElem?_append_left (by simp[ol,hnl]; omega)];simp only[List.getElem?_toArray];rw[List.getElem?_append_right (by rw[ol]; omega),ol,Nat.add_sub_cancel_left]
  have hnew:=zYoa (w:=w.drew) (ob := .cells cs et);have hold':∀b,b<w.heap.size→Same w (w.drew.alloc (.cells cs et)) b:=fun b hb=>zPda (w:=w.drew) hb
  have hrr:=zJRa (F:=F) (w':=w.drew.alloc (.cells cs et)) (et:=et) (t:=t) (m:=m) (z:=y++y') (fs:=fun i b'=>(i<y.length∧fs1 i b')∨(y.length≤i∧fs2 (i-y.length) b')) hnew rfl hcs (by rw[List.length_append]; exact hgc) hmx
   ⟨fun i j hij b' hb hb'=>by
    rcases hb with ⟨u1,hb⟩|⟨u1,hb⟩<;>rcases hb' with ⟨u2,hb'⟩|⟨u2,hb'⟩
    ·exact d1.disj i j hij b' hb hb'
    ·exact h12 b' (s1 i b' hb) (s2 _ b' hb')
    ·exact h12 b' (s1 j b' hb') (s2 _ b' hb)
    ·exact d2.disj _ _ (by omega) b' hb hb'⟩
   (fun i b' hb' hc=>by
    have:b'<w.heap.size:=by
     rcases hb' with ⟨_,hb'⟩|⟨_,hb'⟩
     ·exact hS.flH _ (h1 _ (s1 _ _ hb'))
     ·exact hS.flH _ (h2 _ (s2 _ _ hb'))
    exact absurd hc (Nat.ne_of_lt this))
   (fun i hi=>by
    rw[List.length_append]at hi;rw[zzFa];split
    ·rename_i hlt;refine zEoa (fun b' hb' => .inl ⟨hlt,hb'⟩) (zEaa (fun j hj=>(hget1 _ (zEJa hlt hj)).symm) (zxaa (fun _ hb=>hb) (fun b' hb'=>hold' b' (hS.inF b' hb')) (fun b' hb'=>hold' b' (hS.flH _ (h1 _ (s1 _ _ hb')))) (r1 i hlt)))
    ·rename_i hge;have hi2:i-y.length<y'.length:=by omega
     refine zEoa (fun b' hb' => .inr ⟨by omega,hb'⟩) (zEaa (fun j hj=>?_) (zxaa (fun _ hb=>hb) (fun b' hb'=>hold' b' (hS.inF b' hb')) (fun b' hb'=>hold' b' (hS.flH _ (h2 _ (s2 _ _ hb')))) (r2 (i-y.length) hi2)));have e1:i*t.size+j=y.length*t.size+((i-y.length)*t.size+j):=by
      have:i*t.size=y.length*t.size+(i-y.length)*t.size:=by rw[←Nat.add_mul]; congr 1; omega
      omega
     rw[e1,hget2 _ (zEJa hi2 hj)])
  rw[List.length_append]at hrr;refine ⟨_,_,_,_,by rw[hve]; exact hrun,hS.push (fun b hb=>zPda (w:=w.drew) hb) (World.size_alloc w.drew _) rfl ⟨rfl,rfl,rfl⟩,zbQa,hrr,fun b hb=>?_⟩;rcases hb with hb|⟨i,⟨_,hb⟩|⟨_,hb⟩⟩
  ·exact .inr hb
  ·exact .inl (h1 _ (s1 _ _ hb))
  ·exact .inl (h2 _ (s2 _ _ hb))
end
end Go.Trm
namespace Go.Trm
theorem zrXa {F:Blks} {w:World}:∀ {t:Ty} {m:Md} {x:t.I} {c:Cells} {fq:Blks},t.flat=true→m.noJ=true→rep F w t m x c fq→rep F w t .s x c none':=by
 intro t
 induction t with
 |sl e t ih=>intro m x c fq h; cases h
 |ptr e t ih=>intro m x c fq h; cases h
 |pair a b iha ihb =>
  intro m x c fq h hm hr;simp only[Ty.flat,Bool.and_eq_true]at h;obtain ⟨fa,fb,h1,h2,h3,ra,rb⟩:=zaka hr;have hm':m.fst.noJ=true∧m.snd.noJ=true:=by
   cases m<;>simp only[Md.noJ,Md.fst,Md.snd,Bool.and_eq_true,Bool.false_eq_true]at hm ⊢<;>first|exact ⟨trivial,trivial⟩|exact hm|exact ⟨hm,hm⟩
  simp only[rep,Md.fst,Md.snd];exact ⟨_,_,fun _ h=>h,fun _ h=>h,fun _ h=>h.elim,iha h.1 hm'.1 ra,ihb h.2 hm'.2 rb⟩
 |arr n t ih =>
  intro m x c fq h hm hr;have hm':m.el.noJ=true:=by
   cases m<;>first|exact hm|cases hm
  have hj':m ≠ .j:=by rintro rfl; simp[Md.noJ]at hm
  have key:List.length (x:List t.I)=n∧∃fs:Nat→Blks,∀i,i<n→rep F w t m.el (List.getD (x:List t.I) i t.dflt) (fun j=>c (i*t.size+j)) (fs i):=by
   cases m with
   |j=>exact absurd rfl hj'
   |_=>simp only[rep]at hr; obtain ⟨hn,fs,_,h2,r⟩:=hr; exact ⟨hn,fs,r⟩
  obtain ⟨hn,fs,r⟩:=key;simp only[rep,Md.el];exact ⟨hn,fun _ _=>False,⟨fun _ _ _ _ h=>h.elim⟩,fun _ _ h=>h.elim,fun i hi=>ih h hm' (r i hi)⟩
 |_=>intro m x c fq h hm hr; cases m<;>simp only[rep]at hr ⊢<;>first|exact hr|cases hm
section
variable {P:Program} {env:Env} {e:Entry} {F:Blks} {w:World} {st:St} {V:Nat→Value} {fp:Nat→Blks} {fl:Blks} {a:Act} {o:Oper} {R:Type} {K:Unit→St→Option R} {res:R} {C:Cx R} {gh:Nat→Value} {next:Act→World→Prop} {Q:Exit→Act→World→Prop}
theorem zoRa {U:TypeId} {et:TypeId} {t:Ty} {mu m:Md} {y:List t.I} {val:Value} {fq:Blks} (hU:P.underlying U=some (.slice et)) (hv:isV (.sl et t) val) (hrep:rep F w (.sl et t) mu y (cv val) fq) (hnj:mu.noJ=true)
  (hel:∀(x:t.I) (c:Cells) (f:Blks),rep F w t mu.el x c f→rep F w t m x c f):zGTa P F w t m U val y fq:=by
 have hval:=zTTa hv;have hnil:∀cap,cv val 0 = .slice none y.length cap→y=[]→zGTa P F w t m U val y fq:=by
  rintro cap h rfl
  refine ⟨[],?_,fun _=>none',⟨fun _ _ _ _ hb=>hb.elim⟩,fun _ _ hb=>hb.elim,fun i hi=>by simp at hi⟩;rw[hval,h];exact Src.ofNil w hU cap
 have hnil2:∀A cap,cv val 0 = .slice (some A) y.length cap→y=[]→zGTa P F w t m U val y fq:=by
  rintro A cap h rfl
  refine ⟨[],?_,fun _=>none',⟨fun _ _ _ _ hb=>hb.elim⟩,fun _ _ hb=>hb.elim,fun i hi=>by simp at hi⟩;rw[hval,h];exact Src.ofSlice w hU A 0 cap [] (by simp) (fun j u hj=>by simp at hj) (fun u hu=>by simp at hu)
 have hsome:∀(b k cap:Nat) (wr:Bool) (fs:Nat→Blks),cv val 0 = .slice (some ⟨b,k,none⟩) y.length cap→(y.length*t.size=0∨zTga w b (k+y.length*t.size) wr)→Disj fs→(∀i b,fs i b→fq b) →
   (∀i,i<y.length→rep F w t mu.el (y.getD i t.dflt) (rowW w b (k+i*t.size)) (fs i))→zGTa P F w t m U val y fq:=by
  intro b k cap wr fs h hh hd hs hr;have hnj':mu.el.noJ=true:=by cases mu<;>first|exact hnj|cases hnj
  refine ⟨rowL (rowW w b k) (y.length*t.size),?_,fs,hd,hs,fun i hi=>hel _ _ _ (zEaa (fun j hj=>?_) (hr i hi))⟩
  ·rw[hval,h];refine Src.ofSlice w hU _ _ _ _ zbDa (fun j u hj=>?_) (fun u hu=>?_)
   ·obtain ⟨hj',rfl⟩:=zZua hj;rcases hh with hh|hh
    ·omega
    ·rw[zSfa,zZla hh (by omega),←zWba]
   ·obtain ⟨j,hj⟩:=List.mem_iff_getElem?.1 hu;obtain ⟨hj',rfl⟩:=zZua hj;have hs0:0<t.size:=by
     rcases Nat.eq_zero_or_pos t.size with h0|h0
     ·rw[h0]at hj'; simp at hj'
     ·exact h0
    have h1:j/t.size<y.length:=Nat.div_lt_of_lt_mul (by rwa [Nat.mul_comm]);have h2:=zaUa (hr _ h1) hnj' (j%t.size) (Nat.mod_lt _ hs0);rw[zWba,Nat.add_assoc,Nat.mul_comm,Nat.div_add_mod,←zWba]at h2;exact h2
  ·rw[zsPa (zEJa hi hj),zWba w b k,zWba w b (k+i*t.size),Nat.add_assoc]
 cases mu with
 |j=>cases hnj
 |p _ _ =>
  simp only[rep]at hrep;obtain ⟨A,cap,q1,q2,q3,q4,q5⟩:=hrep;cases A with
  |none=>exact hnil cap q1 (List.eq_nil_of_length_eq_zero (by have:=q4 rfl; omega))
  |some A=>exact (q5 A rfl).2.elim
 |s =>
  simp only[rep]at hrep;obtain ⟨A,cap,q1,q2,q3,q4,q5⟩:=hrep;cases A with
  |none=>exact hnil cap q1 (List.eq_nil_of_length_eq_zero (by have:=q4 rfl; omega))
  |some A =>
   obtain ⟨hsp,q6,q7⟩:=q5 A rfl;by_cases hc0:cap=0
   ·exact hnil2 A cap q1 (List.eq_nil_of_length_eq_zero (by omega))
   replace hsp:=hsp (by omega)
   obtain ⟨b,k,sp⟩:=A;simp only at hsp;subst hsp;exact hsome b k cap false (fun _=>none') q1 (q6.imp id (·.2)) ⟨fun _ _ _ _ hb=>hb.elim⟩ (fun _ _ hb=>hb.elim) q7
 |o mm =>
  simp only[rep]at hrep;obtain ⟨A,cap,q1,q2,q3,q4,q5⟩:=hrep;cases A with
  |none=>exact hnil cap q1 (List.eq_nil_of_length_eq_zero (by have:=q4 rfl; omega))
  |some A =>
   obtain ⟨hsp,q6,q7,fs,q8,q9,q10⟩:=q5 A rfl;by_cases hc0:cap=0
   ·exact hnil2 A cap q1 (List.eq_nil_of_length_eq_zero (by omega))
   replace hsp:=hsp (by omega)
   obtain ⟨b,k,sp⟩:=A;simp only at hsp;subst hsp;refine hsome b k cap false fs q1 (.inr ?_) q8 (fun i b hb=>(q9 i b hb).1) q10;obtain ⟨cs,el,fz,z1,z2,_⟩:=q7;have:y.length*t.size≤cap*t.size:=Nat.mul_le_mul_right _ q2;exact ⟨cs,el,fz,z1,by simp only at z2; omega,nofun⟩
theorem zqYa {U:TypeId} {m:Md} {y:List UInt8} (hU:P.underlying U=some .string):zGTa P F w (.int .u8) m U (.string ⟨y.toArray⟩) (nums y) none':=by
 have hs:=Src.ofString (P:=P) w hU ⟨y.toArray⟩;rw[zCKa]at hs;have hl:(nums y).length=y.length:=by simp[nums]
 rw[←hl]at hs;refine ⟨byteCells ⟨y.toArray⟩,hs,fun _=>none',⟨fun _ _ _ _ hb=>hb.elim⟩,fun _ _ hb=>hb.elim,fun i hi=>?_⟩;have hi':i<y.length:=by rw[←hl]; exact hi
 have e1:(byteCells ⟨y.toArray⟩).getD (i*Ty.size (.int .u8)+0) undef = .int .u8 ((nums y).getD i (0:Int)):=by
  simp[byteCells,nums,Ty.size,List.getD,hi']
 have:((nums y).getD i (0:Int))=((y.getD i 0).toNat:Int):=by simp[nums,List.getD,hi']
 have h4:((y.getD i (0:UInt8)).toNat)<256:=UInt8.toNat_lt _;have e3:IntKind.u8.min=0:=by decide
 have e4:IntKind.u8.max=255:=by decide
 have h5:IntKind.u8.has ((nums y).getD i (0:Int)):=by
  rw[this];constructor
  ·rw[e3]; omega
  ·rw[e4]; omega
 cases m with
 |j=>exact rep_j
 |_=>simp only[rep]; exact ⟨e1,h5⟩
theorem zsXa {α:Type} {Kk:α→St→Option R} {U:TypeId} {z:Operand} {et:TypeId} {t:Ty} {m:Md} {k:List t.I→RM α} (hE:EnvTy P env) (hS:SR e F w st V fp fl) (hA:AR env gh a V) (hm:m.noJ=true) (h:(zz0a env U z et t m k).run C st Kk=some res) :
  ∃y st' fp' fl' fq F',(k y).run C st' Kk=some res∧SR e F' w st' V fp' fl'∧(∀b,F b→F' b)∧zGTa P F' w t m U (a.eval z) y fq∧(∀b,fq b→fl' b)∧(∀b,fl b→fl' b)∧(∀b,fq b→¬fl b):=by
 unfold zz0a at h;obtain ⟨u,mu,y,src,h1,hd,_⟩:=zhja hS hA h;obtain ⟨hv,hmu,fq0,hrep,hfq⟩:=hd.rep hS;cases u with
 |sl e' u =>
  dsimp only at h1;split at h1
  ·rename_i y' hT hc;obtain ⟨eu,hy⟩:=zdca hc;cases eu;simp only at hy;subst hy;have hU:=(wt_sl (Env.is_ok hE hT)).1;have hnone:∀ {mm:Md},(∀(x:t.I) (c:Cells) (f:Blks),rep F w t mu.el x c f→rep F w t mm x c none')→mu.noJ=true→zGTa P F w t mm U (a.eval z) y none':=by
    intro mm hel hnj;obtain ⟨news,hsrc,fs,b1,b2,b3⟩:=(zoRa (m:=mu.el) hU hv hrep hnj (fun _ _ _ h=>h)).ex;exact ⟨news,hsrc,fun _=>none',⟨fun _ _ _ _ hb=>hb.elim⟩,fun _ _ hb=>hb.elim,fun i hi=>hel _ _ _ (b3 i hi)⟩
   split at h1
   ·split at h1
    ·exact ⟨y,st,fp,fl,none',F,h1,hS,fun _ hb=>hb,hnone (fun _ _ _ h=>rep_s h) rfl,fun _ hb=>hb.elim,fun _ hb=>hb,fun _ hb=>hb.elim⟩
    ·exact ⟨y,st,fp,fl,none',F,h1,hS,fun _ hb=>hb,hnone (fun _ _ _ h=>rep_s h) rfl,fun _ hb=>hb.elim,fun _ hb=>hb,fun _ hb=>hb.elim⟩
    ·split at h1
     ·rename_i hf;simp only[Bool.and_eq_true]at hf;have hnj':mu.el.noJ=true:=by
       have:=hf.2;cases mu<;>first|exact this|cases this
      exact ⟨y,st,fp,fl,none',F,h1,hS,fun _ hb=>hb,hnone (fun _ _ _ h=>zrXa hf.1 hnj' h) hf.2,fun _ hb=>hb.elim,fun _ hb=>hb,fun _ hb=>hb.elim⟩
     ·split at h1
      ·rename_i q hnj;obtain ⟨st1,fp1,F1,h2,hS1,hF1,hv1,hrep1⟩:=zbua hS hd nofun h1;exact ⟨y,st1,fp1,fl,none',F1,h2,hS1,hF1,zoRa hU hv1 hrep1 rfl (fun _ _ _ h=>rep_s h),fun _ hb=>hb.elim,fun _ hb=>hb,fun _ hb=>hb.elim⟩
      ·simp[RM.run]at h1
   ·split at h1
    ·rename_i mu';split at h1
     ·rename_i he;obtain ⟨st1,fp1,fq,F1,h2,hS1,hF1,hv1,hm1,hrep1,hfl,_⟩:=zZJa (m' := .o m) hS hd he h1;exact ⟨y,st1,fp1,_,fq,F1,h2,hS1,hF1,zoRa hU hv1 hrep1 hm (fun _ _ _ h=>h),fun _ hb => .inr hb,fun _ hb => .inl hb,hfl⟩
     ·simp[RM.run]at h1
    ·simp[RM.run]at h1
  ·simp[RM.run]at h1
 |str =>
  dsimp only at h1;split at h1
  ·rename_i y' hT hc;obtain ⟨eu,hy⟩:=zdca hc;cases eu;simp only at hy;subst hy;have hval:=(zxHa hv hmu hrep).1;exact ⟨nums y,st,fp,fl,none',F,h1,hS,fun _ hb=>hb,by rw[hval]; exact zqYa (zgPa (Env.is_ok hE hT)),fun _ hb=>hb.elim,fun _ hb=>hb,fun _ hb=>hb.elim⟩
  ·simp[RM.run]at h1
 |_=>simp[RM.run]at h1
theorem zF2a {α:Type} {Kk:α→St→Option R} {st1:St} {fp1:Nat→Blks} {fl1:Blks} {val:Value} {t:Ty} {m:Md} {y:t.I} {src:Src} {k:RM α} {f1:Blks} (hS:SR e F w st V fp fl) (hd:DataX F w st V val t m y src) (hS1:SR e F w st1 V fp1 fl1) (hrep:rep F w t m y (cv val) f1)
  (h:(hdr src t y k).run C st1 Kk=some res):∃st2 fp2,k.run C st2 Kk=some res∧SR e F w st2 V fp2 fl1:=by
 unfold hdr at h;split at h
 ·rename_i r p;split at h
  ·split at h
   ·rename_i et u y;simp only[setS,RM.run]at h;obtain ⟨hm,t0,m0,x0,h1,h2,h3,h4,c',ad,h5,h6⟩:=hd;simp only[rs,Option.some.injEq,Prod.mk.injEq]at h5;simp only[getP,Option.some.injEq]at h2;cases h2;obtain ⟨_,hc',_⟩:=h5;have hsv:=hS.sv r;rw[h1]at hsv;have hVr:V r=val:=by
     rw[h6,←eq_of_heq (heq_of_eq hc')];exact hsv.1 hm
    rw[←hVr]at hrep;have hgen:∀us:List (Ty.I .unit),us.length=List.length (y:List u.I)→rep F w (.sl et .unit) .s us (cv (V r)) (fun _=>False):=by
     intro us hus;cases m with
     |j=>exact absurd rfl hm
     |p a b =>
      simp only[rep]at hrep ⊢;obtain ⟨A,cap,q1,q2,q3,q4,q5⟩:=hrep;exact ⟨A,cap,by rw[hus]; exact q1,by rw[hus]; exact q2,q3,q4,fun a ha=>(q5 a ha).2.elim⟩
     |s =>
      simp only[rep]at hrep ⊢;obtain ⟨A,cap,q1,q2,q3,q4,q5⟩:=hrep;exact ⟨A,cap,by rw[hus]; exact q1,by rw[hus]; exact q2,q3,q4,fun a ha=>⟨(q5 a ha).1,.inl (by simp[Ty.size]),fun i _=>trivial⟩⟩
     |o m1 =>
      simp only[rep]at hrep ⊢;obtain ⟨A,cap,q1,q2,q3,q4,q5⟩:=hrep;exact ⟨A,cap,by rw[hus]; exact q1,by rw[hus]; exact q2,q3,q4,fun a ha=>⟨(q5 a ha).1,.inl (by simp[Ty.size]),fun i _=>trivial⟩⟩
    have hrep2:rep F w (.sl et .unit) .s (List.map (fun _=>()) (y:List u.I)) (cv (V r)) (fun _=>False):=hgen _ (List.length_map _);have hS2:=hS1.fillV (d:=r) (v:=V r) (fq:=fun _=>False) (fl':=fl1) (fun _=>rfl) (fun _=>(show isV (.sl et .unit) (V r) from hsv.1 hm)) hrep2 (fun _ hb=>hb.elim) (fun b hb=>⟨hb,fun h=>h⟩);rw[znEa]at hS2;exact ⟨_,_,h,hS2⟩
   ·exact ⟨st1,fp1,h,hS1⟩
  ·exact ⟨st1,fp1,h,hS1⟩
 ·exact ⟨st1,fp1,h,hS1⟩
theorem za1a {α:Type} {Kk:α→St→Option R} {st1:St} {fp1:Nat→Blks} {fl1:Blks} {val:Value} {t:Ty} {m:Md} {y:t.I} {src:Src} {k:RM α} {f1:Blks} {sv:SV} (hS:SR e F w st V fp fl) (hd:(∀r p l h,sv ≠ .sub r p l h)→DataX F w st V val t m y src) (hS1:SR e F w st1 V fp1 fl1) (hrep:rep F w t m y (cv val) f1)
  (h:(hdrV sv src t y k).run C st1 Kk=some res):∃st2 fp2,k.run C st2 Kk=some res∧SR e F w st2 V fp2 fl1:=by
 unfold hdrV at h;split at h
 ·exact ⟨st1,fp1,h,hS1⟩
 ·rename_i hn;exact zF2a hS (hd hn) hS1 hrep h
theorem zRYa {T U:TypeId} {x z:Operand} {c:Call} (hE:EnvTy P env) (ho:o.op = .call c) (hc:c.callee = .builtin .append) (h1:c.args.toList=[x,z]) (h2:c.argTypes.toList=[T,U]) (hS:SR e F w st V fp none') (hA:AR env gh a V) (hN:Nxt env gh e K res next)
  (h:(evB env o .append [x,z] [T,U]).run C st K=some res):o.wp P a w next Q:=by
 have e1:c.args=#[x,z]:=by apply Array.ext'; rw[h1]
 have e2:c.argTypes=#[T,U]:=by apply Array.ext'; rw[h2]
 have hrun:∀v w',(Builtin.append_ #[T,U] o.type #[a.eval x,a.eval z]).run P w = .ok v w'→(execOp a.eval o).run P w = .ok (.value v) w':=by
  intro v w' hv;simp only[execOp,ho,resolve,hc,e1,e2,Sem.run_bind,Sem.run_pure,Result.andThen_ok,invoke,builtin,List.map_toArray,List.map_cons,List.map_nil,hv]
 simp only[evB]at h;obtain ⟨sv,h,hx⟩:=zmfa h;obtain ⟨t,m,y,src,h1,hd,_,hdx⟩:=zaWa hS hA hx h;obtain ⟨st0,fp0,f1,h2,hS0,hv,hm,hrep,hfl,_⟩:=zAsa hS hd h1;obtain ⟨st1,fp1,h2',hS1⟩:=za1a hS hdx hS0 hrep h2;clear h2;revert h2';intro h2;split at h2
 ·rename_i et u m' y;split at h2
  ·rename_i hT;simp only[Bool.and_eq_true]at hT;obtain ⟨y',st2,fp2,fl2,f2,F2,h3,hS2,hF2,hb,b1,b2,b3⟩:=zsXa hE hS1 hA hT.2 h2;have hrep:=zxaa hF2 (fun _ _=>rfl) (fun _ _=>rfl) hrep;simp only[RM.run]at h3;cases hq:decide (List.length y+List.length y'≤most) with
   |false=>rw[hq]at h3; cases h3
   |true =>
    rw[hq]at h3;obtain ⟨v',w',fl',fq,k1,k2,k3,k4,k5⟩:=zAZa (ty:=o.type) (Env.is_ok hE hT.1) hS2 hv hrep hb (fun b hb=>b2 b (.inr hb)) b1 (fun b hb hc=>b3 b hc (.inr hb)) (of_decide_eq_true hq);exact endV k2 hA hN h3 (fun _=>k3) k4 k5 (hrun _ _ k1)
  ·simp[RM.run]at h2
 ·simp[RM.run]at h2
theorem zsVa {α:Type} {Kk:α→St→Option R} {f:Int→Int→Int} {g:Value→Value→Sem Value} {kd:IntKind} (hf:∀x y,f x y=x∨f x y=y) (hg:∀w x y,(g (.int kd x) (.int kd y)).run P w = .ok (.int kd (f x y)) w) (hS:SR e F w st V fp fl) (hA:AR env gh a V) :
  ∀ {xs:List Operand} {n:Int} {k:Int→RM α},kd.has n→(foldI env f kd xs n k).run C st Kk=some res→∃z,(k z).run C st Kk=some res∧kd.has z∧∀w,((xs.map a.eval).foldlM g (.int kd n)).run P w = .ok (.int kd z) w
 |[],n,k,hn,h=>⟨n,h,hn,fun _=>rfl⟩
 |x::xs,n,k,hn,h=>by
  simp only[foldI]at h;obtain ⟨kd',y,h1,e1,r1⟩:=zkma hS hA h;split at h1
  ·rename_i hk;have:=zQXa hk;subst this;obtain ⟨z,k1,k2,k3⟩:=zsVa hf hg hS hA (by rcases hf n y with hh|hh<;>rw[hh]<;>assumption) h1;refine ⟨z,k1,k2,fun w=>?_⟩;simp only[List.map_cons,List.foldlM_cons,Sem.run_bind,e1,hg,Result.andThen_ok];exact k3 w
  ·simp[RM.run]at h1
theorem zd2a {xs:List Operand} {x:Operand} {c:Call} (ho:o.op = .call c) (hc:c.callee = .builtin .min) (h1:c.args.toList=x::xs) (hS:SR e F w st V fp none') (hA:AR env gh a V) (hN:Nxt env gh e K res next)
  (h:(evB env o .min (x::xs) c.argTypes.toList).run C st K=some res):wpp P o a w next:=by
 have e1:c.args=(x::xs).toArray:=by apply Array.ext'; rw[h1]
 simp only[evB]at h;obtain ⟨kd,y,h1,e2,r1⟩:=zkma hS hA h;obtain ⟨z,k1,k2,k3⟩:=zsVa (P:=P) (g:=Builtin.min2) (fun x y=>by show (if y<x then y else x)=x∨(if y<x then y else x)=y; split<;>simp) (fun w x y=>rfl) hS hA r1 h1;refine endVp (v := .int kd z) hS hA hN k1 (fun _=>rfl) (zora k2) (fun _ hb=>hb) ?_;intro w;simp only[execOp,ho,resolve,hc,e1,Sem.run_bind,Sem.run_pure,Result.andThen_ok,invoke,builtin,List.map_toArray,List.map_cons,Builtin.min_,e2,k3]
theorem ze2a {xs:List Operand} {x:Operand} {c:Call} (ho:o.op = .call c) (hc:c.callee = .builtin .max) (h1:c.args.toList=x::xs) (hS:SR e F w st V fp none') (hA:AR env gh a V) (hN:Nxt env gh e K res next)
  (h:(evB env o .max (x::xs) c.argTypes.toList).run C st K=some res):wpp P o a w next:=by
 have e1:c.args=(x::xs).toArray:=by apply Array.ext'; rw[h1]
 simp only[evB]at h;obtain ⟨kd,y,h1,e2,r1⟩:=zkma hS hA h;obtain ⟨z,k1,k2,k3⟩:=zsVa (P:=P) (g:=Builtin.max2) (fun x y=>by show (if y>x then y else x)=x∨(if y>x then y else x)=y; split<;>simp) (fun w x y=>rfl) hS hA r1 h1;refine endVp (v := .int kd z) hS hA hN k1 (fun _=>rfl) (zora k2) (fun _ hb=>hb) ?_;intro w;simp only[execOp,ho,resolve,hc,e1,Sem.run_bind,Sem.run_pure,Result.andThen_ok,invoke,builtin,List.map_toArray,List.map_cons,Builtin.max_,e2,k3]
end
end Go.Trm
