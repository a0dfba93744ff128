import Derived.Test.YtjjoacepbndhhaaGreatTrmOps14
import Derived.Conc.MuLone
import Derived.Orders
set_option linter.unusedVariables false
set_option linter.unusedSimpArgs false
namespace Go.Trm
def ArgsR (F:Blks) (w:World):(ks:List PK)→DI ks→List Value→(Nat→Blks)→Prop
 |[],_,vs,_=>vs=[]
 | .val t m::ks,d,vs,fps=>∃v vs',vs=v::vs'∧isV t v∧m ≠ .j∧rep F w t m d.1 (cv v) (fps 0)∧ArgsR F w ks d.2 vs' (fun i=>fps (i+1))
 | .fn f::ks,d,vs,fps=>∃v vs',vs=v::vs'∧v = .func (.func f) #[] #[]∧ArgsR F w ks d.2 vs' (fun i=>fps (i+1))
 | .ref t m _::ks,d,vs,fps=>∃v vs',vs=v::vs'∧isV (.ptr 0 t) v∧rep F w (.ptr 0 t) (.o m) (some d.1) (cv v) (fps 0)∧ArgsR F w ks d.2 vs' (fun i=>fps (i+1))
def ResR (F:Blks) (w:World) (v:Value) (fo:Blks) (sv:SV):Prop:=svR F w (fun _ => .un) (fun _=>undef) fo v sv
def BackR (F:Blks) (w:World):(ks:List PK)→DB ks→List Value→(Nat→Blks)→Prop
 | .ref t _ m'::ks,b,v::vs,fs=>isV (.ptr 0 t) v∧rep F w (.ptr 0 t) (.o m') (some b.1) (cv v) (fs 0)∧BackR F w ks b.2 vs (fun i=>fs (i+1))
 | .val _ _::ks,b,_::vs,fs=>BackR F w ks b vs (fun i=>fs (i+1))
 | .fn _::ks,b,_::vs,fs=>BackR F w ks b vs (fun i=>fs (i+1))
 |_,_,_,_=>True
def PanR (F:Blks) (w:World) (p:PanV) (chain:List PanicEntry):Prop:=∃v,chain=[{ v,recovered:=false }]∧IfcOk F w p.T p.t p.x v
theorem PanR.mono {F F':Blks} {w:World} {p:PanV} {ch:List PanicEntry} (h:PanR F w p ch) (hF:∀b,F b→F' b):PanR F' w p ch:=by
 obtain ⟨v,h1,u,e1,e2,e3,e4⟩:=h;exact ⟨v,h1,u,e1,e2,e3,zxaa hF (fun _ _=>rfl) (fun _ hb=>hb.elim) e4⟩
structure Holds (P:Program) (f:FuncId) (c:CSpec):Prop where
 fn:∃fn code,P.funcs[f]?=some fn∧(fn.name == "runtime.NumGoroutine")=false∧fn.body=some code
 calls:∀(F:Blks) (w:World) (d:DI c.ins) (vs:List Value) (fps:Nat→Blks) (R:Type) (K:DR c.outs→DB c.ins→Option R) (Kp:PI c.pan→DB c.ins→Option R) (res:R),
  GlOk P F w→(∀b,F b→b<w.heap.size)→Disj fps→(∀i b,fps i b→¬F b∧b<w.heap.size)→ArgsR F w c.ins d vs fps→c.fn d K Kp=some res →
  Calls P f vs.toArray w fun e w'=>∃rb,∃F' fo:Blks,∃fb:Nat→Blks,((∃v ro,e = .returned v∧K ro rb=some res∧ResR F' w' v fo (resS c.outs ro))∨(∃ch pi,e = .panicked ch∧Kp pi rb=some res∧PanR F' w' (PI.pan c.pan pi) ch))∧(∀b,F b→F' b)∧Grew w w'∧(∀b,b<w.heap.size→(∀i,¬fps i b)→Same w w' b) ∧
   (Disj fb∧(∀i b,fb i b→¬fo b)∧BackR F' w' c.ins rb vs fb)∧(∀b,(fo b∨∃i,fb i b)→¬F' b∧b<w'.heap.size∧((∃i,fps i b)∨w.heap.size≤b))∧(∀b,F' b→b<w'.heap.size∧(F b∨(∃i,fps i b)∨w.heap.size≤b))
def EnvFn (P:Program) (env:Env):Prop:=∀f gs c,env.gam f gs=some c→Holds P f c
theorem ArgsR.mono {F F':Blks} {w:World} (hF:∀b,F b→F' b):∀ {ks:List PK} {d:DI ks} {vs:List Value} {fps:Nat→Blks},ArgsR F w ks d vs fps→ArgsR F' w ks d vs fps
 |[],_,_,_,h=>h
 | .val _ _::_,_,_,_,⟨v,vs',h1,h2,h3,h4,h5⟩=>⟨v,vs',h1,h2,h3,zxaa hF (fun _ _=>rfl) (fun _ _=>rfl) h4,h5.mono hF⟩
 | .fn _::_,_,_,_,⟨v,vs',h1,h2,h5⟩=>⟨v,vs',h1,h2,h5.mono hF⟩
 | .ref _ _ _::_,_,_,_,⟨v,vs',h1,h2,h4,h5⟩=>⟨v,vs',h1,h2,zxaa hF (fun _ _=>rfl) (fun _ _=>rfl) h4,h5.mono hF⟩
section
variable {P:Program} {env:Env} {e:Entry} {F:Blks} {w:World} {st:St} {V:Nat→Value} {fp:Nat→Blks} {fl:Blks} {a:Act} {o:Oper} {R:Type} {K:Unit→St→Option R} {res:R} {C:Cx R} {gh:Nat→Value} {next:Act→World→Prop} {Q:Exit→Act→World→Prop}
theorem zbUa {F F':Blks} {w:World}:∀ {t:Ty} {m:Md} {x:t.I} {c:Cells} {fq:Blks},clsd t m=true→rep F w t m x c fq→rep F' w t m x c fq:=by
 intro t
 induction t with
 |sl e t ih =>
  intro m x c fq h hr;cases m with
  |o m =>
   simp only[clsd]at h;simp only[rep]at hr ⊢;obtain ⟨A,cap,q1,q2,q3,q4,q5⟩:=hr;refine ⟨A,cap,q1,q2,q3,q4,fun a ha=>?_⟩;obtain ⟨p1,p2,p3,fs,p4,p5,p6⟩:=q5 a ha;exact ⟨p1,p2,p3,fs,p4,p5,fun i hi=>ih h (p6 i hi)⟩
  |_=>cases h
 |ptr e t ih =>
  intro m x c fq h hr;cases m with
  |o m =>
   simp only[clsd]at h;simp only[rep]at hr ⊢;obtain ⟨A,q1,q2⟩:=hr;refine ⟨A,q1,?_⟩;cases x with
   |none=>exact q2
   |some y =>
    obtain ⟨a,ha,p1,p2,p3,f,p4,p5⟩:=q2;exact ⟨a,ha,p1,p2,p3,f,p4,ih h p5⟩
  |_=>cases h
 |pair a b iha ihb =>
  intro m x c fq h hr;simp only[clsd,Bool.and_eq_true]at h;obtain ⟨fa,fb,h1,h2,h3,ra,rb⟩:=zaka hr;have:∃fa fb:Blks,(∀i,fa i→fq i)∧(∀i,fb i→fq i)∧(∀i,fa i→¬fb i)∧rep F' w a m.fst x.1 c fa∧rep F' w b m.snd x.2 (fun j=>c (a.size+j)) fb:=⟨fa,fb,h1,h2,h3,iha h.1 ra,ihb h.2 rb⟩
  cases m with
  |j=>exact rep_j
  |_=>simpa only[rep] using this
 |arr n t ih =>
  intro m x c fq h hr;simp only[clsd]at h;cases m with
  |j=>exact rep_j
  |_ =>
   simp only[rep]at hr ⊢;obtain ⟨hn,fs,h1,h2,r⟩:=hr;exact ⟨hn,fs,h1,h2,fun i hi=>ih h (r i hi)⟩
 |_=>intro m x c fq h hr; cases m<;>simp only[rep]at hr ⊢<;>exact hr
theorem zJVa {α:Type} {Kk:α→St→Option R} (hA:AR env gh a V) {x:Operand} {k:Nat→TypeId→RM α} (hS:SR e F w st V fp fl) (h:(refOf env x k).run C st Kk=some res) :
  ∃r T t m y,(k r T).run C st Kk=some res∧st r = .v (.ptr T t) m y∧a.eval x=V r:=by
 unfold refOf at h;obtain ⟨sv,h1,hx⟩:=zmfa h;split at h1
 ·rename_i r p;rcases hx with ⟨s,rfl,hs,h3⟩|⟨c,rfl,h3⟩|⟨f',rfl,h3⟩
  ·have hev:a.eval (.tmp s)=V (env.b+s):=hA.tmps s hs;have hsv:=hS.sv (env.b+s);rw[←h3]at hsv;split at h1
   ·simp only[RM.run]at h1;split at h1
    ·rename_i T t m y hst;refine ⟨r,T,t,m,y,h1,hst,?_⟩;obtain ⟨_,o1,o2,u,c',b,k0,o3,o4⟩:=hsv _ _ _ hst;cases m with
     |o m =>
      cases y with
      |none=>simp[inP]at o2
      |some y =>
       obtain ⟨_,_,_,u2,c2,b2,k2,q3,q4⟩:=zzYa hS hst _ _ _ hst;rw[o3]at q3;cases q3;rw[hev,o4,q4]
     |_=>simp[ownP]at o1
    ·simp[RM.run]at h1
   ·simp[RM.run]at h1
  ·unfold cst at h3; (repeat' split at h3)<;>cases h3
  ·cases h3
 ·rename_i T t m y;cases hself:self env x with
  |none=>rw[hself]at h1; simp[RM.run]at h1
  |some s =>
   rw[hself]at h1;rcases hx with ⟨s',rfl,hs,h3⟩|⟨c,rfl,h3⟩|⟨f',rfl,h3⟩
   ·cases hself;exact ⟨_,T,t,_,y,h1,h3.symm,hA.tmps _ hs⟩
   ·cases hself
   ·cases hself
 ·rename_i r p;rcases hx with ⟨s,rfl,hs,h3⟩|⟨c,rfl,h3⟩|⟨f',rfl,h3⟩
  ·have hev:a.eval (.tmp s)=V (env.b+s):=hA.tmps s hs;have hsv:=hS.sv (env.b+s);rw[←h3]at hsv;split at h1
   ·simp only[RM.run]at h1;split at h1
    ·rename_i T t m y hst;refine ⟨r,T,t,_,y,h1,hst,?_⟩;obtain ⟨_,_,u,c',ad,o3,o4⟩:=hsv _ _ _ hst;simp only[rs,Option.some.injEq,Prod.mk.injEq]at o3;obtain ⟨rfl,rfl,_⟩:=o3;have hrv:=hS.sv r;rw[hst]at hrv;rw[hev,o4];exact (hrv.1 nofun).symm
    ·simp[RM.run]at h1
   ·simp[RM.run]at h1
  ·unfold cst at h3; (repeat' split at h3)<;>cases h3
  ·cases h3
 ·simp[RM.run]at h1
theorem zsEa {α:Type} {Kk:α→St→Option R} (hA:AR env gh a V) (hS:SR e F w st V fp fl):∀ {ks:List PK} {xs:List Operand} {k:List (Option (Nat×TypeId))→RM α},(zvPa env ks xs k).run C st Kk=some res →
  ∃rs:List (Option (Nat×TypeId)),(k rs).run C st Kk=some res∧∀(i r:Nat) (T:TypeId),rs[i]?=some (some (r,T))→(xs.map a.eval)[i]?=some (V r)
 |[],xs,k,h=>⟨[],h,fun i r T hi=>by simp at hi⟩
 | .val _ _::ks,[],k,h=>by simp[zvPa,RM.run]at h
 | .fn _::ks,[],k,h=>by simp[zvPa,RM.run]at h
 | .ref _ _ _::ks,[],k,h=>by simp[zvPa,RM.run]at h
 | .val _ _::ks,x::xs,k,h=>by
  obtain ⟨rs,h1,h2⟩:=zsEa hA hS (ks:=ks) h;refine ⟨_,h1,fun i r T hi=>?_⟩;cases i with
  |zero=>simp at hi
  |succ i=>simpa using h2 i r T (by simpa using hi)
 | .fn _::ks,x::xs,k,h=>by
  obtain ⟨rs,h1,h2⟩:=zsEa hA hS (ks:=ks) h;refine ⟨_,h1,fun i r T hi=>?_⟩;cases i with
  |zero=>simp at hi
  |succ i=>simpa using h2 i r T (by simpa using hi)
 | .ref _ _ _::ks,x::xs,k,h=>by
  simp only[zvPa]at h;obtain ⟨r0,T0,t0,m0,y0,h1,_,hev⟩:=zJVa hA hS h;obtain ⟨rs,h1,h2⟩:=zsEa hA hS (ks:=ks) h1;refine ⟨_,h1,fun i r T hi=>?_⟩;cases i with
  |zero =>
   simp only[List.getElem?_cons_zero,Option.some.injEq,Prod.mk.injEq]at hi;obtain ⟨rfl,rfl⟩:=hi;simpa using hev
  |succ i=>simpa using h2 i r T (by simpa using hi)
theorem zvUa {T T':TypeId} {t:Ty} {v:Value} (h:isV (.ptr T t) v):isV (.ptr T' t) v:=h
theorem zZTa {T T':TypeId} {t:Ty} {m:Md} {x:Option t.I} {c:Cells} {fq:Blks} (h:rep F w (.ptr T t) m x c fq):rep F w (.ptr T' t) m x c fq:=by
 cases m<;>simp only[rep]at h ⊢<;>exact h
theorem zcAa {ks:List PK} {b:DB ks} {fs:Nat→Blks}:BackR F w ks b [] fs:=by
 cases ks with
 |nil=>trivial
 |cons k ks=>cases k<;>simp[BackR]
theorem zyFa {α:Type} {Kk:α→St→Option R}:∀ {ks:List PK} {b:DB ks} {rs:List (Option (Nat×TypeId))} {vs:List Value} {fb:Nat→Blks} {k:RM α} {st:St} {fp:Nat→Blks} {fl:Blks},
  SR e F w st V fp fl→BackR F w ks b vs fb→(∀(i r:Nat) (T:TypeId),rs[i]?=some (some (r,T))→vs[i]?=some (V r))→Disj fb→(∀i b,fb i b→fl b)→(backs ks b rs k).run C st Kk=some res →
  ∃st' fp',k.run C st' Kk=some res∧SR e F w st' V fp' (fun b=>fl b∧∀i,¬fb i b)
 |[],_,_,_,fb,_,st,fp,fl,hS,_,_,_,_,h=>⟨st,fp,h,hS.less fun b hb=>hb.1⟩
 | .val _ _::ks,b,[],_,_,_,_,_,_,hS,_,_,_,_,h=>by simp[backs,RM.run]at h
 | .fn _::ks,b,[],_,_,_,_,_,_,hS,_,_,_,_,h=>by simp[backs,RM.run]at h
 | .ref _ _ _::ks,b,[],_,_,_,_,_,_,hS,_,_,_,_,h=>by simp[backs,RM.run]at h
 | .ref _ _ _::ks,b,none::rs,_,_,_,_,_,_,hS,_,_,_,_,h=>by simp[backs,RM.run]at h
 | .val _ _::ks,b,r0::rs,vs,fb,k,st,fp,fl,hS,hB,hr,hd,hq,h=>by
  have hB':BackR F w ks b vs.tail (fun i=>fb (i+1)):=by
   cases vs with
   |nil=>exact zcAa
   |cons v vs=>exact hB
  obtain ⟨st',fp',h1,h2⟩:=zyFa (ks:=ks) (vs:=vs.tail) hS hB' (fun i r T hi=>by
    have:=hr (i+1) r T (by simpa using hi);cases vs with
    |nil=>simp at this
    |cons v vs=>simpa using this) ⟨fun i j hij b hb hb'=>hd.disj (i+1) (j+1) (by omega) b hb hb'⟩ (fun i b hb=>hq (i+1) b hb) h
  exact ⟨st',fp',h1,h2.less fun b hb=>⟨hb.1,fun i=>hb.2 (i+1)⟩⟩
 | .fn _::ks,b,r0::rs,vs,fb,k,st,fp,fl,hS,hB,hr,hd,hq,h=>by
  have hB':BackR F w ks b vs.tail (fun i=>fb (i+1)):=by
   cases vs with
   |nil=>exact zcAa
   |cons v vs=>exact hB
  obtain ⟨st',fp',h1,h2⟩:=zyFa (ks:=ks) (vs:=vs.tail) hS hB' (fun i r T hi=>by
    have:=hr (i+1) r T (by simpa using hi);cases vs with
    |nil=>simp at this
    |cons v vs=>simpa using this) ⟨fun i j hij b hb hb'=>hd.disj (i+1) (j+1) (by omega) b hb hb'⟩ (fun i b hb=>hq (i+1) b hb) h
  exact ⟨st',fp',h1,h2.less fun b hb=>⟨hb.1,fun i=>hb.2 (i+1)⟩⟩
 | .ref t m m'::ks,b,some (r0,T0)::rs,vs,fb,k,st,fp,fl,hS,hB,hr,hd,hq,h=>by
  have h0:=hr 0 r0 T0 rfl;cases vs with
  |nil=>simp at h0
  |cons v vs =>
   simp only[List.getElem?_cons_zero,Option.some.injEq]at h0;subst h0;obtain ⟨b1,b2,b3⟩:=hB;simp only[backs,setS,RM.run]at h;have hS1:=hS.fillV (d:=r0) (v:=V r0) (fq:=fb 0) (fl':=fun b=>fl b∧¬fb 0 b) (fun _=>rfl) (fun _=>zvUa (T':=T0) b1) (zZTa b2) (fun b hb=>hq 0 b hb) (fun b hb=>hb);rw[znEa]at hS1;obtain ⟨st',fp',h1,h2⟩:=zyFa (ks:=ks) (vs:=vs) hS1 b3 (fun i r T hi=>by
     have:=hr (i+1) r T (by simpa using hi);simpa using this) ⟨fun i j hij b hb hb'=>hd.disj (i+1) (j+1) (by omega) b hb hb'⟩ (fun i b hb=>⟨hq (i+1) b hb,fun hc=>hd.disj (i+1) 0 (by omega) b hb hc⟩) h
   exact ⟨st',fp',h1,h2.less fun b hb=>⟨⟨hb.1,hb.2 0⟩,fun i=>hb.2 (i+1)⟩⟩
theorem zdia {α:Type} {Kk:α→St→Option R} {cl:Bool} (hA:AR env gh a V):∀ {ks:List PK} {xs:List Operand} {Ts:List TypeId} {k:DI ks→List Nat→List Nat→RM α} {st:St} {fp:Nat→Blks} {fl F:Blks},
  SR e F w st V fp fl→(zuxa env cl ks xs Ts k).run C st Kk=some res →
  ∃st' fp',∃fl' F':Blks,∃d ms bs,∃fps:Nat→Blks,(k d ms bs).run C st' Kk=some res∧SR e F' w st' V fp' fl'∧(∀b,F b→F' b)∧(∀b,fl b→fl' b)∧Disj fps∧(∀i b,fps i b→fl' b∧¬fl b) ∧
   (cl=true→∀r,r ∉ ms→∀t m x,st' r = .v t m x↔st r = .v t m x)∧(cl=false→bs=[])∧ArgsR (fun b=>F' b∨∃r,r∈bs∧fp' r b) w ks d (xs.map a.eval) fps
 |[],[],Ts,k,st,fp,fl,F,hS,h=>⟨st,fp,fl,F,(),[],[],fun _=>none',h,hS,fun _ hb=>hb,fun _ hb=>hb,⟨fun _ _ _ _ hb=>hb.elim⟩,fun _ _ hb=>hb.elim,fun _ _ _ _ _ _=>Iff.rfl,fun _=>rfl,rfl⟩
 |[],x::xs,Ts,k,st,fp,fl,F,hS,h=>by simp[zuxa,RM.run]at h
 | .val t m::ks,[],Ts,k,st,fp,fl,F,hS,h=>by simp[zuxa,RM.run]at h
 | .fn f::ks,[],Ts,k,st,fp,fl,F,hS,h=>by simp[zuxa,RM.run]at h
 | .ref _ _ _::ks,[],Ts,k,st,fp,fl,F,hS,h=>by simp[zuxa,RM.run]at h
 | .ref t m mb::ks,x::xs,Ts,k,st,fp,fl,F,hS,h=>by
  simp only[zuxa]at h;obtain ⟨r,T,t0,m0,y0,h1,hst,hev⟩:=zJVa hA hS h;simp only[RM.run,hst]at h1;cases y0 with
  |none=>simp[RM.run]at h1
  |some c =>
   simp only at h1;split at h1
   ·rename_i c' hc he;obtain ⟨eu,hy'⟩:=zdca hc;subst eu;simp only at hy';subst hy';have hm0:m0 ≠ .j:=fun hc=>by subst hc; cases he
    have hdx:DataX F w st V (a.eval x) (.ptr T t0) m0 (some c) (some (r,[])):=by
     refine ⟨hm0,_,_,_,hst,rfl,by simp[ownP],by simp[inP],cv (V r),none,by simp[rs],?_⟩;have hsv:=hS.sv r;rw[hst]at hsv;rw[hev];exact hsv.1 hm0
    obtain ⟨st1,fp1,fq,F1,h2,hS1,hF1,hv1,hm1,hrep1,hfl,hiff⟩:=zZJa (m' := .o m) hS hdx.at he h1;obtain ⟨st',fp',fl',F',d,ms,bs,fps,k1,k2,k3,k4,k5,k6,k7,k8,k9⟩:=zdia hA hS1 h2;have hrep2:rep F1 w (.ptr 0 t0) (.o m) (some c) (cv (a.eval x)) fq:=zZTa hrep1;refine ⟨st',fp',fl',F',(c,d),r::ms,bs,fun i=>match i with|0=>fq|i+1=>fps i,k1,k2,fun b hb=>k3 b (hF1 b hb),fun b hb=>k4 b (.inl hb),⟨fun i j hij b hb hb'=>?_⟩,fun i b hb=>?_,fun hcl r' hr' t1 m1 x1=>?_,k8,⟨_,_,rfl,zvUa hv1,zxaa (fun b hb => .inl (k3 b hb)) (fun _ _=>rfl) (fun _ _=>rfl) hrep2,k9⟩⟩
    ·cases i<;>cases j
     ·exact hij rfl
     ·exact (k6 _ b hb').2 (.inr hb)
     ·exact (k6 _ b hb).2 (.inr hb')
     ·exact k5.disj _ _ (by omega) b hb hb'
    ·cases i
     ·exact ⟨k4 b (.inr hb),hfl b hb⟩
     ·exact ⟨(k6 _ b hb).1,fun hc=>(k6 _ b hb).2 (.inl hc)⟩
    ·rw[k7 hcl r' (fun hc=>hr' (List.mem_cons_of_mem _ hc))];exact hiff r' (.inr ⟨r,[],rfl,fun hc=>hr' (hc ▸ List.mem_cons_self)⟩) _ _ _
   ·simp[RM.run]at h1
 | .fn f::ks,x::xs,Ts,k,st,fp,fl,F,hS,h=>by
  simp only[zuxa]at h;obtain ⟨sv,h1,hx⟩:=zmfa h;split at h1
  ·rename_i g;split at h1
   ·rename_i hg;have:=Nat.eq_of_beq_eq_true hg;subst this;have hv:a.eval x = .func (.func f) #[] #[]:=by
     rcases hx with ⟨s,rfl,hs,h3⟩|⟨c,rfl,h3⟩|⟨f',rfl,h3⟩
     ·have hev:a.eval (.tmp s)=V (env.b+s):=hA.tmps s hs;have hsv:=hS.sv (env.b+s);rw[←h3]at hsv;obtain ⟨us,vs,e1,e2,e3⟩:=hsv;rw[hev,e1,List.eq_nil_of_length_eq_zero e2.1,List.eq_nil_of_length_eq_zero e3.1]
     ·unfold cst at h3; (repeat' split at h3)<;>cases h3
     ·cases h3; rfl
    obtain ⟨st',fp',fl',F',d,ms,bs,fps,k1,k2,k3,k4,k5,k6,k7,k8,k9⟩:=zdia hA hS h1;refine ⟨st',fp',fl',F',((),d),ms,bs,fun i=>match i with|0=>none'|i+1=>fps i,k1,k2,k3,k4,⟨fun i j hij b hb hb'=>?_⟩,fun i b hb=>?_,k7,k8,⟨_,_,rfl,hv,k9⟩⟩
    ·cases i<;>cases j<;>first|exact hb.elim|exact hb'.elim|exact k5.disj _ _ (by omega) b hb hb'
    ·cases i<;>first|exact hb.elim|exact k6 _ b hb
   ·simp[RM.run]at h1
  ·simp[RM.run]at h1
 | .val t m::ks,x::xs,Ts,k,st,fp,fl,F,hS,h=>by
  simp only[zuxa]at h;obtain ⟨u,mu,y,src,h1,hd,_⟩:=zhja hS hA h;split at h1
  ·simp[RM.run]at h1
  ·rename_i y' hc;obtain ⟨eu,hy⟩:=zdca hc;subst eu;simp only at hy;subst hy;obtain ⟨hv,hmu,fq0,hrep,hfq⟩:=hd.rep hS;split at h1
   ·split at h1
    ·obtain ⟨st',fp',fl',F',d,ms,bs,fps,k1,k2,k3,k4,k5,k6,k7,k8,k9⟩:=zdia hA hS h1;refine ⟨st',fp',fl',F',(y,d),ms,bs,fun i=>match i with|0=>none'|i+1=>fps i,k1,k2,k3,k4,⟨fun i j hij b hb hb'=>?_⟩,fun i b hb=>?_,k7,k8,⟨_,_,rfl,hv,nofun,rep_s (zxaa (fun b hb => .inl (k3 b hb)) (fun _ _=>rfl) (fun _ _=>rfl) hrep),k9⟩⟩
     ·cases i<;>cases j<;>first|exact hb.elim|exact hb'.elim|exact k5.disj _ _ (by omega) b hb hb'
     ·cases i<;>first|exact hb.elim|exact k6 _ b hb
    ·split at h1
     ·rename_i k _ _ _ hnj;have hnone:src=none→(zuxa env cl ks xs Ts.tail fun d ms bs=>k (y,d) ms bs).run C st Kk=some res→∃st' fp',∃fl' F':Blks,∃d ms bs,∃fps:Nat→Blks,(k d ms bs).run C st' Kk=some res∧SR e F' w st' V fp' fl'∧(∀b,F b→F' b)∧(∀b,fl b→fl' b)∧Disj fps∧(∀i b,fps i b→fl' b∧¬fl b) ∧
        (cl=true→∀r,r ∉ ms→∀t m x,st' r = .v t m x↔st r = .v t m x)∧(cl=false→bs=[])∧ArgsR (fun b=>F' b∨∃r,r∈bs∧fp' r b) w (.val u .s::ks) d ((x::xs).map a.eval) fps:=by
       rintro rfl h1
       obtain ⟨st',fp',fl',F',d,ms,bs,fps,k1,k2,k3,k4,k5,k6,k7,k8,k9⟩:=zdia hA hS h1;refine ⟨st',fp',fl',F',(y,d),ms,bs,fun i=>match i with|0=>none'|i+1=>fps i,k1,k2,k3,k4,⟨fun i j hij b hb hb'=>?_⟩,fun i b hb=>?_,k7,k8,⟨_,_,rfl,hv,nofun,rep_s (zxta (fun b hb => .inl (k3 b hb)) hrep hnj (fun b hb=>?_)),k9⟩⟩
       ·cases i<;>cases j<;>first|exact hb.elim|exact hb'.elim|exact k5.disj _ _ (by omega) b hb hb'
       ·cases i<;>first|exact hb.elim|exact k6 _ b hb
       ·obtain ⟨_,_,hc,_⟩:=hfq b hb;cases hc
      cases src with
      |none=>cases cl<;>exact hnone rfl h1
      |some rp =>
      obtain ⟨r,p⟩:=rp;cases cl with
      |true =>
       obtain ⟨st',fp',fl',F',d,ms,bs,fps,k1,k2,k3,k4,k5,k6,k7,k8,k9⟩:=zdia hA hS h1;split at k1
       ·rename_i hms;have hr:r ∉ ms:=fun hc=>by
         have:=List.all_eq_true.1 hms r hc;rw[Nat.beq_refl]at this;cases this
        have hd':DataAt F' w st' V (a.eval x) u mu y (some (r,p)):=by
         obtain ⟨d0,t0,m0,x0,d1,d2⟩:=hd;exact ⟨d0,t0,m0,x0,(k7 rfl r hr _ _ _).2 d1,d2⟩
        obtain ⟨_,_,fq1,hrep1,hfq1⟩:=hd'.rep k2;refine ⟨st',fp',fl',F',(y,d),ms,r::bs,fun i=>match i with|0=>none'|i+1=>fps i,k1,k2,k3,k4,⟨fun i j hij b hb hb'=>?_⟩,fun i b hb=>?_,k7,fun hc=>(by cases hc),⟨_,_,rfl,hv,nofun,rep_s (zxta (F':=fun b=>F' b∨∃q,q∈r::bs∧fp' q b) (fun b hb => .inl hb) hrep1 hnj (fun b hb=>?_)),k9.mono (fun b hb=>?_)⟩⟩
        ·cases i<;>cases j<;>first|exact hb.elim|exact hb'.elim|exact k5.disj _ _ (by omega) b hb hb'
        ·cases i<;>first|exact hb.elim|exact k6 _ b hb
        ·obtain ⟨r',p',e1,e2⟩:=hfq1 b hb;cases e1;exact .inr ⟨r,List.mem_cons_self,e2⟩
        ·rcases hb with hb|⟨q,hq,hb⟩
         ·exact .inl hb
         ·exact .inr ⟨q,List.mem_cons_of_mem _ hq,hb⟩
       ·simp[RM.run]at k1
      |false =>
       obtain ⟨st1,fp1,F1,h2,hS1,hF1,hv1,hrep1⟩:=zbua hS hd nofun h1;obtain ⟨st',fp',fl',F',d,ms,bs,fps,k1,k2,k3,k4,k5,k6,k7,k8,k9⟩:=zdia hA hS1 h2;refine ⟨st',fp',fl',F',(y,d),ms,bs,fun i=>match i with|0=>none'|i+1=>fps i,k1,k2,fun b hb=>k3 b (hF1 b hb),k4,⟨fun i j hij b hb hb'=>?_⟩,fun i b hb=>?_,nofun,k8,⟨_,_,rfl,hv,nofun,rep_s (zxaa (fun b hb => .inl (k3 b hb)) (fun _ _=>rfl) (fun _ _=>rfl) hrep1),k9⟩⟩
       ·cases i<;>cases j<;>first|exact hb.elim|exact hb'.elim|exact k5.disj _ _ (by omega) b hb hb'
       ·cases i<;>first|exact hb.elim|exact k6 _ b hb
     ·simp[RM.run]at h1
   ·rename_i hms;split at h1
    ·rename_i he;obtain ⟨st1,fp1,fq,F1,h2,hS1,hF1,hv1,hm1,hrep1,hfl,hiff⟩:=zZJa (m':=m) hS hd he h1;obtain ⟨st',fp',fl',F',d,ms,bs,fps,k1,k2,k3,k4,k5,k6,k7,k8,k9⟩:=zdia hA hS1 h2;have hrest:∀ms',(∀r,r ∉ ms'→r ∉ ms∧(src=none∨∃r0 p0,src=some (r0,p0)∧r≠r0))→(k (y,d) ms' bs).run C st' Kk=some res→∃st' fp',∃fl' F':Blks,∃d ms bs,∃fps:Nat→Blks,(k d ms bs).run C st' Kk=some res∧SR e F' w st' V fp' fl'∧(∀b,F b→F' b)∧(∀b,fl b→fl' b)∧Disj fps∧(∀i b,fps i b→fl' b∧¬fl b) ∧
       (cl=true→∀r,r ∉ ms→∀t m x,st' r = .v t m x↔st r = .v t m x)∧(cl=false→bs=[])∧ArgsR (fun b=>F' b∨∃r,r∈bs∧fp' r b) w (.val u m::ks) d ((x::xs).map a.eval) fps:=by
      intro ms' hms' k1';refine ⟨st',fp',fl',F',(y,d),ms',bs,fun i=>match i with|0=>fq|i+1=>fps i,k1',k2,fun b hb=>k3 b (hF1 b hb),fun b hb=>k4 b (.inl hb),⟨fun i j hij b hb hb'=>?_⟩,fun i b hb=>?_,fun hcl r hr t1 m1 x1=>?_,k8,⟨_,_,rfl,hv1,hm1,zxaa (fun b hb => .inl (k3 b hb)) (fun _ _=>rfl) (fun _ _=>rfl) hrep1,k9⟩⟩
      ·cases i<;>cases j
       ·exact hij rfl
       ·exact (k6 _ b hb').2 (.inr hb)
       ·exact (k6 _ b hb).2 (.inr hb')
       ·exact k5.disj _ _ (by omega) b hb hb'
      ·cases i
       ·exact ⟨k4 b (.inr hb),hfl b hb⟩
       ·exact ⟨(k6 _ b hb).1,fun hc=>(k6 _ b hb).2 (.inl hc)⟩
      ·obtain ⟨q1,q2⟩:=hms' r hr;rw[k7 hcl r q1];exact hiff r q2 _ _ _
     cases src with
     |none=>exact hrest ms (fun r hr=>⟨hr,.inl rfl⟩) k1
     |some rp =>
      obtain ⟨r0,p0⟩:=rp;exact hrest (r0::ms) (fun r hr=>⟨fun hc=>hr (List.mem_cons_of_mem _ hc),.inr ⟨r0,p0,rfl,fun hc=>hr (hc ▸ List.mem_cons_self)⟩⟩) k1
    ·simp[RM.run]at h1
theorem zb2a {w:World}:∀ {q:List PE} {u u1:Ty},fldP u q=some u1→flds q=true∧∃k,∀(w:World) (c:Cells) (b o:Nat),rs w u c (some (b,o)) q=some (u1,fun j=>c (k+j),some (b,o+k)):=by
 intro q u
 induction u generalizing q with
 |pair x y ihx ihy =>
  intro u1 h;cases q with
  |nil =>
   simp only[fldP,Option.some.injEq]at h;subst h;exact ⟨rfl,0,fun w c b o=>by simp[rs]⟩
  |cons e q =>
   cases e with
   |fld n =>
    cases n with
    |zero =>
     simp only[fldP]at h;obtain ⟨h1,k,h2⟩:=ihx h;exact ⟨by simpa[flds] using h1,k,fun w c b o=>by simp only[rs]; exact h2 w c b o⟩
    |succ n =>
     simp only[fldP]at h;obtain ⟨h1,k,h2⟩:=ihy h;refine ⟨by simpa[flds] using h1,x.size+k,fun w c b o=>?_⟩;simp only[rs,Option.map_some,h2,Option.some.injEq,Prod.mk.injEq,true_and];exact ⟨by funext j; rw[Nat.add_assoc],by omega⟩
   |_=>simp[fldP]at h
 |_ =>
  intro u1 h;cases q with
  |nil =>
   simp only[fldP,Option.some.injEq]at h;subst h;exact ⟨rfl,0,fun w c b o=>by simp[rs]⟩
  |cons e q=>simp[fldP]at h
def AlsOk (w:World) (st:St) (V:Nat→Value) (l:List (Nat×Nat×List PE×Ty)):Prop:=∀q∈l,∃m x,st q.2.1 = .v q.2.2.2 m x∧AlOk w st V q.2.1 q.2.2.1 (V q.1)
theorem zTxa {α:Type} {Kk:α→St→Option R} {rs:List (Option (Nat×TypeId))} (hS:SR e F w st V fp fl):∀ {l:List Nat} {k:List (Nat×Nat×List PE×Ty)→RM α},(zVTa rs l k).run C st Kk=some res→∃al,(k al).run C st Kk=some res∧AlsOk w st V al
 |[],k,h=>⟨[],h,fun q hq=>by cases hq⟩
 |s::l,k,h=>by
  simp only[zVTa,RM.run]at h;split at h
  ·rename_i r p hs;split at h
   ·simp only[RM.run]at h;split at h
    ·rename_i t m x hr;obtain ⟨al,h1,h2⟩:=zTxa hS h;refine ⟨_,h1,fun q hq=>?_⟩;rcases List.mem_cons.1 hq with rfl|hq
     ·have hsv:=hS.sv s;rw[hs]at hsv;exact ⟨m,x,hr,hsv⟩
     ·exact h2 q hq
    ·exact zTxa hS h
   ·exact zTxa hS h
  ·exact zTxa hS h
theorem zmua {α:Type} {Kk:α→St→Option R} {w':World} {st0:St}:∀ {l:List (Nat×Nat×List PE×Ty)} {k:RM α} {st:St} {fp:Nat→Blks} {fl:Blks},SR e F w' st V fp fl→AlsOk w st0 V l→(zzTa l k).run C st Kk=some res→∃st' fp',k.run C st' Kk=some res∧SR e F w' st' V fp' fl
 |[],k,st,fp,fl,hS,_,h=>⟨st,fp,h,hS⟩
 |(s,r,p,t)::l,k,st,fp,fl,hS,hal,h=>by
  have hl:AlsOk w st0 V l:=fun q hq=>hal q (List.mem_cons_of_mem _ hq)
  simp only[zzTa,RM.run]at h;split at h
  ·rename_i T u m y hr;split at h
   ·rename_i T' u' q;split at h
    ·rename_i u1 hck hfl;simp only[Bool.and_eq_true,Bool.not_eq_true']at hck;obtain ⟨⟨⟨k1,k2⟩,k3⟩,k4⟩:=hck;have e1:=Nat.eq_of_beq_eq_true k1;have e2:=Ty.eqb_eq k2;subst e1;subst e2;obtain ⟨m0,x0,h0,ha⟩:=hal _ List.mem_cons_self;obtain ⟨_,_,_,u2,c2,b,o,a4,a5⟩:=ha _ _ _ h0;obtain ⟨f1,kk,f2⟩:=zb2a (w:=w') hfl;have hsr:s≠r:=fun hc=>by rw[hc,Nat.beq_refl]at k4; cases k4
     simp only[RM.run]at h;have hsv:svR F w' st V none' (V s) (.al r (.der::q)):=by
      intro t1 m1 x1 h1;rw[hr]at h1;cases h1;have hrv:=hS.sv r;rw[hr]at hrv;have hp:=hrv.2;simp only[rep]at hp;obtain ⟨A,p1,ad,rfl,hsp,p2⟩:=hp;obtain ⟨b1,o1,sp⟩:=ad;simp only at hsp;subst hsp;have hnew:Trm.rs w' (.ptr T u) (cv (V r)) none (.der::q)=some (u1,fun j=>rowW w' b1 o1 (kk+j),some (b1,o1+kk)):=by
       simp only[Trm.rs,p1];exact f2 w' _ b1 o1
      have hold:Trm.rs w (.ptr T u) (cv (V r)) none (.der::q)=some (u1,fun j=>rowW w b1 o1 (kk+j),some (b1,o1+kk)):=by
       simp only[Trm.rs,p1];exact f2 w _ b1 o1
      simp only at a4;rw[hold]at a4;simp only[Option.some.injEq,Prod.mk.injEq]at a4;obtain ⟨_,_,rfl,rfl⟩:=a4;have hin:Trm.rs w' u (rowW w' b1 o1) (some (b1,o1)) q=some (u1,fun j=>rowW w' b1 o1 (kk+j),some (b1,o1+kk)):=f2 w' _ b1 o1;refine ⟨rfl,?_,?_,u1,_,b1,o1+kk,hnew,a5⟩
      ·simp only[ownP]; exact zfKa f1 hin
      ·simp only[inP]; exact zwMa f1 hin
     have hS1:=hS.fillO (d:=s) (v:=V s) (fq:=none') (fl':=fl) (fun _=>rfl) rfl hsv (fun _ hb=>hb.elim) (fun b hb=>⟨hb,fun h=>h⟩);rw[znEa]at hS1;exact zmua hS1 hl h
    ·exact zmua hS hl h
   ·exact zmua hS hl h
  ·exact zmua hS hl h
theorem zRQa {α:Type} {Kk:α→St→Option R}:∀ {xs:List Operand} {k:List FuncId→RM α},(fnsOf env xs k).run C st Kk=some res→∃gs,(k gs).run C st Kk=some res
 |[],k,h=>⟨[],h⟩
 |x::xs,k,h=>by
  simp only[fnsOf]at h;obtain ⟨sv,h1,_⟩:=zmfa h;split at h1
  ·exact zRQa (k:=fun l=>k (_::l)) h1 |>.elim fun gs h2=>⟨_,h2⟩
  ·exact zRQa h1
end
end Go.Trm
namespace Go.Trm
theorem zxPa:∀p:List PE,pre p p=true
 |[]=>rfl
 | .fld i::p=>by simp only[pre,Nat.beq_refl,cond_true]; exact zxPa p
 | .der::p=>by simp only[pre]; exact zxPa p
 | .idx _::p=>by simp only[pre]; exact zxPa p
section
variable {P:Program} {env:Env} {e:Entry} {F:Blks} {w:World} {st:St} {V:Nat→Value} {fp:Nat→Blks} {fl:Blks} {a:Act} {o:Oper} {R:Type} {K:Unit→St→Option R} {res:R} {C:Cx R} {gh:Nat→Value} {next:Act→World→Prop} {Q:Exit→Act→World→Prop}
end
end Go.Trm
namespace Go.Trm
theorem zw0a:∀ {ks:List (Ty×Md)} {d:DR ks} {k:Nat} {s:SV},(resV ks d)[k]?=some s→∃q x,ks[k]?=some q∧s = .v q.1 q.2 x
 |[],_,k,s,h=>by simp[resV]at h
 |q::ks,d,0,s,h=>by
  simp only[resV,List.getElem?_cons_zero,Option.some.injEq]at h;exact ⟨q,_,rfl,h.symm⟩
 |q::ks,d,k+1,s,h=>by
  simp only[resV,List.getElem?_cons_succ]at h;obtain ⟨q',x,h1,h2⟩:=zw0a h;exact ⟨q',x,by simpa using h1,h2⟩
theorem zLRa (ks:List (Ty×Md)) (d:DR ks):(∃q x,q∈ks∧resS ks d = .v q.1 q.2 x)∨resS ks d = .tup (resV ks d):=by
 unfold resS;split
 ·rename_i x hx;obtain ⟨q,y,h1,h2⟩:=zw0a (k:=0) (s:=x) (by rw[hx]; rfl);exact .inl ⟨q,y,List.mem_of_getElem? h1,h2⟩
 ·exact .inr rfl
section
variable {P:Program} {env:Env} {e:Entry} {F:Blks} {w:World} {st:St} {V:Nat→Value} {fp:Nat→Blks} {fl:Blks} {a:Act} {o:Oper} {R:Type} {K:Unit→St→Option R} {res:R} {C:Cx R} {gh:Nat→Value} {next:Act→World→Prop} {Q:Exit→Act→World→Prop}
theorem ResR.clsd {F F':Blks} {v:Value} {fo:Blks} {ks:List (Ty×Md)} {d:DR ks} (hc:ks.all (fun k=>Trm.clsd k.1 k.2)=true) (h:ResR F w v fo (resS ks d)):ResR F' w v fo (resS ks d):=by
 rcases zLRa ks d with ⟨q,x,hq,hr⟩|hr
 ·rw[hr]at h ⊢;exact ⟨h.1,zbUa (List.all_eq_true.1 hc q hq) h.2⟩
 ·rw[hr]at h ⊢;obtain ⟨vs,e1,e2,fs,e3,e4,e5⟩:=h;refine ⟨vs,e1,e2,fs,e3,e4,fun k t m x hk=>?_⟩;obtain ⟨u,k1,k2,k3⟩:=e5 k t m x hk;obtain ⟨q,y,h1,h2⟩:=zw0a hk;cases h2;exact ⟨u,k1,k2,zbUa (List.all_eq_true.1 hc q (List.mem_of_getElem? h1)) k3⟩
theorem BackR.clsd {F F':Blks} {w:World}:∀ {ks:List PK} {b:DB ks} {vs:List Value} {fs:Nat→Blks},ks.all (fun
  | .ref t _ m'=>Trm.clsd t m'
  |_=>true)=true→BackR F w ks b vs fs→BackR F' w ks b vs fs
 |[],_,vs,_,_,_=>by cases vs<;>trivial
 |k::ks,_,[],_,_,_=>zcAa
 | .val _ _::ks,b,v::vs,fs,hc,h=>by
  rw[List.all_cons,Bool.and_eq_true]at hc;exact BackR.clsd (ks:=ks) hc.2 (show BackR F w ks b vs _ from h)
 | .fn _::ks,b,v::vs,fs,hc,h=>by
  rw[List.all_cons,Bool.and_eq_true]at hc;exact BackR.clsd (ks:=ks) hc.2 (show BackR F w ks b vs _ from h)
 | .ref t m m'::ks,b,v::vs,fs,hc,h=>by
  rw[List.all_cons,Bool.and_eq_true]at hc;obtain ⟨h1,h2,h3⟩:=h;exact ⟨h1,zbUa (by simpa only[Trm.clsd] using hc.1) h2,BackR.clsd (ks:=ks) hc.2 h3⟩
theorem zcUa {F F':Blks} {w:World} {t:Ty} {m:Md} {x:t.I} {c:Cells} {fq:Blks} (hf:t.flat=true) (hr:rep F w t m x c fq):rep F' w t m x c fq:=by
 induction t generalizing m c fq with
 |sl e t ih=>cases hf
 |ptr e t ih=>cases hf
 |pair a b iha ihb =>
  simp only[Ty.flat,Bool.and_eq_true]at hf;obtain ⟨fa,fb,h1,h2,h3,ra,rb⟩:=zaka hr;have:∃fa fb:Blks,(∀i,fa i→fq i)∧(∀i,fb i→fq i)∧(∀i,fa i→¬fb i)∧rep F' w a m.fst x.1 c fa∧rep F' w b m.snd x.2 (fun j=>c (a.size+j)) fb:=⟨fa,fb,h1,h2,h3,iha hf.1 ra,ihb hf.2 rb⟩
  cases m with
  |j=>exact rep_j
  |_=>simpa only[rep] using this
 |arr n t ih =>
  cases m with
  |j=>exact rep_j
  |_ =>
   simp only[rep]at hr ⊢;obtain ⟨hn,fs,h1,h2,r⟩:=hr;exact ⟨hn,fs,h1,h2,fun i hi=>ih hf (r i hi)⟩
 |_=>cases m<;>simp only[rep]at hr ⊢<;>exact hr
theorem zj1a {sv:SV} {v:Value} {fo:Blks} (hS:SR e F w st V fp fl) (hA:AR env gh a V) (h:(fin env o sv).run C st K=some res) (hr:svR F w st V fo v sv) (hq:∀b,fo b→fl b) :
  ∃st' V' fp' F',K () st'=some res∧SR e F' w st' V' fp' (fun _=>False)∧AR env gh (a.put o.dst v) V':=by
 cases sv with
 |v t m y=>exact zmHa hS hA h hr.1 hr.2 hq
 |_ =>
  obtain ⟨st',V',fp',h1,h2,h3⟩:=zbwa hS hA rfl h hr hq;exact ⟨st',V',fp',F,h1,h2,h3⟩
theorem zk1a {ks:List (Ty×Md)} {d:DR ks} {v:Value} {fo:Blks} (hS:SR e F w st V fp fl) (hA:AR env gh a V) (h:(fin env o (resS ks d)).run C st K=some res) (hr:ResR F w v fo (resS ks d)) (hq:∀b,fo b→fl b) :
  ∃st' V' fp' F',K () st'=some res∧SR e F' w st' V' fp' (fun _=>False)∧AR env gh (a.put o.dst v) V':=by
 rcases zLRa ks d with ⟨q,x,hq',hs⟩|hs
 ·rw[hs]at h hr;exact zmHa hS hA h hr.1 hr.2 hq
 ·rw[hs]at h hr;obtain ⟨st',V',fp',h1,h2,h3⟩:=zbwa hS hA rfl h hr hq;exact ⟨st',V',fp',F,h1,h2,h3⟩
def InlOk (P:Program) (lim:Nat) (inl:Inl):Prop:=∀f d (R:Type) st xs (K:SV→St→Option R) (Kp:PanV→St→Option R) res,inl f d R st xs K Kp=some res →
 (∃fn code,P.funcs[f]?=some fn∧(fn.name == "runtime.NumGoroutine")=false∧fn.body=some code) ∧
 ∀(e:Entry) (F:Blks) (w:World) (V:Nat→Value) (fp:Nat→Blks) (vals:List Value) (Rp:Ending→World→Prop),GlE P e→SR e F w st V fp none'→vals.length=xs.length→(∀(k:Nat) sv v,xs[k]?=some sv→vals[k]?=some v→svR F w st V none' v sv) →
  (∀F' w' st' V' fp' fo v sv,SR e F' w' st' V' fp' fo→(∀i,i<lim∨gh0≤i→V' i=V i)→svR F' w' st' V' fo v sv→K sv st'=some res→Rp (.returned v) w') →
  (∀F' w' st' V' fp' p ch,SR e F' w' st' V' fp' none'→(∀i,i<lim∨gh0≤i→V' i=V i)→PanR F' w' p ch→Kp p st'=some res→Rp (.panicked ch) w') →
  Calls P f vals.toArray w Rp
def Env.top (env:Env):Nat:=env.b+env.n+1
structure CxOk (P:Program) (env:Env) (gh:Nat→Value) (e:Entry) (C:Cx R) (res:R) (Q:Exit→Act→World→Prop):Prop where
 pan:∀p ch F w st V fp a,SR e F w st V fp none'→AR env gh a V→PanR F w p ch→C.kp p st=some res→Q (.panic ch) a w
 gl:GlE P e
 inl:∃inl:Inl,InlOk P env.top inl∧∀f d st xs k,C.inl f d st xs k=inl f d R st xs k C.kp
theorem AR.congr {V':Nat→Value} (hA:AR env gh a V) (h:∀i,i<env.top∨gh0≤i→V' i=V i):AR env gh a V':=by
 unfold Env.top at h;refine ⟨hA.size,fun i hi=>?_,?_,hA.lim,fun i hi=>?_⟩
 ·rw[h _ (.inl (by omega))]; exact hA.tmps i hi
 ·rw[h _ (.inl (by omega))]; exact hA.defers
 ·rw[h i (by have:=hA.lim; omega)]; exact hA.keep i hi
theorem zBTa {α:Type} {Kk:α→St→Option R} (hS:SR e F w st V fp fl) (hA:AR env gh a V):∀ {xs:List Operand} {Ts:List TypeId} {k:List SV→RM α},(zYWa env xs Ts k).run C st Kk=some res →
  ∃svs:List SV,(k svs).run C st Kk=some res∧svs.length=xs.length∧∀(i:Nat) sv v,svs[i]?=some sv→(xs.map a.eval)[i]?=some v→svR F w st V none' v sv
 |[],Ts,k,h=>⟨[],h,rfl,fun i sv v hi=>by simp at hi⟩
 |x::xs,Ts,k,h=>by
  simp only[zYWa,argSV]at h;obtain ⟨sv,h1,hx⟩:=zmfa h;have key0:∀sv',(zYWa env xs Ts.tail fun l=>k (sv'::l)).run C st Kk=some res→svR F w st V none' (a.eval x) sv'→∃svs:List SV,(k svs).run C st Kk=some res∧svs.length=(x::xs).length∧∀(i:Nat) sv v,svs[i]?=some sv→((x::xs).map a.eval)[i]?=some v→svR F w st V none' v sv:=by
   intro sv' h2 hv;obtain ⟨svs,k1,k2,k3⟩:=zBTa hS hA h2;refine ⟨sv'::svs,k1,by simp[k2],fun i sv v hi hv'=>?_⟩;cases i with
   |zero =>
    simp only[List.getElem?_cons_zero,Option.some.injEq,List.map_cons]at hi hv';subst hi; subst hv'; exact hv
   |succ i=>exact k3 i sv v (by simpa using hi) (by simpa using hv')
  have key:∀sv',(lzAl sv' fun v=>zYWa env xs Ts.tail fun l=>k (v::l)).run C st Kk=some res→svR F w st V none' (a.eval x) sv'→∃svs:List SV,(k svs).run C st Kk=some res∧svs.length=(x::xs).length∧∀(i:Nat) sv v,svs[i]?=some sv→((x::xs).map a.eval)[i]?=some v→svR F w st V none' v sv:=by
   intro sv' h2 hv;unfold lzAl at h2;split at h2
   ·rename_i r;simp only[RM.run]at h2;split at h2
    ·rename_i T t m y hst;refine key0 _ h2 ?_;obtain ⟨_,_,u,c',ad,e1,e2⟩:=hv _ _ _ hst;simp only[rs,Option.some.injEq,Prod.mk.injEq]at e1;have hsv:=hS.sv r;rw[hst]at hsv;have h3:V r=valOf (.ptr T t) (cv (V r)):=hsv.1 nofun;have h4:a.eval x=V r:=by
      obtain ⟨rfl,e3,_⟩:=e1;rw[e2,←eq_of_heq (heq_of_eq e3),←h3]
     rw[h4];exact zzYa hS hst
    ·exact key0 _ h2 hv
   ·exact key0 _ h2 hv
  rcases hx with ⟨s,rfl,hs,rfl⟩|⟨c,rfl,rfl⟩|⟨f,rfl,rfl⟩
  ·have hev:a.eval (.tmp s)=V (env.b+s):=hA.tmps s hs;have hsv:=hS.sv (env.b+s);cases hst:st (env.b+s) with
   |v t m y =>
    rw[hst]at h1 hsv;have hlz:m ≠ .j→svR F w st V none' (a.eval (.tmp s)) (.lz (env.b+s) []):=by
     intro hm t0 m0 x0 h0;rw[hst]at h0;cases h0;exact ⟨by simp[ownP],by simp[inP],_,_,_,by simp[rs]; exact ⟨rfl,rfl,rfl⟩,by rw[hev]; exact hsv.1 hm⟩
    cases m with
    |s=>exact key _ h1 ⟨fun _=>by rw[hev]; exact hsv.1 nofun,by rw[hev]; exact rep_s hsv.2⟩
    |j=>simp[RM.run]at h1
    |o m=>exact key _ h1 (hlz nofun)
    |p m m'=>exact key _ h1 (hlz nofun)
   |al r p=>rw[hst]at h1 hsv; exact key _ h1 (by rw[hev]; exact hsv)
   |lz r p=>rw[hst]at h1 hsv; exact key _ h1 (by rw[hev]; exact hsv)
   |sub r p lo hi=>rw[hst]at h1 hsv; exact key _ h1 (by rw[hev]; exact hsv)
   |fn f s' c=>rw[hst]at h1 hsv; exact key _ h1 (by rw[hev]; exact hsv)
   |ifc T t x=>rw[hst]at h1 hsv; exact key _ h1 (by rw[hev]; exact hsv)
   |nil=>rw[hst]at h1 hsv; exact key _ h1 (by rw[hev]; exact hsv)
   |bx r p=>rw[hst]at h1; simp[RM.run]at h1
   |tup l=>rw[hst]at h1; simp[RM.run]at h1
   |un=>rw[hst]at h1; simp[RM.run]at h1
  ·cases hc:cst env (Ts.headD 0) c with
   |v t m y =>
    obtain ⟨b1,b2,b3⟩:=zGMa (F:=F) (w:=w) hc;rw[hc]at h1;cases m with
    |j=>exact absurd rfl b2
    |_=>exact key _ h1 ⟨fun _=>b1,b3⟩
   |nil =>
    rw[hc]at h1;refine key _ h1 ?_;unfold cst at hc
    (repeat' split at hc)<;>first|(cases hc; done)|rfl
   |un=>rw[hc]at h1; simp[RM.run]at h1
   |_=>unfold cst at hc; (repeat' split at hc)<;>cases hc
  ·exact key _ h1 ⟨[],[],rfl,⟨rfl,fun k q hq=>by simp at hq⟩,⟨rfl,fun k q hq=>by simp at hq⟩⟩
theorem za0a {caps:List (Nat×List PE)} {vs:List Value} (h:CapsOk F w st V caps vs):∀(i:Nat) sv v,(alsOf caps)[i]?=some sv→vs[i]?=some v→svR F w st V none' v sv:=by
 intro i sv v hi hv;simp only[alsOf,List.getElem?_map,Option.map_eq_some_iff]at hi;obtain ⟨q,hq,rfl⟩:=hi;obtain ⟨u,h1,h2⟩:=h.2 i q hq;rw[hv]at h1;cases h1;obtain ⟨r,p⟩:=q;cases p with
 |nil=>exact h2
 |cons e p=>exact h2
theorem zh2a {c:Call} {x:Operand} (hF:EnvFn P env) (hC:CxOk P env gh e C res Q) (ho:o.op = .call c) (hc:c.callee = .value x) (hS:SR e F w st V fp none') (hA:AR env gh a V) (hN:Nxt env gh e K res next) (h:(evOp env o).run C st K=some res):o.wp P a w next Q:=by
 simp only[evOp,ho,hc]at h;obtain ⟨sv,h1,hx⟩:=zmfa h;split at h1
 ·rename_i f fst caps;have hv:∃us vs:List Value,a.eval x = .func (.func f) us.toArray vs.toArray∧CapsOk F w st V fst us∧CapsOk F w st V caps vs:=by
   rcases hx with ⟨s,rfl,hs,h3⟩|⟨c,rfl,h3⟩|⟨f',rfl,h3⟩
   ·have hev:a.eval (.tmp s)=V (env.b+s):=hA.tmps s hs;have hsv:=hS.sv (env.b+s);rw[←h3]at hsv;rw[hev];exact hsv
   ·unfold cst at h3; (repeat' split at h3)<;>cases h3
   ·cases h3; exact ⟨[],[],rfl,⟨rfl,fun k q hq=>by simp at hq⟩,⟨rfl,fun k q hq=>by simp at hq⟩⟩
  obtain ⟨us,vs,hv,hus,hvs⟩:=hv;split at h1
  ·
   obtain ⟨svs,h2,l1,hsv⟩:=zBTa hS hA h1;simp only[RM.run]at h2;obtain ⟨inl,hI,hCi⟩:=hC.inl;rw[hCi]at h2;obtain ⟨⟨fn,code,f1,f2,f3⟩,hcall⟩:=hI _ _ _ _ _ _ _ _ h2;have hrun:(execOp a.eval o).run P w = .ok (.enter f (us++(c.args.toList.map a.eval++vs)).toArray) w:=by
    have e1:(us++(c.args.toList.map a.eval++vs)).toArray=(us.toArray++c.args.map a.eval)++vs.toArray:=by apply Array.ext'; simp
    rw[e1];simp only[execOp,ho,resolve,hc,hv,Deferred.ofValue,Sem.run_bind,Sem.run_pure,Result.andThen_ok,invoke];exact Go.MuLone.run_callFunc_enter f1 f2 f3 _ _
   unfold Oper.wp;rw[hrun];have la:us.length=(alsOf fst).length:=by simp[alsOf,hus.1]
   have lb:vs.length=(alsOf caps).length:=by simp[alsOf,hvs.1]
   have lc:(c.args.toList.map a.eval).length=svs.length:=by simp[l1]
   refine hcall e F w V fp _ _ hC.gl hS (by simp only[List.length_append]; omega) (fun k sv v hk hv'=>?_) (fun F' w' st' V' fp' fo v sv hS' hV' hr hK=>?_) (fun F' w' st' V' fp' p ch hS' hV' hp hK=>?_)
   ·rcases Nat.lt_or_ge k us.length with hk1|hk1
    ·rw[List.getElem?_append_left (by omega)]at hk;rw[List.getElem?_append_left hk1]at hv';exact za0a hus k sv v hk hv'
    ·rw[List.getElem?_append_right (by omega),←la]at hk;rw[List.getElem?_append_right hk1]at hv';rcases Nat.lt_or_ge (k-us.length) svs.length with hk2|hk2
     ·rw[List.getElem?_append_left hk2]at hk;rw[List.getElem?_append_left (by omega)]at hv';exact hsv _ sv v hk hv'
     ·rw[List.getElem?_append_right hk2]at hk;rw[List.getElem?_append_right (by omega),lc]at hv';exact za0a hvs _ sv v hk hv'
   ·obtain ⟨st2,V2,fp2,F3,q1,q2,q3⟩:=zj1a hS' (hA.congr hV') hK hr (fun b hb=>hb);exact hN _ _ _ _ _ _ q2 q3 q1
   ·exact hC.pan p ch _ _ _ _ _ _ hS' (hA.congr hV') hp hK
  ·split at h1
   ·obtain rfl:us=[]:=List.eq_nil_of_length_eq_zero hus.1;obtain rfl:vs=[]:=List.eq_nil_of_length_eq_zero hvs.1;unfold enter at h1;obtain ⟨gs,h1⟩:=zRQa h1;split at h1
    ·simp[RM.run]at h1
    ·rename_i cs hg;have H:=hF f gs cs hg;obtain ⟨fn,code,f1,f2,f3⟩:=H.fn;obtain ⟨rs,h1r,hal⟩:=zsEa hA hS h1;obtain ⟨al,h1r,halOk⟩:=zTxa hS h1r;obtain ⟨st',fp',fl',F',d,ms,bs,fps,k1,k2,k3,k4,k5,k6,k7,k8,k9⟩:=zdia hA hS h1r;simp only[RM.run]at k1;have hrun:(execOp a.eval o).run P w = .ok (.enter f (c.args.toList.map a.eval).toArray) w:=by
      have e1:(c.args.toList.map a.eval).toArray=c.args.map a.eval:=by apply Array.ext'; simp
      rw[e1];simp only[execOp,ho,resolve,hc,hv,Deferred.ofValue,Sem.run_bind,Sem.run_pure,Result.andThen_ok,invoke,Array.append_empty,Array.empty_append];exact Go.MuLone.run_callFunc_enter f1 f2 f3 _ _
     have hcalls:=H.calls (fun b=>F' b∨∃r,r∈bs∧fp' r b) w d _ fps _ _ _ _ ((k2.gl hC.gl).mono (fun _ hb => .inl hb) (fun _ _=>rfl)) (fun b hb=>by
       rcases hb with hb|⟨r,_,hb⟩
       ·exact k2.inF b hb
       ·exact k2.inH r b hb) k5 (fun i b hb=>⟨fun hc=>by
        rcases hc with hc|⟨r,_,hc⟩
        ·exact k2.flF b (k6 i b hb).1 hc
        ·exact k2.flD r b hc (k6 i b hb).1,k2.flH b (k6 i b hb).1⟩) k9 k1
     unfold Oper.wp;rw[hrun];refine Calls.mono hcalls fun e' w' hpost=>?_
     obtain ⟨rb,F2,fo,fb,hret,p2,p3,p4,⟨pb1,pb2,pb3⟩,p6,p7⟩:=hpost;have hW:SR e F' w' st' V fp' (fun b=>fl' b∨(w.heap.size≤b∧b<w'.heap.size)):=by
      refine k2.world (fun b hb hnf=>p4 b hb (fun i hi=>hnf (k6 i b hi).1)) p3 (fun b hb=>?_);rcases hb with hb|hb
      ·exact ⟨.inl hb,Nat.lt_of_lt_of_le (k2.flH b hb) p3.size⟩
      ·exact ⟨.inr hb.1,hb.2⟩
     have hfo:∀b,(fo b∨∃i,fb i b)→fl' b∨(w.heap.size≤b∧b<w'.heap.size):=fun b hb=>by
      obtain ⟨_,q2,q3⟩:=p6 b hb;rcases q3 with ⟨i,q3⟩|q3
      ·exact .inl (k6 i b q3).1
      ·exact .inr ⟨q3,q2⟩
     have hmid:∃(F3:Blks) (fl3:Blks),SR e F3 w' st' V fp' fl3∧BackR F3 w' cs.ins rb ((c.args.toList).map a.eval) fb∧(∀i b,fb i b→fl3 b)∧(∀b,fo b→fl3 b) ∧
       (∀v ro,ResR F2 w' v fo (resS cs.outs ro)→ResR F3 w' v fo (resS cs.outs ro)):=by
      cases hcl:cs.clsd with
      |true =>
       have hcl2:=hcl;unfold CSpec.clsd at hcl2;simp only[Bool.and_eq_true]at hcl2;exact ⟨F',_,hW,BackR.clsd (F':=F') hcl2.2 pb3,fun i b hb=>hfo b (.inr ⟨i,hb⟩),fun b hb=>hfo b (.inl hb),fun v ro hr=>ResR.clsd (F':=F') hcl2.1 hr⟩
      |false =>
       have hbs:=k8 hcl;have hW2:SR e F2 w' st' V fp' (fun b=>fo b∨∃i,fb i b):=hW.moreF (fun b hb=>p2 b (.inl hb)) (fun b hb=>by
         obtain ⟨q1,q2⟩:=p7 b hb;rcases q2 with (q2|⟨r,hr,_⟩)|⟨i,q2⟩|q2
         ·exact .inl q2
         ·rw[hbs]at hr; cases hr
         ·exact .inr (.inl (k6 i b q2).1)
         ·exact .inr (.inr ⟨q2,q1⟩)) hfo (fun b hb=>(p6 b hb).1)
       exact ⟨F2,_,hW2,pb3,fun i b hb => .inr ⟨i,hb⟩,fun b hb => .inl hb,fun v ro hr=>hr⟩
     obtain ⟨F3,fl3,m1,m2,m3,m4,m5⟩:=hmid;rcases hret with ⟨v,ro,rfl,p1,p5⟩|⟨ch,pi,rfl,p1,p5⟩
     ·obtain ⟨st1,fp1,q0,hW1⟩:=zyFa m1 m2 hal pb1 m3 p1;obtain ⟨st1',fp1',q0',hW1'⟩:=zmua hW1 halOk q0;obtain ⟨st2,V2,fp2,F4,q1,q2,q3⟩:=zk1a hW1' hA q0' (m5 _ _ p5) (fun b hb=>⟨m4 b hb,fun i hc=>pb2 i b hc hb⟩);exact hN _ _ _ _ _ _ q2 q3 q1
     ·obtain ⟨st1,fp1,q0,hW1⟩:=zyFa m1 m2 hal pb1 m3 p1;obtain ⟨st1',fp1',q0',hW1'⟩:=zmua hW1 halOk q0;simp only[RM.run]at q0';obtain ⟨pv,hch,u,z1,z2,z3,z4⟩:=p5;exact hC.pan _ _ _ _ _ _ _ _ (hW1'.less (fun _ hb=>hb.elim)) hA ⟨pv,hch,u,z1,z2,z3,zcUa z2 z4⟩ q0'
   ·simp[RM.run]at h1
 ·simp[RM.run]at h1
theorem zL1a {t:Ty} {T:TypeId} (hfl:t.flat=true) (h:wt P t T=true):∃d,P.underlying T=some d∧∀ms,d ≠ .interface ms:=by
 cases hd:P.underlying T with
 |none=>cases t<;>simp[wt,hd]at h
 |some d =>
  refine ⟨d,rfl,?_⟩
  rintro ms rfl
  cases t<;>first|(simp[wt,hd]at h; done)|(simp[Ty.flat]at hfl; done)
theorem zOKa {T:TypeId} {x:Operand} (hE:EnvTy P env) (ho:o.op = .makeInterface T x) (hS:SR e F w st V fp none') (hA:AR env gh a V) (hN:Nxt env gh e K res next) (h:(evOp env o).run C st K=some res):o.wp P a w next Q:=by
 simp only[evOp,ho]at h;obtain ⟨t,m,y,src,h1,hd,_⟩:=zhja hS hA h;obtain ⟨hv,hm,fq,hrep,_⟩:=hd.rep hS;split at h1
 ·rename_i hck;simp only[Bool.and_eq_true]at hck;obtain ⟨⟨k1,k2⟩,k3⟩:=hck;have hm':m = .s:=by cases m<;>first|rfl|cases k3
  subst hm';refine zBxa (endOp (fq:=none') (v := .iface T (a.eval x)) hS hA hN rfl h1 ⟨a.eval x,rfl,k1,hv,rep_s hrep⟩ (fun _ hb=>hb) fun w'=>?_);obtain ⟨d,hu,hn⟩:=zL1a k1 (Env.is_ok hE k2);simp only[execOp,ho,Instr.makeInterface,Sem.run_bind,run_underlying hu,Result.andThen_ok];cases d<;>first|exact absurd rfl (hn _)|rfl
 ·simp[RM.run]at h1
theorem zG0a {x:Operand} (hC:CxOk P env gh e C res Q) (ho:o.op = .panic x) (hS:SR e F w st V fp none') (hA:AR env gh a V) (h:(evOp env o).run C st K=some res):o.wp P a w next Q:=by
 simp only[evOp,ho]at h;obtain ⟨sv,h1,hx⟩:=zmfa h;split at h1
 ·rename_i T t y;simp only[RM.run]at h1;have hv:IfcOk F w T t y (a.eval x):=by
   rcases hx with ⟨s,rfl,hs,h3⟩|⟨c,rfl,h3⟩|⟨f',rfl,h3⟩
   ·have hev:a.eval (.tmp s)=V (env.b+s):=hA.tmps s hs;have hsv:=hS.sv (env.b+s);rw[←h3]at hsv;rw[hev];exact hsv
   ·unfold cst at h3; (repeat' split at h3)<;>cases h3
   ·cases h3
  have hp:=hC.pan ⟨T,t,y⟩ [{ v:=a.eval x,recovered:=false }] _ _ _ _ _ _ hS hA ⟨_,rfl,hv⟩ h1;obtain ⟨u,hu,_⟩:=hv;have hrun:(execOp a.eval o).run P w = .halt (.panic (a.eval x)) w:=by
   simp only[execOp,ho,Instr.panic,hu,goPanic,Sem.run_bind,Sem.run];rfl
  unfold Oper.wp;rw[hrun];exact hp
 ·simp[RM.run]at h1
theorem zoZa (hE:EnvTy P env) (hp:zvWa o.op=true) (hS:SR e F w st V fp none') (hA:AR env gh a V) (hN:Nxt env gh e K res next) (h:(evOp env o).run C st K=some res):wpp P o a w next:=by
 have hfail:∀ {p:Op},o.op=p→(RM.fail:RM Unit).run C st K=some res→wpp P o a w next:=fun _ h=>by simp[RM.run]at h
 cases ho:o.op with
 |move x=>exact zOZa ho hS hA hN h
 |assign x=>exact zLVa ho hS hA hN h
 |pick c x y=>exact zNZa ho hS hA hN h
 |build T ps=>exact zAXa hE ho hS hA hN h
 |nilCheck x=>exact zGOa ho hS hA hN h
 |binOp op T x y U=>exact zBXa hE ho hS hA hN h
 |unOp op T x=>exact zMZa ho hS hA hN h
 |makeFunc fn first caps =>
  cases fn with
  |func f=>exact zHOa ho hS hA hN h
  |_=>simp only[evOp,ho]at h; exact hfail ho h
 |slice T x lo hi mx =>
  cases mx with
  |none=>exact zwXa hE ho hS hA hN h
  |some _=>simp only[evOp,ho]at h; exact hfail ho h
 |fieldAddr S x i=>exact zQKa hE ho hS hA hN h
 |field T x i=>simp only[evOp,ho]at h; exact hfail ho h
 |indexAddr T x i=>exact zPKa hE ho hS hA hN h
 |index T x i=>exact zyXa hE ho hS hA hN h
 |extract x i=>exact zQRa ho hS hA hN h
 |call c =>
  rw[ho]at hp;cases hc:c.callee with
  |builtin b =>
   simp only[zvWa,hc]at hp;simp only[evOp,ho,hc]at h;generalize hxs:c.args.toList=xs at h;generalize hTs:c.argTypes.toList=Ts at h;have h0:=h;unfold evB at h;split at h
   ·exact zg2a hE ho hc hxs hTs hS hA hN h0
   ·exact zd2a ho hc hxs hS hA hN (by rw[hTs]; exact h0)
   ·exact ze2a ho hc hxs hS hA hN (by rw[hTs]; exact h0)
   ·simp at hp
   ·exact hfail ho h
  |_=>simp only[zvWa,hc]at hp; cases hp
 |_=>rw[ho]at hp; cases hp
theorem zI0a {c:Call} (ho:o.op = .defer c) (hS:SR e F w st V fp none') (hA:AR env gh a V) (hN:Nxt env gh e K res next) (h:(evOp env o).run C st K=some res):o.wp P a w next Q:=by
 simp only[evOp,ho]at h;split at h
 ·rename_i x hcal hargs hdf;obtain ⟨sv,h1,hx⟩:=zmfa h;split at h1
  ·rename_i f fst caps;simp only[RM.run]at h1;split at h1
   ·rename_i hu;simp only[RM.run]at h1;have hv:∃us vs:List Value,a.eval x = .func (.func f) us.toArray vs.toArray∧CapsOk F w st V fst us∧CapsOk F w st V caps vs:=by
     rcases hx with ⟨s,rfl,hs,h3⟩|⟨c,rfl,h3⟩|⟨f',rfl,h3⟩
     ·have hev:a.eval (.tmp s)=V (env.b+s):=hA.tmps s hs;have hsv:=hS.sv (env.b+s);rw[←h3]at hsv;rw[hev];exact hsv
     ·unfold cst at h3; (repeat' split at h3)<;>cases h3
     ·cases h3; exact ⟨[],[],rfl,⟨rfl,fun k q hq=>by simp at hq⟩,⟨rfl,fun k q hq=>by simp at hq⟩⟩
    obtain ⟨us,vs,hv,hus,hvs⟩:=hv;have hsv:svR F w st V none' (a.eval x) (.fn f fst caps):=⟨us,vs,hv,hus,hvs⟩
    have hd0:a.defers=[]:=by
     have h4:=hS.sv (env.b+env.n);rw[hu]at h4;obtain ⟨vs',e1,e2,_⟩:=h4;have h5:=hA.defers;rw[hdf,e1]at h5;exact h5
    have hlim:=hA.lim;have hS1:=hS.fillO (d:=env.b+env.n) (v:=a.eval x) (fq:=none') (fl':=none') (fun hc=>absurd hc (by omega)) rfl hsv (fun _ h=>h.elim) (fun _ h=>h.elim);have hA1:AR env gh { a with defers:={ target := .fn (.func f) vs.toArray,args:=us.toArray }::a.defers } (updV V (env.b+env.n) (a.eval x)):=by
     refine ⟨hA.size,fun i hi=>?_,?_,hA.lim,fun i hi=>?_⟩
     ·unfold updV; rw[if_neg (by omega)]; exact hA.tmps i hi
     ·rw[hdf,hd0,show updV V (env.b+env.n) (a.eval x) (env.b+env.n)=a.eval x by simp[updV],hv]; rfl
     ·unfold updV; rw[if_neg (by omega)]; exact hA.keep i hi
    obtain ⟨st',V',fp',k1,k2,k3⟩:=zbwa (v:=undef) (fq:=none') hS1 hA1 rfl h1 trivial (fun _ h=>h.elim);have hca:c.args=#[]:=by apply Array.ext'; rw[hargs]
    have hrun:(execOp a.eval o).run P w = .ok (.defer { target := .fn (.func f) vs.toArray,args:=us.toArray }) w:=by
     simp only[execOp,ho,resolve,hcal,hv,hca,Deferred.ofValue,Sem.run_bind,Sem.run_pure,Result.andThen_ok,Array.map_empty,Array.append_empty]
    unfold Oper.wp;rw[hrun];exact hN _ _ _ _ _ _ k2 k3 k1
   ·simp[RM.run]at h1
  ·simp[RM.run]at h1
 ·simp[RM.run]at h
theorem zeTa (hE:EnvTy P env) (hF:EnvFn P env) (hC:CxOk P env gh e C res Q) (hS:SR e F w st V fp none') (hA:AR env gh a V) (hN:Nxt env gh e K res next) (h:(evOp env o).run C st K=some res):o.wp P a w next Q:=by
 have hfail:∀ {p:Op},o.op=p→(RM.fail:RM Unit).run C st K=some res→o.wp P a w next Q:=fun _ h=>by simp[RM.run]at h
 cases ho:o.op with
 |move x=>exact zBxa (zOZa ho hS hA hN h)
 |assign x=>exact zBxa (zLVa ho hS hA hN h)
 |pick c x y=>exact zBxa (zNZa ho hS hA hN h)
 |alloc T=>exact zK0a hE ho hS hA hN h
 |box T x=>exact ze3a hE ho hS hA hN h
 |build T ps=>exact zBxa (zAXa hE ho hS hA hN h)
 |buildSlice T n ps=>exact zRRa hE ho hS hA hN h
 |load T x=>exact zW2a (zPZa hE ho hS hA hN h)
 |store T x y=>exact zF0a hE ho hS hA hN h
 |nilCheck x=>exact zBxa (zGOa ho hS hA hN h)
 |binOp op T x y U=>exact zBxa (zBXa hE ho hS hA hN h)
 |unOp op T x=>exact zBxa (zMZa ho hS hA hN h)
 |convert S T x=>exact zzXa hE ho hS hA hN h
 |makeFunc fn first caps =>
  cases fn with
  |func f=>exact zBxa (zHOa ho hS hA hN h)
  |_=>simp only[evOp,ho]at h; exact hfail ho h
 |makeInterface T x=>exact zOKa hE ho hS hA hN h
 |panic x=>exact zG0a hC ho hS hA h
 |makeSlice T n c=>exact zeUa hE ho hS hA hN h
 |slice T x lo hi mx =>
  cases mx with
  |none=>exact zBxa (zwXa hE ho hS hA hN h)
  |some _=>simp only[evOp,ho]at h; exact hfail ho h
 |fieldAddr S x i=>exact zBxa (zQKa hE ho hS hA hN h)
 |indexAddr T x i=>exact zBxa (zPKa hE ho hS hA hN h)
 |index T x i=>exact zBxa (zyXa hE ho hS hA hN h)
 |extract x i=>exact zBxa (zQRa ho hS hA hN h)
 |defer c=>exact zI0a ho hS hA hN h
 |call c =>
  cases hc:c.callee with
  |value x=>exact zh2a hF hC ho hc hS hA hN h
  |builtin b =>
   simp only[evOp,ho,hc]at h;generalize hxs:c.args.toList=xs at h;generalize hTs:c.argTypes.toList=Ts at h;have h0:=h;unfold evB at h;split at h
   ·exact zBxa (zg2a hE ho hc hxs hTs hS hA hN h0)
   ·exact zBxa (zd2a ho hc hxs hS hA hN (by rw[hTs]; exact h0))
   ·exact zBxa (ze2a ho hc hxs hS hA hN (by rw[hTs]; exact h0))
   ·exact zRYa hE ho hc hxs hTs hS hA hN h0
   ·exact hfail ho h
  |_=>simp only[evOp,ho,hc]at h; exact hfail ho h
 |_=>simp only[evOp,ho]at h; exact hfail ho h
end
end Go.Trm
namespace Go.Trm
section
variable {P:Program} {env:Env} {e:Entry} {F:Blks} {w:World} {st:St} {V:Nat→Value} {fp:Nat→Blks} {fl:Blks} {a:Act} {R:Type} {res:R} {C:Cx R} {gh:Nat→Value} {Q:Exit→Act→World→Prop}
theorem zB0a {st:St} {d:Nat} {v:SV} (h:st d=v):st.put d v=st:=by
 funext i
 by_cases hi:i=d
 ·subst hi; rw[zWca,h]
 ·rw[zsba hi]
theorem zhXa {dst:Option Nat} (hd:∀d,dst=some d→d<env.n) (hS:SR e F w st V fp none') (hA:AR env gh a V):∃V' fp',SR e F w (skipS env st dst) V' fp' none'∧AR env gh (a.put dst undef) V':=by
 cases dst with
 |none=>exact ⟨V,fp,hS,hA⟩
 |some d =>
  exact ⟨_,_,hS.fillO (fq:=none') (fl':=none') (hA.gd (hd _ rfl)) rfl ⟨[],rfl,rfl,fun _=>none',⟨fun _ _ _ _ hb=>hb.elim⟩,fun _ _ hb=>hb.elim,fun k t m x hk=>by simp at hk⟩ (fun _ hb=>hb.elim) (fun _ hb=>hb.elim),hA.put (hd _ rfl)⟩
theorem zl0a {d:Nat} (hA:AR env gh a V) (hd:d<env.n):a.tmps[d]?=some (V (env.b+d)):=by
 have h1:d<a.tmps.size:=by rw[hA.size]; exact hd
 have h2:=hA.tmps d hd;rw[Array.getD,dif_pos h1]at h2;rw[Array.getElem?_eq_getElem h1];exact congrArg some h2
theorem zjYa {ops:Array Oper} {o:Oper} {K:St→Option R} (hS:SR e F w st V fp none') (hA:AR env gh a V) (h:evG env C ops.toList o st K=some res) :
  (Region.wanted o (yielded ops a.tmps)=true∧(evOp env o).run C st (fun _ st=>K st)=some res) ∨
  (Region.wanted o (yielded ops a.tmps)=false∧K (skipS env st o.dst)=some res∧∀d,o.dst=some d→d<env.n):=by
 unfold evG at h;split at h
 ·rename_i hg;exact .inl ⟨by simp[Region.wanted,hg],h⟩
 ·rename_i j want hg;split at h
  ·cases h
  ·rename_i d hj;have hjd:(ops[j]?).bind (·.dst)=some d:=by
    rw[←Array.getElem?_toList];split at hj
    ·rename_i oj ho; rw[ho]; exact hj
    ·cases hj
   split at h
   ·cases h
   ·rename_i hdn;have hyd:yielded ops a.tmps j=match V (env.b+d) with | .bool b=>some b|_=>none:=by
     unfold yielded;rw[hjd,Option.bind_some,zl0a hA (zsta hdn)];split
     ·rename_i heq; simp only[Option.some.injEq]at heq; rw[heq]
     ·rename_i hne;split
      ·rename_i b hb; exact absurd (by rw[hb]) (hne b)
      ·rfl
    have hsv:=hS.sv (env.b+d);split at h
    ·rename_i b hst;rw[hst]at hsv;have hv:V (env.b+d) = .bool b:=zkGa (m := .s) (hsv.1 nofun) nofun hsv.2;rw[hv]at hyd;simp only at hyd;cases b<;>cases want<;>simp only[cond_true,cond_false,zB0a hst]at h
     ·exact .inl ⟨by simp[Region.wanted,hg,hyd],h⟩
     ·exact .inr ⟨by simp[Region.wanted,hg,hyd],zqPa h⟩
     ·exact .inr ⟨by simp[Region.wanted,hg,hyd],zqPa h⟩
     ·exact .inl ⟨by simp[Region.wanted,hg,hyd],h⟩
    ·rename_i hst;rw[hst]at hsv;obtain ⟨vs,e1,e2,_⟩:=hsv;have hvs:vs=[]:=List.eq_nil_of_length_eq_zero e2;have hv:V (env.b+d) = .tuple #[]:=by rw[e1,hvs]
     rw[hv]at hyd;exact .inr ⟨by simp[Region.wanted,hg,hyd],zqPa h⟩
    ·cases h
end
end Go.Trm
namespace Go.Trm
section
variable {P:Program} {ops:Array Oper} {Q:Exit→Act→World→Prop} {md:Region.Mode} {C:World→Prop}
def wpC (P:Program) (md:Region.Mode) (ops:Array Oper) (Q:Exit→Act→World→Prop) (C:World→Prop):Nat→Array Bool→Act→World→Prop
 |0,listed,a,w=>C w∧Region.ready md ops listed=[]∧Q .normal a w
 |fuel+1,listed,a,w=>C w∧(Region.ready md ops listed=[]→Q .normal a w) ∧
  ∀i∈Region.ready md ops listed,wpOp P ops Q i (wpC P md ops Q C fuel (listed.setIfInBounds i true)) a w
theorem zCZa:∀ {fuel:Nat} {listed:Array Bool} {a:Act} {w:World},wpC P md ops Q C fuel listed a w→wpAny P md ops Q fuel listed a w
 |0,_,_,_,h=>h.2
 |_+1,_,_,_,h=>⟨h.2.1,fun i hi=>wpOp_mono (fun _ _ h=>zCZa h) (h.2.2 i hi)⟩
def YC (P:Program) (ops:Array Oper) (C:World→Prop) (o:Oper) (v:Value) (a:Act):Prop :=
 (Region.wanted o (yielded ops a.tmps)=true∧∀w,C w→(execOp a.eval o).run P w = .ok (.value v) w) ∨
 (Region.wanted o (yielded ops a.tmps)=false∧v=undef)
theorem YC.wpOp {i:Nat} {o:Oper} {v:Value} {a:Act} (hi:ops[i]?=some o) (hy:YC P ops C o v a) {K:Act→World→Prop} {w:World} (hw:C w) (h:K (a.put o.dst v) w):wpOp P ops Q i K a w:=by
 unfold Go.wpOp;simp only[hi];rcases hy with ⟨hw',hv⟩|⟨hw',rfl⟩
 ·simp only[hw',if_true,Oper.wp,hv w hw,Oper.upon]; exact .inl h
 ·simp only[hw',Bool.false_eq_true,if_false]; exact h
theorem YC.of_same {o:Oper} {v:Value} {a a':Act} (hy:YC P ops C o v a) (he:execOp a'.eval o=execOp a.eval o) (hw:Region.wanted o (yielded ops a'.tmps)=Region.wanted o (yielded ops a.tmps)):YC P ops C o v a':=by
 unfold YC at *;rw[he,hw];exact hy
theorem zDYa {j:Nat} {oi oj:Oper} {v:Value} (hj:ops[j]?=some oj) (hap:oi.apart ops oj=true)
  (hsi:∀cs b,oi.op ≠ .select cs b) (hsj:∀cs b,oj.op ≠ .select cs b)
  (hQ:∀c a w,Q (.panic c) (a.put oi.dst v) w→Q (.panic c) a w) {K:Act→World→Prop} {a:Act} {w:World}
  (hy:YC P ops C oi v a) (h:wpOp P ops Q j K (a.put oi.dst v) w) :
  wpOp P ops Q j (fun a' w'=>YC P ops C oi v a'∧K (a'.put oi.dst v) w') a w:=by
 obtain ⟨h1,h2,h3⟩:=Oper.apart_spec hap;have keep:∀(a:Act),YC P ops C oi v a→∀u,YC P ops C oi v (a.put oj.dst u):=fun a hy u =>
  hy.of_same (execOp_put oi hsi a oj.dst u h3) (wanted_put oi a oj.dst u h3)
 have keepD:∀d,YC P ops C oi v { a with defers:=d::a.defers }:=fun d=>hy.of_same rfl rfl
 unfold wpOp at *;simp only[hj]at *;rw[wanted_put oj a oi.dst v h1]at h;split
 ·rename_i hw;simp only[hw,if_true]at h;rcases h with h|⟨hasks,hlets⟩
  case inr=>exact .inr ⟨by unfold Oper.asks at *; rw[execOp_put oj hsj a oi.dst v h1]at hasks; exact hasks,hlets⟩
  refine .inl ?_;unfold Oper.wp at *;rw[execOp_put oj hsj a oi.dst v h1]at h;generalize (execOp a.eval oj).run P w=r at *;cases r with
  |ok n w' =>
   cases n<;>simp only[Oper.upon]at h ⊢
   case value u=>exact ⟨keep a hy u,by rw[←Act.put_comm a v u h2]; exact h⟩
   case skip=>exact ⟨keep a hy _,by rw[←Act.put_comm a v undef h2]; exact h⟩
   case defer d =>
    refine ⟨keep _ (keepD d) _,?_⟩;rw[←Act.put_comm _ v undef h2,←Act.put_defers];exact h
   case enter f args =>
    refine Calls.mono h fun e w'' he=>?_
    cases e with
    |returned u=>exact ⟨keep a hy u,by rw[←Act.put_comm a v u h2]; exact he⟩
    |panicked c=>exact hQ _ _ _ he
    |outgrown=>exact he
   case row row args=>exact Rows.mono h fun u w'' he=>⟨keep a hy u,by rw[←Act.put_comm a v u h2]; exact he⟩
  |halt x w' =>
   cases x<;>simp only[Oper.upon]at h ⊢
   case panic u=>exact hQ _ _ _ h
 ·rename_i hw;simp only[hw]at h;exact ⟨keep a hy _,by rw[←Act.put_comm a v undef h2]; exact h⟩
theorem zEYa {i:Nat} {oi:Oper} {v:Value} (hi:ops[i]?=some oi) (hsel:∀(j:Nat) (o:Oper) cs b,ops[j]?=some o→o.op ≠ .select cs b)
  (hQ:∀c a w,Q (.panic c) (a.put oi.dst v) w→Q (.panic c) a w) :
  ∀(fuel:Nat) (listed:Array Bool) (a:Act) (w:World),
   (∀j oj,ops[j]?=some oj→j≠i→listed.getD j true=false→(∀e∈oj.after,Region.binds md e=true→e.on≠i)→oi.apart ops oj=true) →
   i∈Region.ready md ops listed→YC P ops C oi v a →
   wpC P md ops Q C fuel (listed.setIfInBounds i true) (a.put oi.dst v) w→wpC P md ops Q C (fuel+1) listed a w:=by
 intro fuel
 induction fuel with
 |zero =>
  intro listed a w _ hr hy H;refine ⟨H.1,fun h=>(by rw[h]at hr; cases hr),fun j hj=>?_⟩;by_cases hji:j=i
  ·subst hji; exact hy.wpOp hi H.1 H
  ·have:=ready_mono hj hji;rw[H.2.1]at this;cases this
 |succ fuel ih =>
  intro listed a w hfree hr hy H;refine ⟨H.1,fun h=>(by rw[h]at hr; cases hr),fun j hj=>?_⟩;by_cases hji:j=i
  ·subst hji; exact hy.wpOp hi H.1 H
  ·have h1:=H.2.2 j (ready_mono hj hji);obtain ⟨hjun,oj,hoj,hall⟩:=mem_ready.1 hj;have hnot:∀e∈oj.after,Region.binds md e=true→e.on≠i:=fun e he hb heq=>by
    have h1:=hall e he hb;have h0:=(mem_ready.1 hr).1;rw[heq]at h1;rcases Nat.lt_or_ge i listed.size with h'|h'
    ·simp[h']at h0 h1; rw[h0]at h1; cases h1
    ·simp[Array.getElem?_eq_none h']at h1
   have h2:=zDYa hoj (hfree j oj hoj hji hjun hnot) (fun cs b=>hsel i oi cs b hi) (fun cs b=>hsel j oj cs b hoj) hQ hy h1;have hfree':∀k ok,ops[k]?=some ok→k≠i→(listed.setIfInBounds j true).getD k true=false →
     (∀e∈ok.after,Region.binds md e=true→e.on≠i)→oi.apart ops ok=true:=fun k ok hk hki hun hno=>by
    refine hfree k ok hk hki ?_ hno;by_cases hjk:j=k
    ·subst hjk; exact hjun
    ·rw[getD_set_ne true hjk]at hun; exact hun
   refine wpOp_mono (fun a' w' h3=>ih (listed.setIfInBounds j true) a' w' hfree' (ready_mono hr (Ne.symm hji)) h3.1 ?_) h2;rw[Array.setIfInBounds_comm _ _ hji];exact h3.2
theorem zf0a {i:Nat} {oi:Oper} {v:Value} {fuel:Nat} {listed:Array Bool} {a:Act} {w:World} (hi:ops[i]?=some oi)
  (hs:Region.noSelect ops=true) (hf:Region.free md ops listed i=true) (hr:i∈Region.ready md ops listed)
  (hQ:∀c a w,Q (.panic c) (a.put oi.dst v) w→Q (.panic c) a w) (hy:YC P ops C oi v a)
  (h:wpC P md ops Q C fuel (listed.setIfInBounds i true) (a.put oi.dst v) w):wpC P md ops Q C (fuel+1) listed a w :=
 zEYa hi (Region.noSelect_spec hs) hQ fuel listed a w (Region.free_spec hi hf) hr hy h
end
theorem zH0a {env:Env} {e:Entry} {F:Blks} {w:World} {st:St} {V:Nat→Value} {fp:Nat→Blks} {a:Act} {o:Oper} {R:Type} {K:Unit→St→Option R} {res:R} {C:Cx R} {gh:Nat→Value} {next:Act→World→Prop} {P:Program} {T:TypeId} {s:Nat}
  {U:TypeId} {t:Ty} {y:(Ty.ptr U t).I} (hE:EnvTy P env) (ho:o.op = .load T (.tmp s)) (hst:st (env.b+s) = .v (.ptr U t) .s y) (hS:SR e F w st V fp none') (hA:AR env gh a V) (hN:Nxt env gh e K res next) (h:(evOp env o).run C st K=some res) :
  ∃v,(∀w',(∀b,F b→Same w w' b)→(execOp a.eval o).run P w' = .ok (.value v) w')∧next (a.put o.dst v) w:=by
 simp only[evOp,ho,rdP]at h;obtain ⟨sv0,h,hx0⟩:=zmfa h;have hsv0:sv0 = .v (.ptr U t) .s y:=by
  rcases hx0 with ⟨s',hs',hs,h9⟩|⟨c,hc,_⟩|⟨f,hf,_⟩
  ·cases hs';rw[hst]at h9;exact h9
  ·cases hc
  ·cases hf
 subst hsv0;dsimp only at h;obtain ⟨sv,h1,hx⟩:=zmfa h;rcases hx with ⟨s',hs',hs,rfl⟩|⟨c,hc,_⟩|⟨f,hf,_⟩
 ·cases hs';have hev:a.eval (.tmp s)=V (env.b+s):=hA.tmps s hs;have hsv:=hS.sv (env.b+s);rw[hst]at h1 hsv;cases y with
  |none=>simp[RM.run]at h1
  |some y =>
   dsimp only at h1;have hr:=hsv.2;simp only[rep]at hr;obtain ⟨A,e1,ad,rfl,hsp,e2,e3,e4⟩:=hr;obtain ⟨b,k,sp⟩:=ad;simp only at hsp;subst hsp;have hval:a.eval (.tmp s) = .pointer (some ⟨b,k,none⟩):=by rw[hev,zLZa (hsv.1 nofun)]; exact e1
   split at h1
   ·rename_i hT;have h1':t.agg=false→one (rowW w b k 0):=fun hag=>zJwa e4 nofun hag
    obtain ⟨st',V',fp',F',k1,k2,k3⟩:=zmHa (v:=valOf t (rowW w b k)) (fq:=none') hS hA h1 (fun _=>zOva h1') (rep_s (zEaa (fun j hj=>(zPxa h1' j hj).symm) e4)) (fun _ hb=>hb);refine ⟨_,fun w' hw'=>?_,hN _ _ _ _ _ _ k2 k3 k1⟩;have hsm:=hw' b e2;have e3':=(zAca hsm).2 e3;rw[←zRfa hsm];simp only[execOp,ho,hval,Instr.loadAt,Instr.sureAddr,Sem.run_bind,Sem.run_pure,Result.andThen_ok,pure_bind,zwta (Env.is_ok hE hT) e3']
   ·simp[RM.run]at h1
 ·cases hc
 ·cases hf
section
variable {P:Program} {env:Env} {e:Entry} {R:Type} {res:R} {C:Cx R} {gh:Nat→Value}
def Entry.now (e:Entry) (F:Blks) (w:World):Entry:=⟨w,fun b=>¬F b∧(e.O b∨e.w0.heap.size≤b),F⟩
theorem SR.now {F:Blks} {w:World} {st:St} {V:Nat→Value} {fp:Nat→Blks} (h:SR e F w st V fp none'):SR (e.now F w) F w st V fp none' :=
 ⟨h.sv,h.disj,h.notF,h.inH,h.inF,h.flD,h.flF,h.flH,Grew.refl _,fun _ _ _=>rfl,fun i b hb => .inl ⟨h.notF i b hb,h.g3 i b hb⟩,fun _ hb=>hb.elim,fun _ hb=>hb,fun _ hb => .inl hb⟩
theorem SR.then {F F':Blks} {w w':World} {st st':St} {V V':Nat→Value} {fp fp':Nat→Blks} (h:SR e F w st V fp none') (h':SR (e.now F w) F' w' st' V' fp' none'):SR e F' w' st' V' fp' none':=by
 have h1:=h'.g1.size;have h0:=h.g1.size;have hs:(e.now F w).w0.heap.size=w.heap.size:=rfl;refine ⟨h'.sv,h'.disj,h'.notF,h'.inH,h'.inF,h'.flD,h'.flF,h'.flH,h.g1.trans h'.g1,fun b hb hO=>?_,fun i b hb=>?_,fun _ hb=>hb.elim,fun b hb=>h'.g5 b (h.g5 b hb),fun b hb=>?_⟩
 ·refine zMja (h.g2 b hb hO) (h'.g2 b (by omega) fun hc=>?_);rcases hc.2 with hc|hc
  ·exact hO hc
  ·omega
 ·rcases h'.g3 i b hb with hb|hb
  ·exact hb.2
  ·right; omega
 ·rcases h'.g6 b hb with hb|hb|hb
  ·exact h.g6 b hb
  ·exact .inr hb.2
  ·right; right; omega
theorem CxOk.now {Q:Exit→Act→World→Prop} {F:Blks} {w:World} {st:St} {V:Nat→Value} {fp:Nat→Blks} (h:SR e F w st V fp none') (hC:CxOk P env gh e C res Q):CxOk P env gh (e.now F w) C res Q :=
 ⟨fun p ch F' w' st' V' fp' a hS' hA hp hk=>hC.pan p ch _ _ _ _ _ a (h.then hS') hA hp hk,⟨h.gl hC.gl,fun b hb=>⟨fun hc=>hc.1 hb,h.inF b hb⟩⟩,hC.inl⟩
def Cl (ro:Bool) (F:Blks) (w w':World):Prop:=if ro=true then w'=w else ∀b,F b→Same w w' b
theorem zHTa {P:Program} {ops:Array Oper} {Q:Exit→Act→World→Prop} {md:Region.Mode} {C C':World→Prop} (hC:∀w,C' w→C w):∀ {fuel:Nat} {listed:Array Bool} {a:Act} {w:World},wpC P md ops Q C' fuel listed a w→wpC P md ops Q C fuel listed a w
 |0,_,_,_,h=>⟨hC _ h.1,h.2⟩
 |_+1,_,_,_,h=>⟨hC _ h.1,h.2.1,fun i hi=>wpOp_mono (fun _ _ h=>zHTa hC h) (h.2.2 i hi)⟩
theorem zpZa {l:List (Option R)} {r:R} (h:evAll l=some r):∀x∈l,x=some r:=by
 induction l with
 |nil=>cases h
 |cons x xs ih =>
  cases xs with
  |nil=>intro y hy; simp only[List.mem_singleton]at hy; rw[hy]; exact h
  |cons z zs =>
   obtain ⟨h1,h2⟩:=zpRa (show both x (evAll (z::zs))=some r from h);intro y hy;rcases List.mem_cons.1 hy with hy|hy
   ·rw[hy]; exact h1
   ·exact ih h2 y hy
theorem zlYa (hE:EnvTy P env) (hF:EnvFn P env) {ops:Array Oper} {ro:Bool} (hsel:Region.noSelect ops=true) {K:St→Option R} {Q:Exit→Act→World→Prop} (hQp:∀(i:Nat) o c a w v,ops[i]?=some o→Q (.panic c) (a.put o.dst v) w→Q (.panic c) a w) :
  ∀(fuel:Nat) (listed:Array Bool) (e:Entry) (F:Blks) (w:World) (st:St) (V:Nat→Value) (fp:Nat→Blks) (a:Act),CxOk P env gh e C res Q→(∀F w st V fp a,SR e F w st V fp none'→AR env gh a V→K st=some res→Q .normal a w) →
   SR e F w st V fp none'→AR env gh a V→zfTa env C ops ro fuel listed st K=some res→wpC P .any ops Q (Cl ro F w) fuel listed a w:=by
 have hCl:∀ {F:Blks} {w:World},Cl ro F w w:=by
  intro F w;unfold Cl;split
  ·rfl
  ·exact fun b hb=>rfl
 intro fuel
 induction fuel with
 |zero =>
  intro listed e F w st V fp a hC hQ hS hA h;simp only[zfTa]at h;split at h
  ·rename_i hr;exact ⟨hCl,hr,hQ _ _ _ _ _ _ hS hA h⟩
  ·cases h
 |succ fuel ih =>
  intro listed e F w st V fp a hC hQ hS hA h;have hQ':∀F' w' st V fp a,SR (e.now F w) F' w' st V fp none'→AR env gh a V→K st=some res→Q .normal a w':=fun F' w' st V fp a hS' hA' h'=>hQ _ _ _ _ _ _ (hS.then hS') hA' h'
  simp only[zfTa]at h;split at h
  ·rename_i i hfi;have hmem:=List.mem_of_find?_eq_some hfi;have hprop:=List.find?_some hfi;simp only[Bool.and_eq_true]at hprop;split at h
   ·rename_i o ho;have hst:zp0a env ro st o=true:=by
     have:=hprop.2;unfold opAt at this;rw[ho]at this;exact this
    have hmono:∀ {F':Blks} {a':Act},(∀b,F b→F' b)→wpC P .any ops Q (Cl ro F' w) fuel (listed.setIfInBounds i true) a' w→wpC P .any ops Q (Cl ro F w) fuel (listed.setIfInBounds i true) a' w:=by
     intro F' a' hFF h;refine zHTa (fun x hx=>?_) h;unfold Cl at hx ⊢;split
     ·rename_i hr; rw[if_pos hr]at hx; exact hx
     ·rename_i hr; rw[if_neg hr]at hx; exact fun b hb=>hx b (hFF b hb)
    have key:∃v,YC P ops (Cl ro F w) o v a∧wpC P .any ops Q (Cl ro F w) fuel (listed.setIfInBounds i true) (a.put o.dst v) w:=by
     rcases zjYa hS hA h with ⟨hw,h⟩|⟨hw,h⟩
     ·have hN:Nxt env gh (e.now F w) (fun _ st=>zfTa env C ops ro fuel (listed.setIfInBounds i true) st K) res (fun a' w'=>w'=w→wpC P .any ops Q (Cl ro F w) fuel (listed.setIfInBounds i true) a' w'):=by
       intro F' w' st' V' fp' a' hS' hA' h' hw';subst hw';exact hmono (fun b hb=>hS'.g5 b hb) (ih _ _ _ _ _ _ _ _ (hC.now hS) hQ' hS' hA' h')
      unfold zp0a at hst;simp only[Bool.or_eq_true]at hst;rcases hst with hp|hp|hl
      ·obtain ⟨v,v1,v2⟩:=zoZa hE hp hS.now hA hN h;exact ⟨v,.inl ⟨hw,fun w' _=>v1 w'⟩,v2 rfl⟩
      ·obtain ⟨v,v1,v2⟩:=zJ0a hE hp hS.now hA hN h;exact ⟨v,.inl ⟨hw,fun w' _=>v1 w'⟩,v2 rfl⟩
      ·split at hl
       ·rename_i T s hop;simp only[Bool.or_eq_true]at hl;rcases hl with hr|hl
        ·obtain ⟨v,v1,v2⟩:=zPZa hE hop hS.now hA hN h;refine ⟨v,.inl ⟨hw,fun w' hw'=>?_⟩,v2 rfl⟩;unfold Cl at hw';rw[if_pos hr]at hw';rw[hw'];exact v1
        ·split at hl
         ·rename_i U t y hsy;obtain ⟨v,v1,v2⟩:=zH0a hE hop hsy hS.now hA hN h;refine ⟨v,.inl ⟨hw,fun w' hw'=>v1 w' ?_⟩,v2 rfl⟩;unfold Cl at hw';split at hw'
          ·rw[hw']; exact fun b _=>rfl
          ·exact hw'
         ·rename_i hsy;simp only[evOp,hop,rdP]at h;obtain ⟨sv0,h,hx⟩:=zmfa h;rcases hx with ⟨s',hs',hs,rfl⟩|⟨c,hc,_⟩|⟨f,hf,_⟩
          ·cases hs';rw[hsy]at h;obtain ⟨sv,h1,hx⟩:=zmfa h;rcases hx with ⟨s',hs',hs,rfl⟩|⟨c,hc,_⟩|⟨f,hf,_⟩
           ·cases hs';rw[hsy]at h1;simp[RM.run]at h1
           ·cases hc
           ·cases hf
          ·cases hc
          ·cases hf
         ·rename_i r p hsy;simp only[evOp,hop]at h;obtain ⟨sv,h1,hx⟩:=zmfa h;have hxx:sv = .bx r p:=by
           rcases hx with ⟨s',hs',hs,rfl⟩|⟨c,hc,_⟩|⟨f,hf,_⟩
           ·cases hs'; exact hsy
           ·cases hc
           ·cases hf
          subst hxx;obtain ⟨v,v1,v2⟩:=zxXa hE hop (zv1a hS.now hA hx) hS.now hA hN h1;refine ⟨v,.inl ⟨hw,fun w' hw'=>v1 w' ?_⟩,v2 rfl⟩;unfold Cl at hw';split at hw'
          ·rw[hw']; exact fun b _=>rfl
          ·exact hw'
         ·cases hl
       ·cases hl
     ·obtain ⟨V',fp',h1,h2⟩:=zhXa (dst:=o.dst) h.2 hS.now hA;exact ⟨undef,.inr ⟨hw,rfl⟩,ih _ _ _ _ _ _ _ _ (hC.now hS) hQ' h1 h2 h.1⟩
    obtain ⟨v,k1,k2⟩:=key;exact zf0a ho hsel hprop.1 hmem (fun c a w hc=>hQp i o c a w _ ho hc) k1 k2
   ·cases h
  ·split at h
   ·rename_i hr;exact ⟨hCl,fun _=>hQ _ _ _ _ _ _ hS hA h,fun i hi=>by rw[hr]at hi; cases hi⟩
   ·split at h
    ·have hN:∀i F' w' st' V' fp' a',SR (e.now F w) F' w' st' V' fp' none'→AR env gh a' V'→zfTa env C ops false fuel (listed.setIfInBounds i true) st' K=some res→wpC P .any ops Q (Cl false F w) fuel (listed.setIfInBounds i true) a' w':=by
      intro i F' w' st' V' fp' a' hS' hA' h';refine zHTa (fun x hx=>?_) (ih _ _ _ _ _ _ _ _ (hC.now hS) hQ' hS' hA' h');unfold Cl at hx ⊢;simp only[Bool.false_eq_true,if_false]at hx ⊢;exact fun b hb=>zMja (hS'.g2 b (hS.inF b hb) (fun hc=>hc.1 hb)) (hx b (hS'.g5 b hb))
     refine ⟨hCl,(fun hc=>by rw[hc]at h; cases h),fun j hj=>?_⟩;have h:=zpZa h _ (List.mem_map.2 ⟨j,hj,rfl⟩);split at h
     ·rename_i o ho;unfold wpOp;rw[ho];rcases zjYa hS.now hA h with ⟨hw,h⟩|⟨hw,h⟩
      ·simp only;rw[if_pos hw];exact .inl (zeTa hE hF (hC.now hS) hS.now hA (fun F' w' st' V' fp' a' hS' hA' h'=>hN j F' w' st' V' fp' a' hS' hA' h') h)
      ·simp only;rw[hw];obtain ⟨V',fp',h1,h2⟩:=zhXa (dst:=o.dst) h.2 hS.now hA;exact hN _ _ _ _ _ _ _ h1 h2 h.1
     ·cases h
    ·cases h
end
end Go.Trm
