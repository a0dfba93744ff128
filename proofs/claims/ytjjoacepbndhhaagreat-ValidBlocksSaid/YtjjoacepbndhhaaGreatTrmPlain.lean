import Derived.Test.YtjjoacepbndhhaaGreatTrmFn
import Derived.WalkKit
import Derived.ProofKit
import Derived.OpenShut
import Derived.ShutString
import Derived.ChangeOld
import Derived.Below
import Derived.SizedLaws
import Derived.Deep.Slices
import Derived.WalkSpells
import Derived.WalkLawsBesides
import Derived.Deep.Upon
import Derived.Defers
import Derived.Recover
import Derived.KernelRfl
import Derived.IntWalk
set_option linter.unusedVariables false
set_option linter.unusedSimpArgs false
namespace Go.Trm
def zCJa (env:Env):Code→List (Code×Nat)
 | .seq a b=>zCJa env a++(zCJa env b++(match zU0a env b with|some i=>[(a,i)]|none=>[]))
 | .cond _ a b=>zCJa env a++zCJa env b
 | .block _ c=>zCJa env c
 | .scope c=>zCJa env c
 | .loop c=>zCJa env c
 |_=>[]
theorem zjSa {env:Env} {lp:Loops} {inl:Inl}:∀ {code:Code},(∀c∈zBJa code,zCTa env lp inl c)→(∀q∈zCJa env code,zDTa env lp inl q.1 q.2)→zsaa env lp inl code:=by
 intro code
 induction code with
 |seq a b iha ihb =>
  intro h g;refine ⟨iha (fun c hc=>h c (List.mem_append.2 (.inl hc))) (fun q hq=>g q (List.mem_append.2 (.inl hq))),ihb (fun c hc=>h c (List.mem_append.2 (.inr hc))) (fun q hq=>g q (List.mem_append.2 (.inr (List.mem_append.2 (.inl hq))))),fun i hi=>?_⟩;exact g (a,i) (List.mem_append.2 (.inr (List.mem_append.2 (.inr (by rw[hi]; exact List.mem_cons_self)))))
 |cond x a b iha ihb=>intro h g; exact ⟨iha (fun c hc=>h c (List.mem_append.2 (.inl hc))) (fun q hq=>g q (List.mem_append.2 (.inl hq))),ihb (fun c hc=>h c (List.mem_append.2 (.inr hc))) (fun q hq=>g q (List.mem_append.2 (.inr hq)))⟩
 |block i c ih=>intro h g; exact ih h g
 |scope c ih=>intro h g; exact ih h g
 |loop c ih=>intro h g; exact ⟨h c List.mem_cons_self,ih (fun c' hc=>h c' (List.mem_cons_of_mem _ hc)) g⟩
 |_=>intro h g; trivial
theorem zSga {env:Env} {lp:Loops} {inl:Inl} {code:Code} (h:zBJa code=[]) (g:zCJa env code=[]):zsaa env lp inl code :=
 zjSa (fun c hc=>by rw[h]at hc; cases hc) (fun q hq=>by rw[g]at hq; cases hq)
def loopN {X R:Type} (B:(X→Option R)→X→Option R):Nat→X→Option R
 |0,_=>none
 |n+1,x=>B (loopN B n) x
theorem zJ2a:∃n:Nat,n=18446744073709551616:=⟨_,rfl⟩
noncomputable def zpaa:Nat:=Classical.choose zJ2a
theorem zXVa:zpaa=18446744073709551616:=Classical.choose_spec zJ2a
theorem zCXa {l:List Nat} {st:St}:∀ {i},(St.ofList (l.map fun s=>(s,st s))) i=if i∈l then st i else .un:=by
 intro i
 induction l with
 |nil=>rfl
 |cons s l ih =>
  simp only[List.map_cons,St.ofList];cases hb:Nat.beq i s with
  |true=>obtain rfl:=Nat.eq_of_beq_eq_true hb; simp
  |false =>
   have:i≠s:=fun hc=>by subst hc; rw[Nat.beq_refl]at hb; cases hb
   simp only[ih,List.mem_cons,this,false_or]
theorem zSYa {l:List Nat} {st:St}:(st.only l).only l=st.only l:=by
 funext i
 simp only[St.only,zCXa];split
 ·rfl
 ·rfl
theorem zYya {R:Type} {T:Unit→St→Option R} {r:R}:∀ {l:List (Nat×Bool)} {st:St},(zlHa l).run Cx.no st T=some r→∃st',(∀(R':Type) (T':Unit→St→Option R'),(zlHa l).run Cx.no st T'=T' () st')∧T () st'=some r
 |[],st,h=>⟨st,fun _ _=>rfl,h⟩
 |(s,false)::l,st,h=>by
  obtain ⟨st',h1,h2⟩:=zYya (l:=l) (st:=st) h;exact ⟨st',h1,h2⟩
 |(s,true)::l,st,h=>by
  have hfz:∀ {st:St},(zDra (some (s,[])) (zlHa l)).run Cx.no st T=some r→∃st',(∀(R':Type) (T':Unit→St→Option R'),(zDra (some (s,[])) (zlHa l)).run Cx.no st T'=T' () st')∧T () st'=some r:=by
   intro st h;simp only[zDra,RM.run]at h ⊢;cases hs:st s with
   |v t m x =>
    simp only[hs]at h ⊢;cases hg:getP t m x [] with
    |none=>simp only[hg]at h; simp[RM.run]at h
    |some q =>
     obtain ⟨u,mo,y⟩:=q;simp only[hg]at h ⊢;split at h
     ·rename_i m' x' hn hp;simp only[RM.run]at h;simp only[hn,hp,RM.run];obtain ⟨st',h1,h2⟩:=zYya (l:=l) h;exact ⟨st',h1,h2⟩
     ·simp[RM.run]at h
   |_=>simp only[hs]at h; simp[RM.run]at h
  unfold zlHa at h ⊢;simp only[RM.run]at h ⊢;cases hs:st s with
  |v t m x =>
   simp only[hs]at h ⊢;cases m with
   |s =>
    obtain ⟨st',h1,h2⟩:=zYya (l:=l) (st:=st) h;exact ⟨st',h1,h2⟩
   |j=>simp[RM.run]at h
   |o m=>exact hfz h
   |p m1 m2=>exact hfz h
  |_ =>
   simp only[hs]at h ⊢;obtain ⟨st',h1,h2⟩:=zYya (l:=l) (st:=st) h;exact ⟨st',h1,h2⟩
theorem zuTa {R:Type} {T:St→Option R} {r:R} {l:List (Nat×Bool)} {st:St} (h:zAka l st T=some r):∃st',(∀(R':Type) (T':St→Option R'),zAka l st T'=T' (St.only st' (l.map Prod.fst)))∧T (St.only st' (l.map Prod.fst))=some r:=by
 obtain ⟨st',h1,h2⟩:=zYya (l:=l) (st:=st) h;exact ⟨st',fun R' T'=>h1 R' _,h2⟩
section
variable {env:Env} {lp:Loops} {inl:Inl} {c:Code} {hd:List (Nat×Bool)} {out:Ex→List (Nat×Bool)}
theorem zs2a {R X:Type} {S:X→St} {K:Ex→St→Option R} {B:(X→Option R)→X→Option R}
  (step:∀(rec:St→Option R) (x:X),evC env lp inl c (S x) (fun e st=>match e with | .normal=>zAka hd st rec|e=>zAka (out e) st (K e))=B (fun x=>rec (S x)) x) :
  ∀n x,zJOa env lp inl c hd out n (S x) K=loopN B n x:=by
 intro n
 induction n with
 |zero=>intro x; rfl
 |succ n ih =>
  intro x;have h:=step (fun st=>zJOa env lp inl c hd out n st K) x;rw[show (fun x=>zJOa env lp inl c hd out n (S x) K)=loopN B n from funext ih]at h;exact h
theorem zXYa {X:Type} {S:X→St} (B:(R:Type)→(Ex→St→Option R)→(X→Option R)→X→Option R) (fuel:X→Nat) (i:Nat)
  (step:∀(R:Type) (K:Ex→St→Option R) (rec:St→Option R) (x:X),evC env lp inl c (S x) (fun e st=>match e with | .normal=>zAka hd st rec|e=>zAka (out e) st (K e))=B R K (fun x=>rec (S x)) x)
  (hi:zcua c=some i) (g:(R:Type)→(Ex→St→Option R)→St→Option R) (hlp:∀R st K,lp false i R st K=zAka hd st (g R K)) (hg:∀R st K r,g R K (St.only st (hd.map Prod.fst))=some r→∃x,St.only st (hd.map Prod.fst)=S x∧loopN (B R K) (fuel x) x=some r):zCTa env lp inl c:=by
 intro j hj R st K r h;rw[hi]at hj;cases hj;rw[hlp]at h;obtain ⟨st',h1,h2⟩:=zuTa h;obtain ⟨x,h3,h4⟩:=hg R st' K r h2;refine ⟨hd,out,fuel x,?_⟩;rw[h1,h3,zs2a (step R K) (fuel x) x];exact h4
theorem zbZa {X:Type} {S:X→St} (J:(R:Type)→(Ex→St→Option R)→X→Option R) (i:Nat)
  (step:∀(R:Type) (K:Ex→St→Option R) (x:X),evC env lp inl c (S x) (fun e st=>zAka (out e) st (K e))=J R K x)
  (g:(R:Type)→(Ex→St→Option R)→St→Option R) (hlp:∀R st K,lp true i R st K=zAka hd st (g R K)) (hg:∀R st K r,g R K (St.only st (hd.map Prod.fst))=some r→∃x,St.only st (hd.map Prod.fst)=S x∧J R K x=some r):zDTa env lp inl c i:=by
 intro R st K r h;rw[hlp]at h;obtain ⟨st',h1,h2⟩:=zuTa h;obtain ⟨x,h3,h4⟩:=hg R st' K r h2;refine ⟨hd,out,?_⟩;rw[h1,h3,step R K x];exact h4
end
end Go.Trm
namespace Go.Trm
def zx0a {α:Type} (env:Env) (r:Nat) (k:SV→RM α):RM α :=
 match Nat.blt r env.n with
 |false => .fail
 |true => .get (env.b+r) fun v=>match v with
  | .v t .s y=>k (.v t .s y)
  | .v _ .j _ => .fail
  | .v t m y=>take (some (env.b+r,[])) (k (.v t m y))
  | .tup _ => .fail
  | .un => .fail
  | .bx _ _ => .fail
  | .lz q p=>match hi env.b q with
   |true=>rdV env 0 (.tmp r) fun t m y src=>take src (k (.v t m y))
   |false=>k (.lz q p)
  |v=>match v.cut env.b with
   | .un => .fail
   |_=>k v
def zmXa {α:Type} (env:Env):List Nat→(List SV→RM α)→RM α
 |[],k=>k []
 |r::rs,k=>rdV env 0 (.tmp r) fun t m y src=>take src (zmXa env rs fun l=>k (.v t m y::l))
def zIYa {α:Type} (env:Env) (rs:List Nat) (k:SV→RM α):RM α :=
 match rs with
 |[r]=>zx0a env r k
 |rs=>zmXa env rs fun l=>k (.tup l)
noncomputable def inlK {R:Type} (env:Env) (rs:List (Nat×Option TypeId)) (K:SV→St→Option R) (Kp:PanV→St→Option R):Ex→St→Option R
 | .exit _,_=>none
 | .pan p,st=>Kp p (st.leave env.b)
 |_,st=>(zSTa env (zEla rs) (zIYa env (zqAa rs) fun sv => .ret sv)).run Cx.no st fun sv st=>K sv (st.leave env.b)
def InlF (P:Program) (lim:Nat) (f:FuncId) (g:(R:Type)→St→List SV→(SV→St→Option R)→(PanV→St→Option R)→Option R):Prop:=∀(R:Type) st xs (K:SV→St→Option R) (Kp:PanV→St→Option R) res,g R st xs K Kp=some res →
 (∃fn code,P.funcs[f]?=some fn∧(fn.name == "runtime.NumGoroutine")=false∧fn.body=some code) ∧
 ∀(e:Entry) (F:Blks) (w:World) (V:Nat→Value) (fp:Nat→Blks) (vals:List Value) (Rp:Ending→World→Prop),GlE P e→SR e F w st V fp none'→vals.length=xs.length→(∀(k:Nat) sv v,xs[k]?=some sv→vals[k]?=some v→svR F w st V none' v sv) →
  (∀F' w' st' V' fp' fo v sv,SR e F' w' st' V' fp' fo→(∀i,i<lim∨gh0≤i→V' i=V i)→svR F' w' st' V' fo v sv→K sv st'=some res→Rp (.returned v) w') →
  (∀F' w' st' V' fp' p ch,SR e F' w' st' V' fp' none'→(∀i,i<lim∨gh0≤i→V' i=V i)→PanR F' w' p ch→Kp p st'=some res→Rp (.panicked ch) w') →
  Calls P f vals.toArray w Rp
theorem zCna {P:Program} {lim:Nat} {inl:Inl} (h:∀f d,InlF P lim f (fun R st xs K Kp=>inl f d R st xs K Kp)):InlOk P lim inl:=fun f d R st xs K Kp res hr=>h f d R st xs K Kp res hr
noncomputable def inl0:Inl:=fun _ _ _ _ _ _ _=>none
theorem zfaa {P:Program} {lim:Nat}:InlOk P lim inl0:=fun _ _ _ _ _ _ _ _ h=>by cases h
theorem zzia {P:Program} {lim:Nat} {f:FuncId}:InlF P lim f (fun _ _ _ _ _=>none):=fun _ _ _ _ _ _ h=>by cases h
section
variable {P:Program} {env:Env} {e:Entry} {F:Blks} {w:World} {st:St} {V:Nat→Value} {fp:Nat→Blks} {fl:Blks} {a:Act} {R:Type} {res:R} {C:Cx R} {gh:Nat→Value}
theorem ztTa (b:Bool) (v:SV):cond b .un v=v∨cond b .un v=SV.un:=by cases b<;>simp
theorem zbWa (b:Nat) (v:SV):v.cut b=v∨v.cut b = .un:=by
 cases v with
 |al r p=>exact ztTa _ _
 |lz r p=>exact ztTa _ _
 |sub r p l h=>exact ztTa _ _
 |fn f s c=>exact ztTa _ _
 |bx r p=>exact ztTa _ _
 |_=>exact .inl rfl
theorem SR.weak {st':St} (hS:SR e F w st V fp fl) (hon:∀i,st' i=st i∨st' i = .un):SR e F w st' V fp fl:=by
 have hst:∀r,∀ {t1 m1 x1},st' r = .v t1 m1 x1→st r = .v t1 m1 x1:=by
  intro r t1 m1 x1 h;rcases hon r with h1|h1
  ·rw[←h1]; exact h
  ·rw[h1]at h; cases h
 have hal:∀r q v,AlOk w st V r q v→AlOk w st' V r q v:=fun r q v ha t1 m1 x1 h1=>ha t1 m1 x1 (hst r h1)
 refine ⟨fun i=>?_,hS.disj,hS.notF,hS.inH,hS.inF,hS.flD,hS.flF,hS.flH,hS.g1,hS.g2,hS.g3,hS.g4,hS.g5,hS.g6⟩;rcases hon i with h1|h1
 ·rw[h1];have h2:=hS.sv i;cases hsi:st i with
  |v t1 m1 x1=>rw[hsi]at h2; exact h2
  |al r q=>rw[hsi]at h2; exact hal _ _ _ h2
  |lz r q=>rw[hsi]at h2; exact fun t1 m1 x1 h3=>h2 t1 m1 x1 (hst r h3)
  |sub r q lo hi=>rw[hsi]at h2; exact fun t1 m1 x1 h3=>h2 t1 m1 x1 (hst r h3)
  |fn f s caps =>
   rw[hsi]at h2;obtain ⟨us,vs,e1,e2,e3⟩:=h2;exact ⟨us,vs,e1,e2.imp (fun _ _ hb=>hb) fun q u _=>hal _ _ _,e3.imp (fun _ _ hb=>hb) fun q u _=>hal _ _ _⟩
  |bx r q =>
   rw[hsi]at h2;exact h2
  |ifc T t1 x1=>rw[hsi]at h2; exact h2
  |tup l=>rw[hsi]at h2; exact h2
  |nil=>rw[hsi]at h2; exact h2
  |un=>trivial
 ·rw[h1]; trivial
theorem zILa (st:St) (b:Nat):∀i,(st.leave b) i=st i∨(st.leave b) i = .un:=by
 intro i;unfold St.leave;split
 ·exact .inr rfl
 ·exact zbWa b _
theorem zZ0a {b i:Nat}:hi b i=true↔b≤i∧i<gh0:=by
 unfold hi;rw[Bool.and_eq_true];constructor
 ·rintro ⟨h1,h2⟩; exact ⟨Nat.le_of_ble_eq_true h1,zsta h2⟩
 ·rintro ⟨h1,h2⟩; exact ⟨Nat.ble_eq_true_of_le h1,Nat.ble_eq_true_of_le h2⟩
theorem zYXa {b i:Nat}:hi b i=false↔i<b∨gh0≤i:=by
 constructor
 ·intro h;rcases Nat.lt_or_ge i b with h1|h1
  ·exact .inl h1
  ·rcases Nat.lt_or_ge i gh0 with h2|h2
   ·rw[zZ0a.2 ⟨h1,h2⟩]at h; cases h
   ·exact .inr h2
 ·intro h;cases hb:hi b i with
  |false=>rfl
  |true=>have:=zZ0a.1 hb; omega
theorem zFZa {b:Nat} {st0:St} {V0:Nat→Value} (hV:∀r,hi b r=false→V0 r=V r) (hst:∀r {t m x},hi b r=false→st0 r = .v t m x→st r = .v t m x) {fq:Blks} {v:Value} {sv:SV} (h:svR F w st V fq v sv):svR F w st0 V0 fq v (sv.cut b):=by
 have hal:∀r q v,hi b r=false→AlOk w st V r q v→AlOk w st0 V0 r q v:=by
  intro r q v hr ha t1 m1 x1 h1;obtain ⟨a1,a2,a3,u1,c1,b1,o1,a4,a5⟩:=ha t1 m1 x1 (hst r hr h1);exact ⟨a1,a2,a3,u1,c1,b1,o1,by rw[hV r hr]; exact a4,a5⟩
 have hbx:∀r u,BxOk F w V r u→BxOk F w V0 r u:=fun r u hb=>hb.imp (fun _ hb=>hb) (fun _ _=>rfl) (fun hr=>hV r (zYXa.2 (.inr hr)))
 cases sv with
 |v t m x=>exact h
 |al r p =>
  simp only[SV.cut];cases hr:hi b r with
  |true=>trivial
  |false=>exact hal _ _ _ hr h
 |lz r p =>
  simp only[SV.cut];cases hr:hi b r with
  |true=>trivial
  |false =>
   intro t1 m1 x1 h1;obtain ⟨a2,a3,u1,c1,ad1,a4,a5⟩:=h t1 m1 x1 (hst r hr h1);exact ⟨a2,a3,u1,c1,ad1,by rw[hV r hr]; exact a4,a5⟩
 |sub r p lo h' =>
  simp only[SV.cut];cases hr:hi b r with
  |true=>trivial
  |false =>
   intro t1 m1 x1 h1;obtain ⟨a2,a3,u1,c1,ad1,a4,a5⟩:=h t1 m1 x1 (hst r hr h1);exact ⟨a2,a3,u1,c1,ad1,by rw[hV r hr]; exact a4,a5⟩
 |fn f s caps =>
  simp only[SV.cut];cases hr:(s++caps).any fun c=>hi b c.1 with
  |true=>trivial
  |false =>
   obtain ⟨k1,k2⟩:=zyYa hr;obtain ⟨us,vs,e1,e2,e3⟩:=h;exact ⟨us,vs,e1,e2.imp hbx fun q u hq=>hal _ _ _ (k1 q hq),e3.imp hbx fun q u hq=>hal _ _ _ (k2 q hq)⟩
 |bx r p =>
  simp only[SV.cut];cases hr:hi b r with
  |true=>trivial
  |false=>exact hbx _ _ h
 |ifc T t x=>exact h
 |tup l=>exact h
 |nil=>exact h
 |un=>trivial
theorem zT1a {fq fq':Blks} (hf:∀b,fq b→fq' b) {v:Value} {sv:SV} (h:svR F w st V fq v sv):svR F w st V fq' v sv:=by
 cases sv with
 |v t m x=>exact ⟨h.1,zEoa hf h.2⟩
 |tup l =>
  obtain ⟨vs,e1,e2,fs,e3,e4,e5⟩:=h;exact ⟨vs,e1,e2,fs,e3,fun k b hb=>hf b (e4 k b hb),e5⟩
 |_=>exact h
theorem zn0a {st':St} (hon:∀i,st' i=st i∨st' i = .un) {fq:Blks} {v:Value} {sv:SV} (h:svR F w st V fq v sv):svR F w st' V fq v sv:=by
 have hst:∀r,∀ {t1 m1 x1},st' r = .v t1 m1 x1→st r = .v t1 m1 x1:=by
  intro r t1 m1 x1 h;rcases hon r with h1|h1
  ·rw[←h1]; exact h
  ·rw[h1]at h; cases h
 have hal:∀r q v,AlOk w st V r q v→AlOk w st' V r q v:=fun r q v ha t1 m1 x1 h1=>ha t1 m1 x1 (hst r h1)
 cases sv with
 |v t m x=>exact h
 |al r p=>exact hal _ _ _ h
 |lz r p=>exact fun t1 m1 x1 h3=>h t1 m1 x1 (hst r h3)
 |sub r p lo h'=>exact fun t1 m1 x1 h3=>h t1 m1 x1 (hst r h3)
 |fn f s caps =>
  obtain ⟨us,vs,e1,e2,e3⟩:=h;exact ⟨us,vs,e1,e2.imp (fun _ _ hb=>hb) fun q u _=>hal _ _ _,e3.imp (fun _ _ hb=>hb) fun q u _=>hal _ _ _⟩
 |bx r p=>exact h
 |ifc T t x=>exact h
 |tup l=>exact h
 |nil=>exact h
 |un=>trivial
theorem zKRa {α:Type} {Kk:α→St→Option R} (hA:AR env gh a V):∀ {rs:List Nat} {k:List SV→RM α} {st:St} {fp:Nat→Blks} {fl:Blks},SR e F w st V fp fl→(zmXa env rs k).run C st Kk=some res →
  ∃l st' fp',∃fl':Blks,∃fs:Nat→Blks,(k l).run C st' Kk=some res∧SR e F w st' V fp' fl'∧(∀b,fl b→fl' b)∧Disj fs∧(∀i b,fs i b→fl' b∧¬fl b)∧l.length=rs.length ∧
   ∀(i:Nat) t m x,l[i]?=some (.v t m x)→∃u,(rs.map fun r=>a.tmps.getD r undef)[i]?=some u∧(m ≠ .j→isV t u)∧rep F w t m x (cv u) (fs i)
 |[],k,st,fp,fl,hS,h=>⟨[],st,fp,fl,fun _=>none',h,hS,fun _ hb=>hb,⟨fun _ _ _ _ hb=>hb.elim⟩,fun _ _ hb=>hb.elim,rfl,fun i t m x hi=>by simp at hi⟩
 |r::rs,k,st,fp,fl,hS,h=>by
  simp only[zmXa]at h;obtain ⟨t,m,y,src,h1,hd,_⟩:=zhja hS hA h;obtain ⟨st1,fp1,fq,h2,hS1,hv1,hm1,hrep1,hfl,_⟩:=zAsa hS hd h1;obtain ⟨l,st',fp',fl',fs,k1,k2,k3,k4,k5,k6,k7⟩:=zKRa hA hS1 h2;refine ⟨_,st',fp',fl',fun i=>match i with|0=>fq|i+1=>fs i,k1,k2,fun b hb=>k3 b (.inl hb),⟨fun i j hij b hb hb'=>?_⟩,fun i b hb=>?_,by simp[k6],fun i t' m' x' hi=>?_⟩
  ·cases i<;>cases j
   ·exact hij rfl
   ·exact (k5 _ b hb').2 (.inr hb)
   ·exact (k5 _ b hb).2 (.inr hb')
   ·exact k4.disj _ _ (by omega) b hb hb'
  ·cases i
   ·exact ⟨k3 b (.inr hb),hfl b hb⟩
   ·exact ⟨(k5 _ b hb).1,fun hc=>(k5 _ b hb).2 (.inl hc)⟩
  ·cases i with
   |zero =>
    simp only[List.getElem?_cons_zero,Option.some.injEq]at hi;cases hi;exact ⟨_,rfl,fun _=>hv1,hrep1⟩
   |succ i =>
    simp only[List.getElem?_cons_succ]at hi;obtain ⟨u,q1,q2⟩:=k7 i t' m' x' hi;exact ⟨u,by simpa using q1,q2⟩
theorem zoXa {α:Type} {Kk:α→St→Option R} (hA:AR env gh a V) {r:Nat} {k:SV→RM α} {st:St} {fp:Nat→Blks} (hS:SR e F w st V fp none') (h:(zx0a env r k).run C st Kk=some res) :
  ∃sv st' fp',∃fo:Blks,(k sv).run C st' Kk=some res∧SR e F w st' V fp' fo∧svR F w st' V fo (a.tmps.getD r undef) sv:=by
 unfold zx0a at h;split at h
 ·simp[RM.run]at h
 ·rename_i hr;have hr:=zsta hr;have hev:a.tmps.getD r undef=V (env.b+r):=hA.tmps r hr;rw[hev];simp only[RM.run]at h;have hsv:=hS.sv (env.b+r);have htk:∀ {t m y src},DataAt F w st V (V (env.b+r)) t m y src→(take src (k (.v t m y))).run C st Kk=some res→∃sv st' fp',∃fo:Blks,(k sv).run C st' Kk=some res∧SR e F w st' V fp' fo∧svR F w st' V fo (V (env.b+r)) sv:=by
   intro t m y src hd h1;obtain ⟨st1,fp1,fq,h2,hS1,hv1,hm1,hrep1,hfl,_⟩:=zAsa hS hd h1;exact ⟨_,st1,fp1,fq,h2,hS1.less (fun b hb => .inr hb),fun _=>hv1,hrep1⟩
  have hdx:∀ {t m y},st (env.b+r) = .v t m y→m ≠ .j→DataAt F w st V (V (env.b+r)) t m y (some (env.b+r,[])):=by
   intro t m y hst hm;rw[hst]at hsv;exact ⟨hm,_,_,_,hst,y,by simp only[getP],by simp[ownP],by simp[inP],cv (V (env.b+r)),none,by simp[rs],by
      have h1:V (env.b+r)=valOf t (cv (V (env.b+r))):=hsv.1 hm;have h2:=PartOf.all (c':=cv (V (env.b+r))) t y
      rwa [←h1]at h2⟩
  have hoth:∀ {sv:SV},(match sv.cut env.b with | .un=>(RM.fail:RM α)|_=>k sv).run C st Kk=some res→svR F w st V none' (V (env.b+r)) sv→∃sv st' fp',∃fo:Blks,(k sv).run C st' Kk=some res∧SR e F w st' V fp' fo∧svR F w st' V fo (V (env.b+r)) sv:=by
   intro sv h hsv;split at h
   ·simp[RM.run]at h
   ·exact ⟨_,st,fp,none',h,hS,hsv⟩
  cases hst:st (env.b+r) with
  |v t m y =>
   rw[hst]at h;cases m with
   |s =>
    rw[hst]at hsv;exact ⟨_,st,fp,none',h,hS,⟨hsv.1,rep_s hsv.2⟩⟩
   |j=>simp[RM.run]at h
   |o m=>exact htk (hdx hst nofun) h
   |p m m'=>exact htk (hdx hst nofun) h
  |tup l=>rw[hst]at h; simp[RM.run]at h
  |un=>rw[hst]at h; simp[RM.run]at h
  |bx q p=>rw[hst]at h; simp[RM.run]at h
  |lz q p =>
   rw[hst]at h;dsimp only at h;split at h
   ·obtain ⟨t,m,y,src,h1,hd,_⟩:=zhja hS hA h;have hev2:a.eval (.tmp r)=V (env.b+r):=hev;rw[hev2]at hd;exact htk hd h1
   ·rw[hst]at hsv;exact ⟨_,st,fp,none',h,hS,hsv⟩
  |al q p=>rw[hst]at h hsv; exact hoth (sv := .al q p) h hsv
  |sub q p lo hi=>rw[hst]at h hsv; exact hoth (sv := .sub q p lo hi) h hsv
  |fn f s c=>rw[hst]at h hsv; exact hoth (sv := .fn f s c) h hsv
  |ifc T t x=>rw[hst]at h hsv; exact hoth (sv := .ifc T t x) h hsv
  |nil=>rw[hst]at h hsv; exact hoth (sv := .nil) h hsv
theorem znXa {α:Type} {Kk:α→St→Option R} (hA:AR env gh a V) {rs:List Nat} {k:SV→RM α} {st:St} {fp:Nat→Blks} (hS:SR e F w st V fp none') (h:(zIYa env rs k).run C st Kk=some res) :
  ∃sv st' fp',∃fo:Blks,(k sv).run C st' Kk=some res∧SR e F w st' V fp' fo∧svR F w st' V fo (zlXa (rs.map fun r=>a.tmps.getD r undef)) sv:=by
 have hgen:∀ {rs:List Nat},(∀r,rs≠[r])→(zmXa env rs fun l=>k (.tup l)).run C st Kk=some res→∃sv st' fp',∃fo:Blks,(k sv).run C st' Kk=some res∧SR e F w st' V fp' fo∧svR F w st' V fo (zlXa (rs.map fun r=>a.tmps.getD r undef)) sv:=by
  intro rs hrs h;obtain ⟨l,st',fp',fl',fs,k1,k2,k3,k4,k5,k6,k7⟩:=zKRa hA hS h;refine ⟨_,st',fp',fl',k1,k2,rs.map (fun r=>a.tmps.getD r undef),?_,by simp[k6],fs,k4,fun i b hb=>(k5 i b hb).1,k7⟩;rcases rs with _|⟨r,_|⟨r',rs⟩⟩
  ·rfl
  ·exact absurd rfl (hrs r)
  ·rfl
 unfold zIYa at h;split at h
 ·exact zoXa hA hS h
 ·rename_i hn;exact hgen (fun r hr=>hn r hr) h
theorem zOwa {inl:Inl} {f:FuncId} {fn:Func} {code:Code} {rs:List (Nat×Option TypeId)} {lp:Loops} (hm:P.follows .mixedOrders=true) (hE:EnvTy P env) (hF:EnvFn P env) (hI:InlOk P env.top inl) (hf:P.funcs[f]?=some fn) (hname:(fn.name == "runtime.NumGoroutine")=false) (hb:fn.body=some code) (hr:fn.results=(rs.map toRV).toArray)
  (hn:env.n=fn.ntmps) (hlen:(Nat.blt env.top gh0&&!env.df)=true) (hL:zsaa env lp inl code) (hrd:rvOk rs=true) :
  InlF P env.b f (fun R st xs K Kp=>match Nat.ble xs.length env.n with|true=>evC env lp inl code (st.enter env.b xs) (inlK env rs K Kp)|false=>none):=by
 intro R st xs K Kp res h;dsimp only at h;split at h
 case h_2=>cases h
 rename_i hxs;have hxs:=Nat.le_of_ble_eq_true hxs;refine ⟨⟨fn,code,hf,hname,hb⟩,?_⟩;intro e F w V fp vals Rp hgl hS hvl hsv hret hpan;have hnd:=ziXa hrd;simp only[Bool.and_eq_true,Bool.not_eq_true']at hlen;have hlim:=zsta hlen.1;unfold Env.top at hlim;have hdf:=hlen.2;refine calls_of_wp hf hb ?_
 let tm:Array Value:=vals.toArray++Array.replicate (fn.ntmps-vals.toArray.size) undef
 let V0:Nat→Value:=fun i=>if hi env.b i=true then tm.getD (i-env.b) undef else V i
 let fp0:Nat→Blks:=fun i b=>hi env.b i=false∧fp i b
 have htm:∀i v,vals[i]?=some v→tm.getD i undef=v:=by
  intro i v hv;have hi:i<vals.length:=(List.getElem?_eq_some_iff.1 hv).1;simp only[tm,Array.getD_eq_getD_getElem?];rw[Array.getElem?_append_left (by simpa using hi)];simp[hv]
 have hVlo:∀r,hi env.b r=false→V0 r=V r:=fun r hr=>by show (if _ then _ else _)=_; rw[hr]; rfl
 have hstlo:∀r {t m x},hi env.b r=false→(st.enter env.b xs) r = .v t m x→st r = .v t m x:=by
  intro r t m x hr h1;unfold St.enter at h1;rw[hr]at h1;rcases zbWa env.b (st r) with hc|hc
  ·simp only[hc]at h1; exact h1
  ·simp only[hc]at h1; cases h1
 have hA0:AR env V0 { tmps:=tm,defers:=[] } V0:=by
  refine ⟨by simp only[tm,Array.size_append,List.size_toArray,Array.size_replicate]; omega,fun i hi'=>?_,by rw[hdf],by omega,fun i _=>rfl⟩;show tm.getD i undef=if _ then _ else _
  rw[if_pos (zZ0a.2 ⟨by omega,by omega⟩),show env.b+i-env.b=i by omega]
 have hS0:SR e F w (st.enter env.b xs) V0 fp0 none':=by
  refine ⟨fun i=>?_,⟨fun i j hij b hb hb'=>hS.disj.disj i j hij b hb.2 hb'.2⟩,fun i b hb=>hS.notF i b hb.2,fun i b hb=>hS.inH i b hb.2,hS.inF,fun i b hb hc=>hc,fun _ hb=>hb.elim,fun _ hb=>hb.elim,hS.g1,hS.g2,fun i b hb=>hS.g3 i b hb.2,fun _ hb=>hb.elim,hS.g5,hS.g6⟩;cases hh:hi env.b i with
  |false =>
   have h1:(st.enter env.b xs) i=(st i).cut env.b:=by unfold St.enter; rw[hh]
   rw[h1,hVlo i hh];refine zT1a (fun b hb=>⟨hh,hb⟩) (zFZa hVlo hstlo (hS.sv i))
  |true =>
   have h1:(st.enter env.b xs) i=(xs.getD (i-env.b) .un).cut env.b:=by unfold St.enter; rw[hh]
   have h2:V0 i=tm.getD (i-env.b) undef:=if_pos hh;rw[h1,h2];by_cases hlt:i-env.b<xs.length
   ·have hx:xs[i-env.b]?=some xs[i-env.b]:=List.getElem?_eq_getElem hlt;have hv:vals[i-env.b]?=some vals[i-env.b]:=List.getElem?_eq_getElem (by omega);rw[htm _ _ hv,List.getD_eq_getElem?_getD,hx];exact zT1a (fun b hb=>hb.elim) (zFZa hVlo hstlo (hsv _ _ _ hx hv))
   ·have:xs.getD (i-env.b) .un = .un:=by simp[List.getD,Nat.le_of_not_lt hlt]
    rw[this];trivial
 have hkeep:∀ {V1:Nat→Value} {a1:Act},AR env V0 a1 V1→∀i,i<env.b∨gh0≤i→V1 i=V i:=fun hA i hi'=>by
  rw[hA.keep i hi',hVlo i (zYXa.2 hi')]
 have hdef:∀ {V1:Nat→Value} {a1:Act},AR env V0 a1 V1→a1.defers=[]:=fun hA=>by have:=hA.defers; rwa [hdf]at this
 refine zSQa hm hE hF hI (e:=e) hgl hL (fun _ _ _ _ _ _ h=>h) ⟨?_,?_⟩ hS0 hA0 h
 case refine_2 =>
  intro p ch F1 w1 st1 V1 fp1 a1 hS1 hA1 hp h1;exact ⟨hdef hA1,hpan _ _ _ _ _ p ch (hS1.weak (zILa st1 env.b)) (hkeep hA1) hp h1⟩
 intro x F1 w1 st1 V1 fp1 a1 hx hS1 hA1 h1;have key:(zSTa env (zEla rs) (zIYa env (zqAa rs) fun sv => .ret sv)).run Cx.no st1 (fun sv st=>K sv (st.leave env.b))=some res→a1.defers=[]∧∃v,(results fn a1.tmps).run P w1 = .ok v w1∧Rp (.returned v) w1:=by
  intro h1;obtain ⟨st2,V2,fp2,a2,h2,hS2,hA2,u1,u2⟩:=zoEa hE hS1 hA1 h1;obtain ⟨sv,st3,fp3,fo,h3,hS3,hsv3⟩:=znXa hA2 hS2 h2;simp only[RM.run]at h3;refine ⟨hdef hA1,_,zjGa (vals:=a2.tmps) hr (fun r T hq=>u1 (r,T) (zLPa.2 hq)) (fun r hq=>u2 r (fun q hqc hc=>hnd r q hq hqc hc)),hret _ _ _ _ _ fo _ sv (hS3.weak (zILa st3 env.b)) (hkeep hA2) (zn0a (zILa st3 env.b) hsv3) h3⟩
 cases x with
 |exit i=>cases h1
 |pan p=>cases hx
 |normal=>exact key h1
 |ret=>exact key h1
end
end Go.Trm
namespace Go.Trm
open Go.ChangeShapes Go.WideShapes Go.ChangeAt Go.RowKit
open Go.ChangeMaps (open_string shut_string)
def oldB (w:World):Blks:=fun b=>b<w.heap.size
abbrev Yes:Bool→Option Unit:=fun r=>cond r (some ()) none
theorem zXPa {P:Program} {f:FuncId} {ins:List PK} {fn:{R:Type}→DI ins→(DR [(.bool,.s)]→DB ins→Option R)→(PI none→DB ins→Option R)→Option R} (H:Holds P f ⟨ins,[(.bool,.s)],none,fn⟩) {w:World} {d:DI ins} {vs:List Value}
  (hg:GlOk P (oldB w) w) (ha:ArgsR (oldB w) w ins d vs (fun _ _=>False)) (hp:fn d (fun r _=>Yes r.1) (fun _ _=>none)=some ()) :
  Calls P f vs.toArray w fun e w'=>e = .returned (.bool true)∧Below w.heap.size w w':=by
 refine (H.calls (oldB w) w d vs (fun _ _=>False) Unit (fun r _=>Yes r.1) (fun _ _=>none) () hg (fun _ hb=>hb) ⟨fun _ _ _ _ hb=>hb.elim⟩ (fun _ _ hb=>hb.elim) ha hp).mono fun e w' hpost=>?_
 obtain ⟨rb,F',fo,fb,⟨v,ro,rfl,p1,p5⟩|⟨_,_,_,hc,_⟩,p2,p3,p4,_⟩:=hpost
 case inr=>cases hc
 refine ⟨?_,p3.still.os,p3.still.tape,p3.still.output,p3.size,fun k hk=>p4 k hk (fun _ hc=>hc)⟩;have hr:ro.1=true:=by
  unfold Yes at p1;cases h:ro.1 with
  |true=>rfl
  |false=>rw[h]at p1; cases p1
 have h5:svR F' w' (fun _ => .un) (fun _=>undef) fo v (.v .bool .s ro.1):=p5;rw[hr]at h5;have h1:cv v 0 = .bool true:=h5.2;have h2:v=valOf .bool (cv v):=h5.1 (by intro hc; cases hc);rw[h2];show Ending.returned (cv v 0)=_;rw[h1]
theorem zITa {k:IntKind} {n:Int} (h:(Lit.int k n).wf=true):k.has n:=by
 simp only[Lit.wf,Bool.and_eq_true,decide_eq_true_eq]at h;exact h
theorem ziWa {F:Blks} {w:World} {fp:Blks} {k:IntKind} (a:Int) (h:(Lit.int k a).wf=true):isV (.int k) (.int k a)∧Md.s ≠ .j∧rep F w (.int k) .s a (cv (.int k a)) fp:=⟨rfl,(by intro h; cases h),rfl,zITa h⟩
theorem zwZa {w:World} {a:Addr} {i:Nat} {v:Value} (hs:a.spot=none) (h:w.cell? (a.add i)=some v):(∃cs e fz,w.heap[a.block]?=some (.cells cs e fz)∧a.off+i<cs.size)∧rowW w a.block (a.off+i) 0=v:=by
 obtain ⟨b,o,sp⟩:=a;simp only at hs;subst hs;rw[zSfa]at h;unfold World.cell? at h;simp only at h ⊢;split at h
 ·rename_i c e fz hh;simp only[Option.isSome_none,Bool.false_eq_true,if_false]at h;have h1:=(Array.getElem?_eq_some_iff.1 h).1;refine ⟨⟨c,e,fz,hh,h1⟩,?_⟩;simp only[rowW,hh,rowOf,Nat.add_zero,Array.getD_eq_getD_getElem?,h,Option.getD_some]
 ·cases h
theorem zBVa {F:Blks} {w:World} {fps:Nat→Blks}:ArgsR F w [] () [] fps:=rfl
theorem zpwa {F:Blks} {w:World} {t:Ty} {m:Md} {ks:List PK} {x:t.I} {d:DI ks} {v:Value} {vs:List Value} (h:isV t v∧m ≠ .j∧rep F w t m x (cv v) (fun _=>False)) (h':ArgsR F w ks d vs (fun _ _=>False)) :
  ArgsR F w (.val t m::ks) (x,d) (v::vs) (fun _ _=>False):=⟨v,vs,rfl,h.1,h.2.1,h.2.2,h'⟩
end Go.Trm
namespace Go.Trm
open Go.ChangeShapes Go.WideShapes Go.ChangeAt Go.RowKit Go.Deep
def Ty.pos:Ty→Bool
 | .sl _ t=>Nat.blt 0 t.size&&t.pos
 | .ptr _ t=>Nat.blt 0 t.size&&t.pos
 | .pair a b=>a.pos&&b.pos
 | .arr _ _ | .err=>false
 |_=>true
def okI:(t:Ty)→t.I→Prop
 | .int k,x=>k.has x
 | .str,(x:List UInt8)=>x.length≤2 ^ 63-1
 | .sl _ t,(x:List t.I)=>x.length≤2 ^ 63-1∧∀y∈x,okI t y
 | .ptr _ t,(x:Option t.I)=>∀y,x=some y→okI t y
 | .pair a b,x=>okI a x.1∧okI b x.2
 | .arr n t,(x:List t.I)=>x.length=n∧∀y∈x,okI t y
 |_,_=>True
theorem zoza {P:Program} {t:Ty} {T:TypeId} (h:wt P t T=true):P.cellsOf T=t.size:=by
 obtain ⟨i,z,h1,h2,_⟩:=zzwa h;simp only[Program.cellsOf,h1,Option.map_some,Option.getD_some,h2]
section
variable {H:Type} {enc:TypeId×Value→H} {P:Program} {w:World} {held:Bool}
abbrev Reads (enc:TypeId×Value→H) (P:Program) (w:World) (held:Bool) (t:Ty) (cs:List Value):Prop :=
 ∃y:t.I,okI t y∧∀c:Cells,(∀j,j<t.size→cs[j]?=some (c j))→rep (oldB w) w t .s y c (fun _=>False)
theorem zGRa {l:List Value} {o k j:Nat} (h:j<k):((l.drop o).take k)[j]?=l[o+j]?:=by
 rw[List.getElem?_take,if_pos h,List.getElem?_drop]
theorem zbKa {a:Addr} {n:Nat} {cs:List Value} (hn:0<n) (h:w.cells? 0 a n=some cs):a.spot=none:=by
 obtain ⟨_,hl,hc⟩:=World.cells?_some h;have h0:=hc 0 hn;rw[List.getElem?_eq_getElem (by omega)]at h0;unfold World.cell? at h0;simp only[Addr.add,if_true]at h0;split at h0
 ·split at h0
  ·cases h0
  ·rename_i hs;simpa using hs
 ·cases h0
theorem znRa {a:Addr} {i n:Nat} {cs:List Value} (hs:a.spot=none) (h:w.cells? 0 (a.add i) n=some cs) (hn:0<n) :
  (∃c e fz,w.heap[a.block]?=some (.cells c e fz)∧a.off+i+n≤c.size)∧∀j,j<n→cs[j]?=some (rowW w a.block (a.off+i) j):=by
 obtain ⟨_,hl,hc⟩:=World.cells?_some h;have key:∀j,j<n→(∃c e fz,w.heap[a.block]?=some (.cells c e fz)∧a.off+(i+j)<c.size)∧cs[j]?=some (rowW w a.block (a.off+i) j):=by
  intro j hj;have h1:=hc j hj;rw[add_add,List.getElem?_eq_getElem (by omega)]at h1;obtain ⟨h2,h3⟩:=zwZa hs h1;refine ⟨h2,?_⟩;rw[List.getElem?_eq_getElem (by omega),zWba,←h3,zWba,Nat.add_zero,Nat.add_assoc]
 refine ⟨?_,fun j hj=>(key j hj).2⟩;obtain ⟨⟨c,e,fz,h1,h2⟩,_⟩:=key (n-1) (by omega);exact ⟨c,e,fz,h1,by omega⟩
theorem zj0a:∀(t:Ty),t.pos=true →
  (∀ {T:TypeId} {n:Nat} {cs:List Value} {x},wt P t T=true→DataW.trod enc P w 0 (fun _=>true) held n T cs=some x→cs.length=t.size∧Reads enc P w held t cs) ∧
  (∀ {fs:List Field} {o n:Nat} {cs:List Value},wtF P t fs o=true→(∀f∈fs,∃x,DataW.trod enc P w 0 (fun _=>true) held n f.type ((cs.drop f.offset).take (P.cellsOf f.type))=some x) →
   ∃y:t.I,okI t y∧∀c:Cells,(∀j,j<t.size→cs[o+j]?=some (c j))→rep (oldB w) w t .s y c (fun _=>False)):=by
 intro t
 induction t with
 |int k =>
  intro _;refine ⟨fun hw h=>?_,fun h=>by simp[wtF]at h⟩;obtain ⟨n,rfl,_,hf⟩:=DataW.trod_int (zrRa hw) h;refine ⟨rfl,n,zITa hf,fun c hc=>?_⟩;have:=hc 0 (by simp[Ty.size]);simp only[List.getElem?_cons_zero,Option.some.injEq]at this;exact ⟨this.symm,zITa hf⟩
 |bool =>
  intro _;refine ⟨fun hw h=>?_,fun h=>by simp[wtF]at h⟩;obtain ⟨n,rfl,_⟩:=DataW.trod_bool (zDVa hw) h;refine ⟨rfl,n,trivial,fun c hc=>?_⟩;have:=hc 0 (by simp[Ty.size]);simp only[List.getElem?_cons_zero,Option.some.injEq]at this;exact this.symm
 |str =>
  intro _;refine ⟨fun hw h=>?_,fun h=>by simp[wtF]at h⟩;obtain ⟨s,rfl,_,hs⟩:=DataW.trod_string (zgPa hw) h;have h1:s.data.toList.length=s.size:=Array.length_toList;have h2:maxLen=2 ^ 63-1:=by decide
  have h3:s.data.toList.length≤2 ^ 63-1:=by omega
  refine ⟨rfl,s.data.toList,h3,fun c hc=>?_⟩;have:=hc 0 (by simp[Ty.size]);simp only[List.getElem?_cons_zero,Option.some.injEq]at this;refine ⟨?_,h3⟩;exact this.symm
 |err=>intro hp; cases hp
 |sl e t ih =>
  intro hp;simp only[Ty.pos,Bool.and_eq_true]at hp;have hpos:0<t.size:=Nat.le_of_ble_eq_true hp.1;refine ⟨fun hw h=>?_,fun h=>by simp[wtF]at h⟩;obtain ⟨g1,g2⟩:=wt_sl hw;have hm:maxLen=2 ^ 63-1:=by decide
  rcases open_slice g1 h with ⟨rfl,_⟩|⟨a,len,cap,m,n,D,Pl,rfl,_,hl,hcm,hmm,_,hx⟩
  ·refine ⟨rfl,([]:List t.I),⟨by simp,by simp⟩,fun c hc=>?_⟩;have:=hc 0 (by simp[Ty.size]);simp only[List.getElem?_cons_zero,Option.some.injEq]at this;exact ⟨none,0,this.symm,Nat.le_refl _,by omega,fun _=>rfl,nofun⟩
  ·simp only[if_true]at hmm;subst hmm;rw[zoza g2]at hx;have each:∀i,∃y:t.I,i<len→okI t y∧rep (oldB w) w t .s y (rowW w a.block (a.off+i*t.size)) (fun _=>False):=by
    intro i;by_cases hi:i<len
    ·obtain ⟨cs',h1,h2⟩:=hx i (by omega);have hs:a.spot=none:=by
      obtain ⟨cs0,h3,_⟩:=hx 0 (by omega);rw[Nat.zero_mul]at h3;exact zbKa hpos h3
     obtain ⟨_,y,hy,hr⟩:=(ih hp.2).1 g2 h2;exact ⟨y,fun _=>⟨hy,hr _ (znRa hs h1 hpos).2⟩⟩
    ·exact ⟨t.dflt,fun hc=>absurd hc hi⟩
   obtain ⟨f,hf⟩:=Classical.axiomOfChoice each;have hg:∀i,i<len→((List.range len).map f).getD i t.dflt=f i:=fun i hi=>by simp[List.getD,hi]
   have hlen:((List.range len).map f).length=len:=by simp
   refine ⟨rfl,(List.range len).map f,⟨by show ((List.range len).map f).length≤_; rw[hlen]; omega,fun y hy=>?_⟩,fun c hc=>?_⟩
   ·obtain ⟨i,hi,rfl⟩:=List.mem_map.1 hy;exact (hf i (List.mem_range.1 hi)).1
   ·have:=hc 0 (by simp[Ty.size]);simp only[List.getElem?_cons_zero,Option.some.injEq]at this;simp only[rep];rw[hlen];refine ⟨some a,m,this.symm,hl,by omega,nofun,fun a' ha'=>?_⟩;cases ha';refine ⟨fun h0=>?_,?_,fun i hi=>?_⟩
    ·obtain ⟨cs0,h3,_⟩:=hx 0 h0;rw[Nat.zero_mul]at h3;exact zbKa hpos h3
    ·by_cases h0:len=0
     ·left; rw[h0,Nat.zero_mul]
     ·right
      obtain ⟨cs',h1,h2⟩:=hx (len-1) (by omega);have hs:a.spot=none:=by
       obtain ⟨cs0,h3,_⟩:=hx 0 (by omega);rw[Nat.zero_mul]at h3;exact zbKa hpos h3
      obtain ⟨⟨c,e1,fz,k1,k2⟩,_⟩:=znRa hs h1 hpos;refine ⟨(Array.getElem?_eq_some_iff.1 k1).1,c,e1,fz,k1,?_,nofun⟩;have:(len-1)*t.size+t.size=len*t.size:=by
       rw[←Nat.succ_mul]; congr 1; omega
      omega
    ·rw[hg i hi];exact (hf i hi).2
 |ptr e t ih =>
  intro hp;simp only[Ty.pos,Bool.and_eq_true]at hp;have hpos:0<t.size:=Nat.le_of_ble_eq_true hp.1;refine ⟨fun hw h=>?_,fun h=>by simp[wtF]at h⟩;obtain ⟨g1,g2⟩:=zJ1a hw;rcases DataW.trod_pointer g1 h with ⟨rfl,_⟩|⟨a,cs',z,n,_,rfl,_,h1,h2⟩
  ·refine ⟨rfl,(none:Option t.I),nofun,fun c hc=>?_⟩;have:=hc 0 (by simp[Ty.size]);simp only[List.getElem?_cons_zero,Option.some.injEq]at this;exact ⟨none,this.symm,rfl⟩
  ·rw[zoza g2]at h1;have hs:=zbKa hpos h1;obtain ⟨_,y,hy,hr⟩:=(ih hp.2).1 g2 h2;have h1':w.cells? 0 (a.add 0) t.size=some cs':=by rw[show a.add 0=a from rfl]; exact h1
   obtain ⟨⟨c1,e1,fz,k1,k2⟩,k3⟩:=znRa hs h1' hpos;refine ⟨rfl,some y,fun y' hy'=>by cases hy'; exact hy,fun c hc=>?_⟩;have:=hc 0 (by simp[Ty.size]);simp only[List.getElem?_cons_zero,Option.some.injEq]at this;refine ⟨some a,this.symm,a,rfl,hs,(Array.getElem?_eq_some_iff.1 k1).1,⟨c1,e1,fz,k1,k2,nofun⟩,hr _ k3⟩
 |unit =>
  intro _;refine ⟨fun hw h=>?_,fun h _=>⟨(),trivial,fun _ _=>trivial⟩⟩;have hc:=zoza hw;simp only[wt,Bool.and_eq_true]at hw;obtain ⟨_,hw⟩:=hw;split at hw
  ·rename_i fs hu;obtain ⟨_,_,_,_,hl,_⟩:=DataW.trod_struct hu h;exact ⟨by rw[hl,hc],(),trivial,fun _ _=>trivial⟩
  ·cases hw
 |pair a b iha ihb =>
  intro hp;simp only[Ty.pos,Bool.and_eq_true]at hp;have hB:∀ {fs:List Field} {o n:Nat} {cs:List Value},wtF P (.pair a b) fs o=true→(∀f∈fs,∃x,DataW.trod enc P w 0 (fun _=>true) held n f.type ((cs.drop f.offset).take (P.cellsOf f.type))=some x) →
    ∃y:(Ty.pair a b).I,okI (.pair a b) y∧∀c:Cells,(∀j,j<(Ty.pair a b).size→cs[o+j]?=some (c j))→rep (oldB w) w (.pair a b) .s y c (fun _=>False):=by
   intro fs o n cs h hx;cases fs with
   |nil=>simp[wtF]at h
   |cons f fs =>
    simp only[wtF,Bool.and_eq_true]at h;obtain ⟨h1,h2,h3⟩:=h;have h1:=Nat.eq_of_beq_eq_true h1;obtain ⟨x,h4⟩:=hx f (by simp);rw[h1,zoza h2]at h4;obtain ⟨_,y1,hy1,hr1⟩:=(iha hp.1).1 h2 h4;obtain ⟨y2,hy2,hr2⟩:=(ihb hp.2).2 h3 (fun g hg=>hx g (by simp[hg]));refine ⟨(y1,y2),⟨hy1,hy2⟩,fun c hc=>⟨fun _=>False,fun _=>False,fun _ h=>h.elim,fun _ h=>h.elim,fun _ h=>h.elim,hr1 _ fun j hj=>?_,hr2 _ fun j hj=>?_⟩⟩
    ·rw[zGRa hj];exact hc j (by simp only[Ty.size]; omega)
    ·rw[Nat.add_assoc];exact hc _ (by simp only[Ty.size]; omega)
  refine ⟨fun {T n cs x} hw h=>?_,hB⟩;have hc:=zoza hw;simp only[wt,Bool.and_eq_true]at hw;obtain ⟨_,hw⟩:=hw;split at hw
  ·rename_i fs hu;obtain ⟨xs,n',_,_,hl,hxl,hx⟩:=DataW.trod_struct hu h;split at hw
   ·rename_i f fs' hfs;have hw':wtF P (.pair a b) fs.toList 0=true:=by
     rw[hfs];simp only[wtF,Nat.zero_add];exact hw
    obtain ⟨y,hy,hr⟩:=hB (n:=n') (cs:=cs) hw' (fun g hg=>by
     obtain ⟨i,hi,hgi⟩:=List.mem_iff_getElem.1 hg;have h5:i<fs.size:=by simpa using hi
     have h6:=hx i g (by rw[Array.getElem?_eq_getElem h5,←hgi]; rfl);rw[List.getElem?_eq_getElem (by omega)]at h6;exact ⟨_,h6⟩)
    exact ⟨by rw[hl,hc],y,hy,fun c hc=>hr c (fun j hj=>by rw[Nat.zero_add]; exact hc j hj)⟩
   ·cases hw
  ·cases hw
 |arr n t ih=>intro hp; cases hp
end
theorem zE1a {H:Type} {enc:TypeId×Value→H} {P:Program} {w:World} {r:Reach} {base:Nat} {held:Bool} {T:TypeId} {a b:Ty} {v:Value} {d:DataW H} {ps:List MemPlace}
  (hw:wt P (.pair a b) T=true) (hp:(Ty.pair a b).pos=true) (hval:Value.okWide P w r base T v) (h:DataW.Trod enc P w 0 (fun _=>true) held T v d ps) :
  ∃x:(Ty.pair a b).I,(isV (.pair a b) v∧Md.s ≠ .j∧rep (oldB w) w (.pair a b) .s x (cv v) (fun _=>False))∧okI (.pair a b) x:=by
 obtain ⟨n,h⟩:=h;obtain ⟨hl,y,hy,hr⟩:=(zj0a _ hp).1 hw h;have hag:=zO1a hw;have hv:∃cs,v = .agg cs:=by
  unfold Value.okWide at hval;simp only[Ty.agg]at hag;split at hag
  ·rename_i hu; rw[hu]at hval; obtain ⟨cs,h1,_⟩:=hval; exact ⟨cs,h1⟩
  ·rename_i hu; rw[hu]at hval; obtain ⟨cs,h1,_⟩:=hval; exact ⟨cs,h1⟩
  ·cases hag
 obtain ⟨⟨l⟩,rfl⟩:=hv;have hl':l.length=(Ty.pair a b).size:=hl;have hc:∀j,j<(Ty.pair a b).size→l[j]?=some (cv (.agg ⟨l⟩) j):=by
  intro j hj;show l[j]?=some ((⟨l⟩:Array Value).getD j undef);rw[List.getElem?_eq_getElem (by omega)];simp[Array.getD,hl',hj]
 refine ⟨y,⟨?_,nofun,hr _ hc⟩,hy⟩;show Value.agg ⟨l⟩ = .agg _
 congr 1
 apply congrArg Array.mk;refine List.ext_getElem? fun j=>?_
 by_cases hj:j<(Ty.pair a b).size
 ·rw[hc j hj]; simp[hj]
 ·rw[List.getElem?_eq_none (by omega),List.getElem?_eq_none (by simp; omega)]
end Go.Trm
namespace Go.Trm
def pEq:List PE→List PE→Bool
 |[],[]=>true
 | .fld i::p,.fld j::q=>Nat.beq i j&&pEq p q
 | .der::p,.der::q=>pEq p q
 |_,_=>false
theorem zoWa:∀ {p q:List PE},pEq p q=true→p=q
 |[],[],_=>rfl
 | .fld i::p,.fld j::q,h=>by
  simp only[pEq,Bool.and_eq_true]at h;rw[Nat.eq_of_beq_eq_true h.1,zoWa h.2]
 | .der::p,.der::q,h=>by rw[zoWa (p:=p) (q:=q) h]
 |[],_::_,h=>by cases h
 | .fld _::_,[],h=>by cases h
 | .fld _::_,.der::_,h=>by cases h
 | .fld _::_,.idx _::_,h=>by cases h
 | .der::_,[],h=>by cases h
 | .der::_,.fld _::_,h=>by cases h
 | .der::_,.idx _::_,h=>by cases h
 | .idx _::_,_,h=>by cases h
def cEq:List (Nat×List PE)→List (Nat×List PE)→Bool
 |[],[]=>true
 |(a,p)::l,(b,q)::m=>Nat.beq a b&&(pEq p q&&cEq l m)
 |_,_=>false
theorem zu1a:∀ {l m:List (Nat×List PE)},cEq l m=true→l=m
 |[],[],_=>rfl
 |(a,p)::l,(b,q)::m,h=>by
  simp only[cEq,Bool.and_eq_true]at h;rw[Nat.eq_of_beq_eq_true h.1,zoWa h.2.1,zu1a h.2.2]
 |[],_::_,h=>by cases h
 |_::_,[],h=>by cases h
def pIdx:List PE→List PE→List PE→Option Int
 |[],post,.idx i::p=>match pEq post p with
  |true=>some i
  |false=>none
 | .fld i::pr,post,.fld j::p=>match Nat.beq i j with
  |true=>pIdx pr post p
  |false=>none
 | .der::pr,post,.der::p=>pIdx pr post p
 |_,_,_=>none
theorem zvXa:∀ {pr post p:List PE} {i:Int},pIdx pr post p=some i→p=pr ++ .idx i::post
 |[],post,.idx j::p,i,h=>by
  simp only[pIdx]at h;split at h
  ·rename_i he;simp only[Option.some.injEq]at h;rw[h,zoWa he];rfl
  ·cases h
 | .fld a::pr,post,.fld b::p,i,h=>by
  simp only[pIdx]at h;split at h
  ·rename_i he;rw[Nat.eq_of_beq_eq_true he,zvXa h];rfl
  ·cases h
 | .der::pr,post,.der::p,i,h=>by
  simp only[pIdx]at h;rw[zvXa h];rfl
 |[],_,[],_,h=>by cases h
 |[],_,.fld _::_,_,h=>by cases h
 |[],_,.der::_,_,h=>by cases h
 | .fld _::_,_,[],_,h=>by cases h
 | .fld _::_,_,.der::_,_,h=>by cases h
 | .fld _::_,_,.idx _::_,_,h=>by cases h
 | .der::_,_,[],_,h=>by cases h
 | .der::_,_,.fld _::_,_,h=>by cases h
 | .der::_,_,.idx _::_,_,h=>by cases h
 | .idx _::_,_,_,_,h=>by simp[pIdx]at h
section
variable {R:Type} {res:R}
def mV (t:Ty) (m:Md) (s:SV) (k:t.I→Option R):Option R:=match s with
 | .v t' m' x=>match m'.eqb m with
  |true=>match castI t' t x with
   |some y=>k y
   |none=>none
  |false=>none
 |_=>none
theorem zm2a {t:Ty} {m:Md} {s:SV} {k:t.I→Option R} (h:mV t m s k=some res):∃y,s = .v t m y∧k y=some res:=by
 unfold mV at h;split at h
 ·split at h
  ·rename_i he;split at h
   ·rename_i y hc;obtain ⟨eu,hy⟩:=zdca hc;subst eu;simp only at hy;subst hy;exact ⟨_,by rw[Md.eqb_eq he],h⟩
   ·cases h
  ·cases h
 ·cases h
def mP (T:TypeId) (t:Ty) (m:Md) (s:SV) (k:t.I→Option R):Option R:=mV (.ptr T t) m s fun y=>match (y:Option t.I) with
 |some c=>k c
 |none=>none
theorem zf3a {T:TypeId} {t:Ty} {m:Md} {s:SV} {k:t.I→Option R} (h:mP T t m s k=some res):∃y:t.I,s = .v (.ptr T t) m (some y)∧k y=some res:=by
 obtain ⟨y,h1,h2⟩:=zm2a h;cases y with
 |none=>cases h2
 |some c=>exact ⟨c,h1,h2⟩
def mAl (r:Nat) (p:List PE) (s:SV) (k:Option R):Option R:=match s with
 | .al r' p'=>match Nat.beq r r'&&pEq p p' with
  |true=>k
  |false=>none
 |_=>none
theorem zp2a {r:Nat} {p:List PE} {s:SV} {k:Option R} (h:mAl r p s k=some res):s = .al r p∧k=some res:=by
 unfold mAl at h;split at h
 ·split at h
  ·rename_i he;simp only[Bool.and_eq_true]at he;rw[Nat.eq_of_beq_eq_true he.1,zoWa he.2];exact ⟨rfl,h⟩
  ·cases h
 ·cases h
def mAl1 (r:Nat) (pr post:List PE) (s:SV) (k:Int→Option R):Option R:=match s with
 | .al r' p'=>match Nat.beq r r',pIdx pr post p' with
  |true,some i=>k i
  |_,_=>none
 |_=>none
theorem zP0a {r:Nat} {pr post:List PE} {s:SV} {k:Int→Option R} (h:mAl1 r pr post s k=some res):∃i,s = .al r (pr ++ .idx i::post)∧k i=some res:=by
 unfold mAl1 at h;split at h
 ·split at h
  ·rename_i i he hi;rw[Nat.eq_of_beq_eq_true he,zvXa hi];exact ⟨i,rfl,h⟩
  ·cases h
 ·cases h
def mFn (f:FuncId) (a c:List (Nat×List PE)) (s:SV) (k:Option R):Option R:=match s with
 | .fn f' a' c'=>match Nat.beq f f'&&(cEq a a'&&cEq c c') with
  |true=>k
  |false=>none
 |_=>none
theorem zn2a {f:FuncId} {a c:List (Nat×List PE)} {s:SV} {k:Option R} (h:mFn f a c s k=some res):s = .fn f a c∧k=some res:=by
 unfold mFn at h;split at h
 ·split at h
  ·rename_i he;simp only[Bool.and_eq_true]at he;rw[Nat.eq_of_beq_eq_true he.1,zu1a he.2.1,zu1a he.2.2];exact ⟨rfl,h⟩
  ·cases h
 ·cases h
def mBx (r:Nat) (p:List PE) (s:SV) (k:Option R):Option R:=match s with
 | .bx r' p'=>match Nat.beq r r'&&pEq p p' with
  |true=>k
  |false=>none
 |_=>none
theorem zo2a {r:Nat} {p:List PE} {s:SV} {k:Option R} (h:mBx r p s k=some res):s = .bx r p∧k=some res:=by
 unfold mBx at h;split at h
 ·split at h
  ·rename_i he;simp only[Bool.and_eq_true]at he;rw[Nat.eq_of_beq_eq_true he.1,zoWa he.2];exact ⟨rfl,h⟩
  ·cases h
 ·cases h
end
theorem zfUa {st:St} {m:List (Nat×Bool)} {l:List (Nat×SV)} (h:(m.map fun q=>(q.1,(St.only st (m.map Prod.fst)) q.1))=l):St.only st (m.map Prod.fst)=St.ofList l:=by
 rw[←h];refine (zSYa (l:=m.map Prod.fst) (st:=st)).symm.trans ?_;show St.ofList ((m.map Prod.fst).map fun s=>(s,(St.only st (m.map Prod.fst)) s))=_;rw[List.map_map];rfl
end Go.Trm
namespace Go.Trm
end Go.Trm
namespace Go.Trm
structure SPat where
 A:Type
 sv:A→SV
 look:(R:Type)→SV→(A→Option R)→Option R
 inv:∀(R:Type) (s:SV) (k:A→Option R) (r:R),look R s k=some r→∃a,s=sv a∧k a=some r
def sV (t:Ty) (m:Md):SPat:=⟨t.I,.v t m,fun _=>mV t m,fun _ _ _ _ h=>zm2a h⟩
def sP (T:TypeId) (t:Ty) (m:Md):SPat:=⟨t.I,fun y => .v (.ptr T t) m (some y),fun _=>mP T t m,fun _ _ _ _ h=>zf3a h⟩
def sAl (r:Nat) (p:List PE):SPat:=⟨Unit,fun _ => .al r p,fun _ s k=>mAl r p s (k ()),fun _ _ _ _ h=>⟨(),zp2a h⟩⟩
def sBx (r:Nat) (p:List PE):SPat:=⟨Unit,fun _ => .bx r p,fun _ s k=>mBx r p s (k ()),fun _ _ _ _ h=>⟨(),zo2a h⟩⟩
def sAl1 (r:Nat) (p q:List PE):SPat:=⟨Int,fun i => .al r (p ++ .idx i::q),fun _=>mAl1 r p q,fun _ _ _ _ h=>zP0a h⟩
def sFn (f:FuncId) (c d:List (Nat×List PE)):SPat:=⟨Unit,fun _ => .fn f c d,fun _ s k=>mFn f c d s (k ()),fun _ _ _ _ h=>⟨(),zn2a h⟩⟩
inductive Pt (X:Type):Type 1 where
 |e (x:X)
 |s (n:Nat) (p:SPat) (k:p.A→Pt X)
noncomputable def Pt.run {X:Type} (p:Pt X):(R:Type)→St→(X→Option R)→Option R :=
 Pt.rec (motive:=fun _=>(R:Type)→St→(X→Option R)→Option R) (fun x _ _ F=>F x) (fun n p _ ih R st F=>p.look R (st n) fun a=>ih a R st F) p
def Pt.ok {X:Type} (S:X→St) (hd:List (Nat×Bool)) (p:Pt X):(List (Nat×SV)→List (Nat×SV))→Prop :=
 Pt.rec (motive:=fun _=>(List (Nat×SV)→List (Nat×SV))→Prop) (fun x f=>S x=St.ofList (f [])∧(f []).map Prod.fst=hd.map Prod.fst) (fun n p _ ih f=>∀a,ih a fun l=>f ((n,p.sv a)::l)) p
theorem zj2a {st:St}:∀ {l:List (Nat×SV)} {m:List (Nat×Bool)},l.map Prod.fst=m.map Prod.fst→(∀q∈l,st q.1=q.2)→(m.map fun q=>(q.1,st q.1))=l
 |[],[],_,_=>rfl
 |[],_::_,h,_=>by cases h
 |_::_,[],h,_=>by cases h
 |q::l,x::m,h,g=>by
  simp only[List.map_cons,List.cons.injEq]at h;rw[List.map_cons,zj2a h.2 (fun q hq=>g q (List.mem_cons_of_mem _ hq)),←h.1,g q List.mem_cons_self]
theorem Pt.inv {X R:Type} {S:X→St} {hd:List (Nat×Bool)} {st:St} {F:X→Option R} {r:R}:∀(p:Pt X) (f:List (Nat×SV)→List (Nat×SV)),p.ok S hd f→(∀l,(∀q∈l,st q.1=q.2)→∀q∈f l,st q.1=q.2)→p.run R st F=some r →
  ∃x l,F x=some r∧S x=St.ofList l∧l.map Prod.fst=hd.map Prod.fst∧∀q∈l,st q.1=q.2:=by
 intro p
 induction p with
 |e x=>intro f h1 h2 h3; exact ⟨x,f [],h3,h1.1,h1.2,h2 [] (fun q hq=>by cases hq)⟩
 |s n p k ih =>
  intro f h1 h2 h3;obtain ⟨a,h4,h5⟩:=p.inv _ _ _ _ h3;refine ih a _ (h1 a) (fun l hl=>h2 _ fun q hq=>?_) h5;rcases List.mem_cons.1 hq with rfl|hq
  ·exact h4
  ·exact hl q hq
theorem Pt.only {X R:Type} {S:X→St} {hd:List (Nat×Bool)} {st:St} {F:X→Option R} {r:R} {p:Pt X} (h:p.ok S hd id) (hr:p.run R (St.only st (hd.map Prod.fst)) F=some r):∃x,St.only st (hd.map Prod.fst)=S x∧F x=some r:=by
 obtain ⟨x,l,h1,h2,h3,h4⟩:=p.inv id h (fun l hl=>hl) hr;exact ⟨x,(zfUa (zj2a h3 h4)).trans h2.symm,h1⟩
section
variable {env:Env} {lp:Loops} {inl:Inl} {c:Code} {hd:List (Nat×Bool)} {out:Ex→List (Nat×Bool)} {X:Type} {S:X→St}
def LStep (env:Env) (lp:Loops) (inl:Inl) (c:Code) (hd:List (Nat×Bool)) (out:Ex→List (Nat×Bool)) (S:X→St) (B:(R:Type)→(Ex→St→Option R)→(X→Option R)→X→Option R):Prop :=
 ∀(R:Type) (K:Ex→St→Option R) (rec:St→Option R) (x:X),evC env lp inl c (S x) (fun e st=>match e with | .normal=>zAka hd st rec|e=>zAka (out e) st (K e))=B R K (fun x=>rec (S x)) x
def JStep (env:Env) (lp:Loops) (inl:Inl) (c:Code) (out:Ex→List (Nat×Bool)) (S:X→St) (J:(R:Type)→(Ex→St→Option R)→X→Option R):Prop :=
 ∀(R:Type) (K:Ex→St→Option R) (x:X),evC env lp inl c (S x) (fun e st=>zAka (out e) st (K e))=J R K x
noncomputable def lpE {R:Type} (hd:List (Nat×Bool)) (p:Pt X) (F:X→Option R) (st:St):Option R:=zAka hd st fun st=>p.run R st F
noncomputable def lpL {R:Type} (B:(R:Type)→(Ex→St→Option R)→(X→Option R)→X→Option R) (K:Ex→St→Option R) (x:X):Option R:=loopN (B R K) zpaa x
theorem zPoa {B:(R:Type)→(Ex→St→Option R)→(X→Option R)→X→Option R} {p:Pt X} {i:Nat} (step:LStep env lp inl c hd out S B) (hp:p.ok S hd id) (hi:zcua c=some i) (hlp:∀R st K,lp false i R st K=lpE hd p (lpL B K) st):zCTa env lp inl c :=
 zXYa (S:=S) B (fun _=>zpaa) i step hi (fun R K st=>p.run R st (lpL B K)) hlp fun _ _ _ _ h=>Pt.only hp h
theorem zvda {J:(R:Type)→(Ex→St→Option R)→X→Option R} {p:Pt X} {i:Nat} (step:JStep env lp inl c out S J) (hp:p.ok S hd id) (hlp:∀R st K,lp true i R st K=lpE hd p (J R K) st):zDTa env lp inl c i :=
 zbZa (S:=S) J i step (fun R K st=>p.run R st (J R K)) hlp fun _ _ _ _ h=>Pt.only hp h
end
def gamL:List (FuncId×List FuncId×CSpec)→FuncId→List FuncId→Option CSpec
 |[],_,_=>none
 |q::l,f,gs=>match Nat.beq q.1 f&&lEq q.2.1 gs with
  |true=>some q.2.2
  |false=>gamL l f gs
where lEq:List Nat→List Nat→Bool
 |[],[]=>true
 |a::l,b::m=>Nat.beq a b&&lEq l m
 |_,_=>false
def GamOk (P:Program):List (FuncId×List FuncId×CSpec)→Prop
 |[]=>True
 |q::l=>Holds P q.1 q.2.2∧GamOk P l
theorem zPOa {P:Program}:∀ {l:List (FuncId×List FuncId×CSpec)},GamOk P l→∀f gs c,gamL l f gs=some c→Holds P f c
 |[],_,_,_,_,h=>by cases h
 |q::l,⟨h1,h2⟩,f,gs,c,h=>by
  unfold gamL at h;split at h
  ·rename_i he;simp only[Bool.and_eq_true]at he;cases h;rw[←Nat.eq_of_beq_eq_true he.1];exact h1
  ·exact zPOa h2 f gs c h
theorem zY0a {P:Program} {env:Env} {inl:Inl} {f:FuncId} {fn:Func} {code:Code} {c:CSpec} {rs:List (Nat×Option TypeId)} {lp:Loops} (hm:P.follows .mixedOrders=true∧EnvTy P env) (hF:EnvFn P env) (hI:InlOk P env.top inl) (hf:P.funcs[f]?=some fn) (hL:zsaa env lp inl code) (hname:(fn.name == "runtime.NumGoroutine")=false) (hb:fn.body=some code) (hr:fn.results=(rs.map toRV).toArray)
  (hn:env.n=fn.ntmps) (hlen:(Nat.ble c.ins.length fn.ntmps&&(Nat.blt fn.ntmps gh0&&(Nat.beq env.b 0&&!env.df)))=true) (hrd:rvOk rs=true)
  (hev:∀(d:DI c.ins) (R:Type) (K:DR c.outs→DB c.ins→Option R) (Kp:PI c.pan→DB c.ins→Option R),evC env lp inl code (St.start c.ins d) (retK env c.ins c.outs rs c.pan K Kp)=c.fn d K Kp):Holds P f c :=
 zX0a hm.1 hm.2 hF hI hf hname hb hr hn hlen hL hrd fun d R K Kp res h=>by rw[hev]; exact h
theorem hv {P:Program} {env:Env} {inl:Inl} {f:FuncId} {fn:Func} {code:Code} {c:CSpec} {rs:List (Nat×Option TypeId)} {lp:Loops} (hF:EnvFn P env) (hI:InlOk P env.top inl) (hf:P.funcs[f]?=some fn) (hL:zsaa env lp inl code) (hm:P.follows .mixedOrders=true∧EnvTy P env)
  (h:(fn.name == "runtime.NumGoroutine",fn.body,fn.results,env.n,(Nat.ble c.ins.length fn.ntmps&&(Nat.blt fn.ntmps gh0&&(Nat.beq env.b 0&&!env.df))),rvOk rs)=(false,some code,(rs.map toRV).toArray,fn.ntmps,true,true))
  (hev:∀(d:DI c.ins) (R:Type) (K:DR c.outs→DB c.ins→Option R) (Kp:PI c.pan→DB c.ins→Option R),evC env lp inl code (St.start c.ins d) (retK env c.ins c.outs rs c.pan K Kp)=c.fn d K Kp):Holds P f c:=by
 simp only[Prod.mk.injEq]at h;exact zY0a hm hF hI hf hL h.1 h.2.1 h.2.2.1 h.2.2.2.1 h.2.2.2.2.1 h.2.2.2.2.2 hev
inductive AllP {α:Type} (φ:α→Prop):List α→Prop where
 |nil:AllP φ []
 |cons {a l} (h:φ a) (k:AllP φ l):AllP φ (a::l)
theorem AllP.of {α:Type} {φ:α→Prop} {l:List α} (h:AllP φ l):∀a∈l,φ a:=by
 induction h with
 |nil=>intro a h; cases h
 |cons h _ ih =>
  intro a ha;cases ha with
  |head=>exact h
  |tail _ ha=>exact ih a ha
inductive AllJ (env:Env) (lp:Loops) (inl:Inl):List (Code×Nat)→Prop where
 |nil:AllJ env lp inl []
 |cons {c i l} (h:zDTa env lp inl c i) (k:AllJ env lp inl l):AllJ env lp inl ((c,i)::l)
theorem AllJ.of {env:Env} {lp:Loops} {inl:Inl} {l:List (Code×Nat)} (h:AllJ env lp inl l):∀q∈l,zDTa env lp inl q.1 q.2:=by
 induction h with
 |nil=>intro a h; cases h
 |cons h _ ih =>
  intro a ha;cases ha with
  |head=>exact h
  |tail _ ha=>exact ih a ha
theorem zPVa {env:Env} {lp:Loops} {inl:Inl} {code:Code} {cs:List Code} {js:List (Code×Nat)} (h1:AllP (zCTa env lp inl) cs) (h2:AllJ env lp inl js) (e1:zBJa code=cs) (e2:zCJa env code=js):zsaa env lp inl code :=
 zjSa (by rw[e1]; exact h1.of) (by rw[e2]; exact h2.of)
end Go.Trm
namespace Go.Trm
structure DefOk (P:Program) (g:FuncId) (T:TypeId):Prop where
 fn:∃fn code,P.funcs[g]?=some fn∧(fn.name == "runtime.NumGoroutine")=false∧fn.body=some code
 ret:∀(w:World) (p:Value),CallsD P g #[p] .returning w fun e u w'=>(∃v,e = .returned v)∧u = .returning∧w'=w
 pan:∀(w:World) (b o:Nat) (kd:IntKind) (n:Int),zTga w b (o+1) true→CallsD P g #[.pointer (some ⟨b,o,none⟩)] (.panicking [{ v := .iface T (.int kd n),recovered:=false }]) w
  fun e u w'=>(∃v,e = .returned v)∧u = .panicking [{ v := .iface T (.int kd n),recovered:=true }]∧w'=w.setCells b o (Value.int kd n).cells.toList
noncomputable def retD {R:Type} (env:Env) (ins:List PK) (ks:List (Ty×Md)) (rs:List (Nat×Option TypeId)) (pn:Option (TypeId×Ty)) (g:FuncId) (T:TypeId) (kd:IntKind) (s:Nat) (K:DR ks→DB ins→Option R) (Kp:PI pn→DB ins→Option R):Ex→St→Option R
 | .exit _,_=>none
 | .pan p,st=>match st (env.b+env.n) with
  | .tup []=>retK env ins ks rs pn K Kp (.pan p) st
  | .fn g' [] [(r,[.der])]=>match Nat.beq g g'&&(Nat.beq s r&&Nat.beq p.T T),castI p.t (.int kd) p.x with
   |true,some y=>(setAt s [.der] (.int kd) .s y (.ret ())).run Cx.no st fun _ st=>retK env ins ks rs pn K Kp .ret st
   |_,_=>none
  |_=>none
 |_,st=>match st (env.b+env.n) with
  | .tup []=>retK env ins ks rs pn K Kp .ret st
  | .fn g' [] [_]=>match Nat.beq g g' with
   |true=>retK env ins ks rs pn K Kp .ret st
   |false=>none
  |_=>none
section
variable {P:Program} {env:Env} {e:Entry} {F:Blks} {w:World} {st:St} {V:Nat→Value} {fp:Nat→Blks} {fl:Blks} {a:Act} {R:Type} {res:R} {C:Cx R} {gh:Nat→Value}
theorem zmWa {α:Type} {r:Nat} {p:List PE} {t:Ty} {y:t.I} {v:Value} {ad:Value} {k:RM α} {Kk:α→St→Option R} (hS1:SR e F w st V fp none') (hal:AlOk w st V r p ad) (hv:isV t v) (hrep:rep F w t .s y (cv v) none') (h3:(setAt r p t .s y k).run C st Kk=some res) :
  ∃b o st2 fp2,ad = .pointer (some ⟨b,o,none⟩)∧zTga w b (o+t.size) true∧k.run C st2 Kk=some res∧SR e F (w.setCells b o v.cells.toList) st2 V fp2 none':=by
 have h1':t.agg=false→one v:=fun ha=>by
  have:=zJwa hrep nofun ha;have hv':v=valOf t (cv v):=hv;rw[hv'];simp only[valOf,ha,Bool.false_eq_true,if_false];exact this
 have hsz:=zRTa hv h1';simp only[setAt,RM.run]at h3;split at h3
 ·rename_i t0 m0 x0 hr;split at h3
  ·rename_i u mu y0 hg;split at h3
   ·rename_i y' hc;split at h3
    ·rename_i m' x' hset;simp only[RM.run]at h3;obtain ⟨eu,hy⟩:=zdca hc;subst eu;simp only at hy;subst hy;obtain ⟨b,k,fold,e1,e2,e3,e4,P',e5,e6⟩:=zbka hS1 hal hr hg;have hrb:=(hal t0 m0 x0 hr).1;obtain ⟨c1,c2,c3⟩:=zaKa (v:=v) e6 hsz;have hb:=(P'.lies b k rfl).1;have hrep':rep F (w.setCells b k v.cells.toList) t .s y (rowW (w.setCells b k v.cells.toList) b k) none':=by
      refine zEaa (fun j hj=>(c3 j hj).symm) (zxaa (fun _ hb=>hb) (fun b' hb'=>c1.1 b' ?_) (fun b' hb'=>hb'.elim) hrep)
      rintro rfl; exact hS1.notF _ _ hb hb'
     have hS2:=hS1.place hr (zPYa hrb e3) P' e4 e3 e2 hset (fun _ hb=>hb) c2 (zJua _ _ _ _) c1 hrep' (fun b hb=>hb.elim) (fl':=none') (fun _ hb=>hb.elim) (fun b hb => .inl hb);exact ⟨b,k,_,_,e1,e6,h3,hS2⟩
    ·simp[RM.run]at h3
   ·simp[RM.run]at h3
  ·simp[RM.run]at h3
 ·simp[RM.run]at h3
end
section
variable {P:Program} {env:Env} {inl:Inl}
theorem zhZa {g:FuncId} {T:TypeId} {kd:IntKind} {s:Nat} (hG:DefOk P g T) {f:FuncId} {fn:Func} {code:Code} {c:CSpec} {rs:List (Nat×Option TypeId)} {lp:Loops} (hm:P.follows .mixedOrders=true) (hE:EnvTy P env) (hF:EnvFn P env) (hI:InlOk P env.top inl) (hf:P.funcs[f]?=some fn) (hname:(fn.name == "runtime.NumGoroutine")=false) (hb:fn.body=some code) (hr:fn.results=(rs.map toRV).toArray)
  (hn:env.n=fn.ntmps) (hlen:(Nat.ble c.ins.length fn.ntmps&&(Nat.blt fn.ntmps gh0&&(Nat.beq env.b 0&&env.df)))=true) (hL:zsaa env lp inl code) (hrd:rvOk rs=true) (hrs:(rs.all fun q=>env.rs.any (Nat.beq q.1))=true)
  (hev:∀(d:DI c.ins) (R:Type) (K:DR c.outs→DB c.ins→Option R) (Kp:PI c.pan→DB c.ins→Option R) (res:R),c.fn d K Kp=some res→evC env lp inl code ((St.start c.ins d).put (env.b+env.n) (.tup [])) (retD env c.ins c.outs rs c.pan g T kd s K Kp)=some res):Holds P f c:=by
 refine ⟨⟨fn,code,hf,hname,hb⟩,?_⟩;intro F w d vs fps R K Kp res hGl hFs hd hfp hargs hcall;have hnd:=ziXa hrd;have hvl:=zsHa hargs;simp only[Bool.and_eq_true]at hlen;have hle:=Nat.le_of_ble_eq_true hlen.1;have hlim:=zsta hlen.2.1;have hb0:=Nat.eq_of_beq_eq_true hlen.2.2.1;have hdf:=hlen.2.2.2;refine calls_of_wp_defers hf hb ?_
 let e:Entry:=⟨w,fun b=>∃i,fps i b,F⟩
 let gh:Nat→Value:=fun i=>vs.getD (i-gh0) undef
 let tm:Array Value:=vs.toArray++Array.replicate (fn.ntmps-vs.toArray.size) undef
 let V00:Nat→Value:=fun i=>if gh0≤i then vs.getD (i-gh0) undef else tm.getD i undef
 let fp0:Nat→Blks:=fun i b=>if gh0≤i then refAt c.ins (i-gh0)=true∧i-gh0<vs.length∧fps (i-gh0) b else refAt c.ins i=false∧i<vs.length∧fps i b
 have htm:∀i v,vs[i]?=some v→tm.getD i undef=v:=by
  intro i v hv;have hi:i<vs.length:=(List.getElem?_eq_some_iff.1 hv).1;simp only[tm,Array.getD_eq_getD_getElem?];rw[Array.getElem?_append_left (by simpa using hi)];simp[hv]
 have hgh:∀j v,vs[j]?=some v→V00 (gh0+0+j)=v:=by
  intro j v hv;show (if gh0≤gh0+0+j then vs.getD (gh0+0+j-gh0) undef else _)=v;rw[if_pos (by omega),show gh0+0+j-gh0=j by omega,List.getD_eq_getElem?_getD,hv];rfl
 have hstg:∀j,St.start c.ins d (gh0+0+j)=(ghS c.ins d).getD j .un:=by
  intro j;unfold St.start;rw[show Nat.ble gh0 (gh0+0+j)=true from Nat.ble_eq_true_of_le (by omega)];simp only;rw[show gh0+0+j-gh0=j by omega]
 let V0:Nat→Value:=updV V00 (env.b+env.n) (.tuple #[])
 have hV0:∀i,i≠env.b+env.n→V0 i=V00 i:=fun i hi=>by show updV V00 _ _ i=_; unfold updV; rw[if_neg hi]
 have hA0:AR env gh { tmps:=tm,defers:=[] } V0:=by
  refine ⟨by simp only[tm,Array.size_append,List.size_toArray,Array.size_replicate]; omega,fun i hi=>?_,?_,by omega,fun i hi=>?_⟩
  ·rw[hV0 _ (by omega)];show tm.getD i undef=if gh0≤env.b+i then _ else _
   rw[if_neg (by omega),hb0,Nat.zero_add]
  ·rw[hdf,show V0 (env.b+env.n) = .tuple #[] by simp[V0,updV]]; rfl
  ·rw[hV0 _ (by omega)];rcases hi with hi|hi
   ·omega
   ·exact if_pos hi
 have hfp0:∀i b,fp0 i b→∃j,fps j b:=by
  intro i b hb;simp only[fp0]at hb;split at hb
  ·exact ⟨_,hb.2.2⟩
  ·exact ⟨_,hb.2.2⟩
 have hS00:SR e F w (St.start c.ins d) V00 fp0 none':=by
  refine ⟨fun i=>?_,⟨fun i j hij b hb hb'=>?_⟩,fun i b hb=>?_,fun i b hb=>?_,hFs,fun _ _ _ hb=>hb.elim,fun _ hb=>hb.elim,fun _ hb=>hb.elim,Grew.refl _,fun _ _ _=>rfl,fun i b hb => .inl (hfp0 i b hb),fun _ hb=>hb.elim,fun _ hb=>hb,fun _ hb => .inl hb⟩
  ·by_cases hgi:gh0≤i
   ·obtain ⟨j,rfl⟩:∃j,i=gh0+0+j:=⟨i-gh0,by omega⟩
    rw[hstg j];by_cases hj:j<vs.length
    ·have hv:vs[j]?=some vs[j]:=List.getElem?_eq_getElem hj;rw[hgh j _ hv];rcases gh_sv (st:=St.start c.ins d) (V:=V00) hargs hv with ⟨h1,h2⟩|⟨h1,h2⟩
     ·have hfi:∀b,fps j b→fp0 (gh0+0+j) b:=fun b hb=>by
       show if gh0≤gh0+0+j then _ else _
       rw[if_pos (by omega),show gh0+0+j-gh0=j by omega];exact ⟨h1,hj,hb⟩
      cases hsi:(ghS c.ins d).getD j .un with
      |v t m x=>rw[hsi]at h2; exact ⟨h2.1,zEoa hfi h2.2⟩
      |tup l =>
       rw[hsi]at h2;obtain ⟨vs',e1,e2,fs,e3,e4,e5⟩:=h2;exact ⟨vs',e1,e2,fs,e3,fun k b hb=>hfi b (e4 k b hb),e5⟩
      |al r q=>rw[hsi]at h2; exact h2
      |lz r q=>rw[hsi]at h2; exact h2
      |sub r q lo hi=>rw[hsi]at h2; exact h2
      |bx r q=>rw[hsi]at h2; exact h2
      |ifc T t1 x1=>rw[hsi]at h2; exact h2
      |fn f s caps=>rw[hsi]at h2; exact h2
      |nil=>rw[hsi]at h2; exact h2
      |un=>trivial
     ·rw[h2]; trivial
    ·have:(ghS c.ins d).getD j .un = .un:=by
      have:(ghS c.ins d).length≤j:=by rw[zFSa,←hvl]; omega
      simp[List.getD,this]
     rw[this];trivial
   ·have hst:St.start c.ins d i=(initS 0 c.ins d).getD i .un:=by
     unfold St.start;rw[show Nat.ble gh0 i=false from by
      cases hb:Nat.ble gh0 i with
      |false=>rfl
      |true=>exact absurd (Nat.le_of_ble_eq_true hb) hgi]
    have hVi:V00 i=tm.getD i undef:=if_neg hgi;rw[hst,hVi];by_cases hi:i<vs.length
    ·have hv:vs[i]?=some vs[i]:=List.getElem?_eq_getElem hi;have:=zATa (n:=0) (st:=St.start c.ins d) (V:=V00) hargs hv (fun j t m x hj=>by
      rw[hstg j,List.getD_eq_getElem?_getD,hj];rfl) hgh
     rw[htm i _ hv];cases hsi:(initS 0 c.ins d).getD i .un with
     |v t m x =>
      rw[hsi]at this;refine ⟨this.1,zEoa (fun b hb=>?_) this.2⟩;show if gh0≤i then _ else _
      rw[if_neg hgi];exact ⟨zWXa hsi,hi,hb⟩
     |tup l=>exact absurd hsi zWLa
     |al r q=>rw[hsi]at this; exact this
     |lz r q=>rw[hsi]at this; exact this
     |sub r q lo hi=>rw[hsi]at this; exact this
     |bx r q=>exact absurd hsi zmSa
     |ifc T t1 x1=>rw[hsi]at this; exact this
     |fn f s caps=>rw[hsi]at this; exact this
     |nil=>rw[hsi]at this; exact this
     |un=>trivial
    ·have:(initS 0 c.ins d).getD i .un = .un:=by
      have:(initS 0 c.ins d).length≤i:=by rw[zNEa,←hvl]; omega
      simp[List.getD,this]
     rw[this];trivial
  ·simp only[fp0]at hb hb';split at hb<;>split at hb'
   ·exact hd.disj _ _ (by omega) b hb.2.2 hb'.2.2
   ·by_cases hq:i-gh0=j
    ·rw[hq]at hb; rw[hb.1]at hb'; cases hb'.1
    ·exact hd.disj _ _ hq b hb.2.2 hb'.2.2
   ·by_cases hq:i=j-gh0
    ·rw[←hq]at hb'; rw[hb.1]at hb'; cases hb'.1
    ·exact hd.disj _ _ hq b hb.2.2 hb'.2.2
   ·exact hd.disj _ _ hij b hb.2.2 hb'.2.2
  ·obtain ⟨j,hb⟩:=hfp0 i b hb; exact (hfp j b hb).1
  ·obtain ⟨j,hb⟩:=hfp0 i b hb; exact (hfp j b hb).2
 have hS0:=hS00.fillO (d:=env.b+env.n) (v := .tuple #[]) (sv := .tup []) (fq:=none') (fl':=none') (fun hc=>absurd hc (by omega)) rfl ⟨[],rfl,rfl,fun _=>none',⟨fun _ _ _ _ hb=>hb.elim⟩,fun _ _ hb=>hb.elim,fun k t m x hk=>by simp at hk⟩ (fun _ hb=>hb.elim) (fun _ hb=>hb.elim);have hgv:∀ {V:Nat→Value} {a:Act},AR env gh a V→∀j u,vs[j]?=some u→V (gh0+0+j)=u:=fun hA j u hj=>by
  rw[hA.keep _ (.inr (by omega))];show vs.getD (gh0+0+j-gh0) undef=u;rw[show gh0+0+j-gh0=j by omega,List.getD_eq_getElem?_getD,hj];rfl
 have key:∀ {F1:Blks} {w1:World} {st1:St} {V1:Nat→Value} {fp1:Nat→Blks} {a1:Act},SR e F1 w1 st1 V1 fp1 none'→AR env gh a1 V1→retK env c.ins c.outs rs c.pan K Kp .ret st1=some res→∃v,(results fn a1.tmps).run P w1 = .ok v w1∧∃rb,∃F' fo:Blks,∃fb:Nat→Blks,((∃v' ro,Ending.returned v = .returned v'∧K ro rb=some res∧ResR F' w1 v' fo (resS c.outs ro))∨(∃ch pi,Ending.returned v = .panicked ch∧Kp pi rb=some res∧PanR F' w1 (PI.pan c.pan pi) ch))∧(∀b,F b→F' b)∧Grew w w1∧(∀b,b<w.heap.size→(∀i,¬fps i b)→Same w w1 b) ∧
   (Disj fb∧(∀i b,fb i b→¬fo b)∧BackR F' w1 c.ins rb vs fb)∧(∀b,(fo b∨∃i,fb i b)→¬F' b∧b<w1.heap.size∧((∃i,fps i b)∨w.heap.size≤b))∧(∀b,F' b→b<w1.heap.size∧(F b∨(∃i,fps i b)∨w.heap.size≤b)):=by
  intro F1 w1 st1 V1 fp1 a1 hS hA h;simp only[retK]at h;obtain ⟨st2,V2,fp2,a2,h,hS2,hA2,u1,u2⟩:=zoEa hE hS hA h;obtain ⟨st',fp',fl',F',d',ms,bs,fps',k1,k2,k3,k4,k5,k6,k7,k8,k9⟩:=zdia hA2 hS2 h;obtain ⟨st',fpm,F2,k1,k2,hFF⟩:=zRga k2 k1;simp only[RM.run]at k1;obtain ⟨rb,k1,kb⟩:=zowa k2 (vs:=vs) k1 (hgv hA2);have hnd':∀(r:Nat) (q:Nat×TypeId),(r,none)∈rs→q∈zEla rs→q.1=r→False:=hnd;refine ⟨_,zjGa (vals:=a2.tmps) hr (fun r T hq=>u1 (r,T) (zLPa.2 hq)) (fun r hq=>u2 r (fun q hqc hc=>hnd' r q hq hqc hc)),rb,F2,fun b=>∃i,fps' i b,fun i=>fpm (gh0+0+i),.inl ⟨_,toDR c.outs d',rfl,k1,?_⟩,fun b hb=>k2.g5 b hb,k2.g1,fun b hb hno=>k2.g2 b hb (fun hc=>by obtain ⟨i,hc⟩:=hc; exact hno i hc),⟨⟨fun i j hij b hb hb'=>k2.disj.disj _ _ (by omega) b hb hb'⟩,fun i b hb hc=>?_,kb⟩,fun b hb=>?_,fun b hb=>⟨k2.inF b hb,k2.g6 b hb⟩⟩
  ·have hbs:=k8 rfl;subst hbs;have h9:ArgsR F2 w1 (pks c.outs) d' (((zqAa rs).map Operand.tmp).map a2.eval) fps':=k9.mono (fun b hb=>by
    rcases hb with hb|⟨r,hr,_⟩
    ·exact hFF b hb
    ·cases hr)
   have:=zIZa k5 h9;have e1:((zqAa rs).map Operand.tmp).map a2.eval=(zqAa rs).map (fun t=>a2.tmps.getD t undef):=by
    rw[List.map_map]; rfl
   rw[e1]at this;exact this
  ·obtain ⟨j,hc⟩:=hc;exact k2.flD _ b hb (k6 j b hc).1
  ·rcases hb with ⟨i,hb⟩|⟨i,hb⟩
   ·exact ⟨k2.flF b (k6 i b hb).1,k2.flH b (k6 i b hb).1,k2.g4 b (k6 i b hb).1⟩
   ·exact ⟨k2.notF _ b hb,k2.inH _ b hb,k2.g3 _ b hb⟩
 have hno:∀ {F1:Blks} {w1:World} {st1:St} {V1:Nat→Value} {fp1:Nat→Blks} {a1:Act},SR e F1 w1 st1 V1 fp1 none'→AR env gh a1 V1→st1 (env.b+env.n) = .tup []→a1.defers=[]:=by
  intro F1 w1 st1 V1 fp1 a1 hS hA h;have h4:=hS.sv (env.b+env.n);rw[h]at h4;obtain ⟨vs',e1,e2,_⟩:=h4;have h5:=hA.defers;rw[hdf,e1]at h5;exact h5
 have hone:∀ {F1:Blks} {w1:World} {st1:St} {V1:Nat→Value} {fp1:Nat→Blks} {a1:Act} {g':FuncId} {q:Nat×List PE},SR e F1 w1 st1 V1 fp1 none'→AR env gh a1 V1→st1 (env.b+env.n) = .fn g' [] [q]→∃p,a1.defers=[{ target := .fn (.func g') #[p],args:=#[] }]∧CapOk F1 w1 st1 V1 q.1 q.2 p:=by
  intro F1 w1 st1 V1 fp1 a1 g' q hS hA h;have h4:=hS.sv (env.b+env.n);rw[h]at h4;obtain ⟨us,vs',e1,⟨e2,_⟩,e3,e4⟩:=h4;have h5:=hA.defers;rw[hdf,e1]at h5;obtain rfl:=List.eq_nil_of_length_eq_zero e2;obtain ⟨p,h6,h7⟩:=e4 0 q rfl
  match vs',e3,h6 with
  |[p'],_,h6 =>
   simp only[List.getElem?_cons_zero,Option.some.injEq]at h6;subst h6;exact ⟨p',h5,h7⟩
 have hinv:∀(p:Value) (w1:World),(invoke (.fn (.func g) #[p]) #[]).run P w1 = .ok (.enter g #[p]) w1:=by
  intro p w1;obtain ⟨fn',code',f1,f2,f3⟩:=hG.fn;have e1:#[p]=#[]++#[p]:=by simp
  simp only[invoke];exact Go.MuLone.run_callFunc_enter f1 f2 f3 _ _
 have hres:∀(tmps tmps':Array Value),(∀q,q∈rs→tmps.getD q.1 undef=tmps'.getD q.1 undef)→results fn tmps=results fn tmps':=by
  intro tmps tmps' hq;unfold results;rw[hr];simp only[Array.mapM_eq_mapM_toList];have hm:∀(l:List ResultVar) (f f':ResultVar→Sem Value),(∀x,x∈l→f x=f' x)→l.mapM f=l.mapM f':=by
   intro l f f'
   induction l with
   |nil=>intro _; rfl
   |cons x l ih=>intro h; rw[List.mapM_cons,List.mapM_cons,ih (fun x hx=>h x (List.mem_cons_of_mem _ hx)),h x List.mem_cons_self]
  refine congrArg (fun z:Sem (List Value)=>(do let vs ←List.toArray <$> z; pure (if h:vs.size=1 then vs[0] else Value.tuple vs):Sem Value)) (hm _ _ _ fun x hx=>?_);obtain ⟨q,hq',rfl⟩:=List.mem_map.1 hx;have h1:=hq q hq';obtain ⟨r,o⟩:=q;cases o with
  |none=>simp only[toRV]; rw[h1]
  |some T'=>simp only[toRV]; rw[h1]
 have hlv:∀ {R':Ending→World→Prop} {tmps tmps':Array Value},results fn tmps=results fn tmps'→∀(ds:List Deferred) (u:FrameMode) (w1:World),Leaves P fn tmps R' ds u w1→Leaves P fn tmps' R' ds u w1:=by
  intro R' tmps tmps' hq ds
  induction ds with
  |nil =>
   intro u w1 h;cases u with
   |run=>exact h
   |returning=>obtain ⟨v,h1,h2⟩:=h; exact ⟨v,hq ▸ h1,h2⟩
   |panicking ch=>exact h
  |cons d ds ih =>
   intro u w1 h;obtain ⟨h1,fv,cap,f',args,h2,h3,h4⟩:=h;refine ⟨h1,fv,cap,f',args,h2,h3,h4.mono fun e u' w' h5=>?_⟩;cases e with
   |returned _=>exact ih _ _ h5
   |panicked _=>exact ih _ _ h5
   |outgrown=>exact h5
 refine zSQa hm hE hF hI (e:=e) ⟨hGl,fun b hb=>⟨fun ⟨i,hc⟩=>(hfp i b hc).1 hb,hFs b hb⟩⟩ hL (fun ch a w1 d v hd h=>?_) ⟨?_,?_⟩ hS0 hA0 (hev d R K Kp res hcall)
 ·refine hlv (hres _ _ fun q hq=>?_) _ _ _ h;have h1:=List.all_eq_true.1 hrs q hq;obtain ⟨x,h2,h3⟩:=List.any_eq_true.1 h1;have h4:q.1≠d:=fun hc=>hd (by rw[←hc,Nat.eq_of_beq_eq_true h3]; exact h2)
  simp only[Act.put,Array.getD_eq_getD_getElem?];rw[Array.getElem?_setIfInBounds_ne (Ne.symm h4)]
 ·intro x F1 w1 st1 V1 fp1 a1 hx hS hA h;cases x with
  |exit i=>cases h
  |pan p=>cases hx
  |_ =>
   show Leaves P fn a1.tmps _ a1.defers .returning w1;simp only[retD]at h;split at h
   ·rename_i hst;obtain ⟨v,h1,h2⟩:=key hS hA h;rw[hno hS hA hst];exact ⟨v,h1,h2⟩
   ·rename_i g' q hst;split at h
    ·rename_i hg;have hg:=Nat.eq_of_beq_eq_true hg;subst hg;obtain ⟨v,h1,h2⟩:=key hS hA h;obtain ⟨p,h3,_⟩:=hone hS hA hst;rw[h3];refine leaves_cons nofun (hinv p w1) ((hG.ret w1 p).mono fun e' u' w' h4=>?_);obtain ⟨⟨v',rfl⟩,rfl,rfl⟩:=h4;exact ⟨v,h1,h2⟩
    ·cases h
   ·cases h
 ·intro p ch F1 w1 st1 V1 fp1 a1 hS hA hp h;simp only[retD]at h;split at h
  ·rename_i hst;show Leaves P fn a1.tmps _ a1.defers (.panicking ch) w1;rw[hno hS hA hst];simp only[retK]at h;split at h
   ·rename_i y hy;obtain ⟨st1,fp1,F1,h,hS,hFF⟩:=zRga hS h
    replace hp:=hp.mono hFF
    simp only[RM.run]at h;obtain ⟨rb,k1,kb⟩:=zowa hS (vs:=vs) h (hgv hA);refine ⟨rb,F1,none',fun i=>fp1 (gh0+0+i),.inr ⟨ch,y,rfl,k1,by rw[zuXa hy]; exact hp⟩,fun b hb=>hS.g5 b hb,hS.g1,fun b hb hno=>hS.g2 b hb (fun hc=>by obtain ⟨i,hc⟩:=hc; exact hno i hc),
     ⟨⟨fun i j hij b hb hb'=>hS.disj.disj _ _ (by omega) b hb hb'⟩,fun i b hb hc=>hc,kb⟩,fun b hb=>?_,fun b hb=>⟨hS.inF b hb,hS.g6 b hb⟩⟩
    rcases hb with hb|⟨i,hb⟩
    ·exact hb.elim
    ·exact ⟨hS.notF _ b hb,hS.inH _ b hb,hS.g3 _ b hb⟩
   ·cases h
  ·rename_i g' r hst;split at h
   ·rename_i y hck hc;simp only[Bool.and_eq_true]at hck;obtain ⟨hg,hs,hT⟩:=hck;have hg:=Nat.eq_of_beq_eq_true hg;have hs:=Nat.eq_of_beq_eq_true hs;have hTe:=Nat.eq_of_beq_eq_true hT;clear hT;subst hg;subst hs;obtain ⟨pt,h3,hcap⟩:=hone hS hA hst;obtain ⟨v,hch,u,hv1,hv2,hv3,hv4⟩:=hp;obtain ⟨pT,pt',px⟩:=p;obtain ⟨eu,hy⟩:=zdca hc;simp only at eu hTe hv1 hv2 hv3 hv4 hy;subst eu;subst hTe;simp only at hy;subst hy;obtain ⟨b,o,st2,fp2,e1,e2,e3,hS2⟩:=zmWa hS hcap hv3 (rep_s hv4) h;simp only[RM.run]at e3;have hu:u = .int kd px:=by
     have h1:u=valOf (.int kd) (cv u):=hv3;simp only[rep]at hv4;rw[h1];simp only[valOf,Ty.agg,Bool.false_eq_true,if_false];exact hv4.1
    obtain ⟨v9,h1,h2⟩:=key hS2 hA e3;show Leaves P fn a1.tmps _ a1.defers (.panicking ch) w1;rw[h3,hch,hv1,hu,e1];refine leaves_cons nofun (hinv _ w1) ((hG.pan w1 b o kd px e2).mono fun e' u' w' h4=>?_);obtain ⟨⟨v',rfl⟩,rfl,rfl⟩:=h4;rw[hu]at h1 h2;exact ⟨v9,h1,h2⟩
   ·cases h
  ·cases h
theorem ziZa {g:FuncId} {T:TypeId} {kd:IntKind} {s:Nat} (hG:DefOk P g T) {f:FuncId} {fn:Func} {code:Code} {c:CSpec} {rs:List (Nat×Option TypeId)} {lp:Loops} (hm:P.follows .mixedOrders=true∧EnvTy P env) (hF:EnvFn P env) (hI:InlOk P env.top inl) (hf:P.funcs[f]?=some fn) (hL:zsaa env lp inl code) (hname:(fn.name == "runtime.NumGoroutine")=false) (hb:fn.body=some code) (hr:fn.results=(rs.map toRV).toArray)
  (hn:env.n=fn.ntmps) (hlen:(Nat.ble c.ins.length fn.ntmps&&(Nat.blt fn.ntmps gh0&&(Nat.beq env.b 0&&env.df)))=true) (hrd:rvOk rs=true) (hrs:(rs.all fun q=>env.rs.any (Nat.beq q.1))=true)
  (hev:∀(d:DI c.ins) (R:Type) (K:DR c.outs→DB c.ins→Option R) (Kp:PI c.pan→DB c.ins→Option R),evC env lp inl code ((St.start c.ins d).put (env.b+env.n) (.tup [])) (retD env c.ins c.outs rs c.pan g T kd s K Kp)=c.fn d K Kp):Holds P f c :=
 zhZa hG hm.1 hm.2 hF hI hf hname hb hr hn hlen hL hrd hrs fun d R K Kp res h=>by rw[hev]; exact h
end
end Go.Trm
namespace Go.Trm
inductive Se:Type 1 where
 |d (n:Nat) (p:SPat)
 |u (n:Nat) (p:SPat) (a:p.A) (h:∀b,p.sv b=p.sv a)
def uAl (n r:Nat) (p:List PE):Se := .u n (sAl r p) () fun _=>rfl
def uBx (n r:Nat) (p:List PE):Se := .u n (sBx r p) () fun _=>rfl
def uFn (n f:Nat) (c d:List (Nat×List PE)):Se := .u n (sFn f c d) () fun _=>rfl
abbrev TupS (l:List Se):Type:=List.rec (motive:=fun _=>Type) Unit (fun e _ ih=>Se.rec (motive:=fun _=>Type) (fun _ p=>p.A×ih) (fun _ _ _ _=>ih) e) l
abbrev CurS (l:List Se) (X:Type):Type:=List.rec (motive:=fun _=>Type) X (fun e _ ih=>Se.rec (motive:=fun _=>Type) (fun _ p=>p.A→ih) (fun _ _ _ _=>ih) e) l
noncomputable def stL (l:List Se):TupS l→List (Nat×SV):=(fun (_:Option Unit)=>List.rec (motive:=fun l=>TupS l→List (Nat×SV)) (fun _=>[]) (fun e r ih=>Se.rec (motive:=fun e=>TupS (e::r)→List (Nat×SV)) (fun n p t=>(n,p.sv t.1)::ih t.2) (fun n p a _ t=>(n,p.sv a)::ih t) e) l) dn200
noncomputable def stS (l:List Se) (t:TupS l):St:=St.ofList (stL l t)
noncomputable def hdS (l:List Se):List (Nat×Bool):=(fun (_:Option Unit)=>List.rec (motive:=fun _=>List (Nat×Bool)) [] (fun e _ ih=>Se.rec (motive:=fun _=>List (Nat×Bool)) (fun n _=>(n,false)::ih) (fun n _ _ _=>(n,false)::ih) e) l) dn200
noncomputable def ptC {X:Type} (l:List Se):CurS l X→Pt X:=(fun (_:Option Unit)=>List.rec (motive:=fun l=>CurS l X→Pt X) (fun x => .e x) (fun e r ih=>Se.rec (motive:=fun e=>CurS (e::r) X→Pt X) (fun n p c => .s n p fun a=>ih (c a)) (fun n p _ _ c => .s n p fun _=>ih c) e) l) dn200
noncomputable def appS {X:Type} (l:List Se):CurS l X→TupS l→X:=(fun (_:Option Unit)=>List.rec (motive:=fun l=>CurS l X→TupS l→X) (fun x _=>x) (fun e r ih=>Se.rec (motive:=fun e=>CurS (e::r) X→TupS (e::r)→X) (fun _ _ c t=>ih (c t.1) t.2) (fun _ _ _ _ c t=>ih c t) e) l) dn200
noncomputable def cvL {R:Type} (l:List Se):(List (Nat×SV)→Option R)→CurS l (Option R):=(fun (_:Option Unit)=>List.rec (motive:=fun l=>(List (Nat×SV)→Option R)→CurS l (Option R)) (fun k=>k []) (fun e r ih=>Se.rec (motive:=fun e=>(List (Nat×SV)→Option R)→CurS (e::r) (Option R)) (fun n p k a=>ih fun m=>k ((n,p.sv a)::m)) (fun n p a _ k=>ih fun m=>k ((n,p.sv a)::m)) e) l) dn200
theorem zMYa {X:Type} {S:X→St} {hd:List (Nat×Bool)}:∀(l:List Se) (c:CurS l X) (f:List (Nat×SV)→List (Nat×SV)) (pf:List Nat),(∀m,(f m).map Prod.fst=pf++m.map Prod.fst)→hd.map Prod.fst=pf++(hdS l).map Prod.fst→(∀t,S (appS l c t)=St.ofList (f (stL l t)))→(ptC l c).ok S hd f
 |[],c,f,pf,h1,h2,h3=>⟨h3 (),by rw[h1,h2]; rfl⟩
 | .u n p a h::r,c,f,pf,h1,h2,h3=>fun b=>zMYa r c (fun l=>f ((n,p.sv b)::l)) (pf++[n]) (fun m=>by rw[h1]; simp) (by rw[h2,List.append_assoc]; rfl) (fun t=>by rw[h b]; exact h3 t)
 | .d n p::r,c,f,pf,h1,h2,h3=>fun a=>zMYa r (c a) (fun l=>f ((n,p.sv a)::l)) (pf++[n]) (fun m=>by rw[h1]; simp) (by rw[h2,List.append_assoc]; rfl) (fun t=>h3 (a,t))
def exEq:Ex→Ex→Bool
 | .normal,.normal=>true
 | .exit n,.exit m=>Nat.beq n m
 | .ret,.ret=>true
 |_,_=>false
noncomputable def outS (l:List (Ex×List Se)) (e:Ex):List (Nat×Bool):=(fun (_:Option Unit)=>List.rec (motive:=fun _=>List (Nat×Bool)) [] (fun q _ ih=>cond (exEq q.1 e) (hdS q.2) ih) l) dn200
noncomputable abbrev nthE (l:List (Ex×List Se)) (i:Nat):Ex×List Se:=(fun (_:Option Unit)=>List.rec (motive:=fun _=>Nat→Ex×List Se) (fun _=>(.normal,[])) (fun q _ ih i=>Nat.rec (motive:=fun _=>Ex×List Se) q (fun j _=>ih j) i) l i) dn200
structure LB:Type 1 where
 s:List Se
 e:List (Ex×List Se)
noncomputable def exS {R:Type} (B:LB) (i:Nat) (K:Ex→St→Option R):CurS (nthE B.e i).2 (Option R):=(fun (_:Option Unit)=>cvL (nthE B.e i).2 fun m=>K (nthE B.e i).1 (St.ofList m)) dn200
abbrev LF (X:Type):=(R:Type)→(Ex→St→Option R)→(X→Option R)→X→Option R
abbrev JF (X:Type):=(R:Type)→(Ex→St→Option R)→X→Option R
noncomputable def lpS {X R:Type} (l:LB) (c:CurS l.s X) (B:LF X) (K:Ex→St→Option R) (st:St):Option R:=lpE (hdS l.s) (ptC l.s c) (lpL B K) st
noncomputable def jpS {X R:Type} (l:LB) (c:CurS l.s X) (J:JF X) (K:Ex→St→Option R) (st:St):Option R:=lpE (hdS l.s) (ptC l.s c) (J R K) st
section
variable {env:Env} {lp:Loops} {inl:Inl} {code:Code} {X:Type}
theorem lok (l:LB) (c:CurS l.s X) (un:X→TupS l.s) (B:LF X) (i:Nat) (step:LStep env lp inl code (hdS l.s) (outS l.e) (fun x=>stS l.s (un x)) B:=by intro _ _ _ _; kernel_rfl) (hu:∀t,un (appS l.s c t)=t:=by intros; rfl) (hi:zcua code=some i:=by kernel_rfl) (hlp:∀(R:Type) (st:St) (K:Ex→St→Option R),lp false i R st K=lpS l c B K st:=by intros; rfl):zCTa env lp inl code :=
 zPoa step (zMYa l.s c id [] (fun _=>rfl) rfl fun t=>by show stS l.s (un _)=_; rw[hu]; rfl) hi hlp
theorem jok (l:LB) (c:CurS l.s X) (un:X→TupS l.s) (J:JF X) (i:Nat) (step:JStep env lp inl code (outS l.e) (fun x=>stS l.s (un x)) J:=by intro _ _ _; kernel_rfl) (hu:∀t,un (appS l.s c t)=t:=by intros; rfl) (hlp:∀(R:Type) (st:St) (K:Ex→St→Option R),lp true i R st K=jpS l c J K st:=by intros; rfl):zDTa env lp inl code i :=
 zvda step (zMYa l.s c id [] (fun _=>rfl) rfl fun t=>by show stS l.s (un _)=_; rw[hu]; rfl) hlp
end
theorem lsL {env:Env} {lp:Loops} {inl:Inl} {code:Code} {cs:List Code} {js:List (Code×Nat)} (h1:AllP (zCTa env lp inl) cs) (h2:AllJ env lp inl js) (e1:zBJa code=cs:=by kernel_rfl) (e2:zCJa env code=js:=by kernel_rfl):zsaa env lp inl code:=zPVa h1 h2 e1 e2
abbrev Tl:=List Int
abbrev Tb:=List UInt8
abbrev Ti:=Int×Int×Int×Int×List Int×Unit
abbrev Tj:=List Ti
abbrev Tc:=List Int×Int×Int×Unit
abbrev Tm:=Int×Bool×Int×Unit
abbrev Te:=Int×Tj×List Int×Unit
abbrev Tf:=Int×List Int×Tj×Unit
abbrev Tg:=Int×Bool×Tj×Unit
abbrev Tx:=Tb×Int×Int×Unit
abbrev Tq:=List Int×List Int×Unit
abbrev Ts:=Int×List Int×Unit
abbrev Tv:=Tb×List Int×Unit
abbrev Tp:=Tb×Tb×Int×Int×Tm×Bool×Unit
structure GE (P:Program) where
 f:FuncId
 g:List FuncId
 c:CSpec
 h:Holds P f c
noncomputable def gl {P:Program} (l:List (GE P)):FuncId→List FuncId→Option CSpec:=(fun (_:Option Unit)=>gamL (l.map fun e=>(e.f,e.g,e.c))) dn200
theorem gO {P:Program} {l:List (GE P)}:∀f gs c,gl l f gs=some c→Holds P f c:=by
 refine zPOa ?_
 induction l with
 |nil=>trivial
 |cons e l ih=>exact ⟨e.h,ih⟩
theorem hw {P:Program} (env:Env) {inl:Inl} {f:FuncId} {fn:Func} {code:Code} {c:CSpec} (rs:List (Nat×Option TypeId)) {lp:Loops} (hI:InlOk P env.top inl) (hf:P.funcs[f]?=some fn) (hL:zsaa env lp inl code) (hm:P.follows .mixedOrders=true∧EnvTy P env) (hF:EnvFn P env:=by first|exact fun f gs c h=>gO f gs c h|exact fun _ _ _ h=>by cases h)
  (h:(fn.name == "runtime.NumGoroutine",fn.body,fn.results,env.n,(Nat.ble c.ins.length fn.ntmps&&(Nat.blt fn.ntmps gh0&&(Nat.beq env.b 0&&!env.df))),rvOk rs)=(false,some code,(rs.map toRV).toArray,fn.ntmps,true,true):=by kernel_rfl)
  (hev:∀(d:DI c.ins) (R:Type) (K:DR c.outs→DB c.ins→Option R) (Kp:PI c.pan→DB c.ins→Option R),evC env lp inl code (St.start c.ins d) (retK env c.ins c.outs rs c.pan K Kp)=c.fn d K Kp:=by intro _ _ _ _; kernel_rfl):Holds P f c:=hv hF hI hf hL hm h hev
theorem l0 {env:Env} {lp:Loops} {inl:Inl} {code:Code} (h1:zBJa code=[]:=by kernel_rfl) (h2:zCJa env code=[]:=by kernel_rfl):zsaa env lp inl code:=zPVa .nil .nil h1 h2
end Go.Trm
namespace Go.Trm
theorem zaaa {X R:Type} (B:(X→Option R)→X→Option R) (n:Nat) (x:X):loopN B (n+1) x=B (loopN B n) x:=rfl
theorem zZva (k:Nat) (h:k≤18446744073709551616):∃m,zpaa=m+k:=⟨zpaa-k,by have:=zXVa; omega⟩
theorem zdaa {k:Nat} (h:k<18446744073709551616):k<zpaa:=by rw[zXVa]; exact h
section
variable {α:Type}
theorem zDaa {p:Prop} [Decidable p] {a b:α}:cond (decide p) a b=if p then a else b:=by by_cases h:p<;>simp[h]
theorem znwa {b:Bool} {x y:α}:cond (!b) x y=cond b y x:=by cases b<;>rfl
theorem znCa {β:Type} [BEq β] [LawfulBEq β] [DecidableEq β] {u v:β} {a b:α}:cond (u==v) a b=if u=v then a else b:=by
 by_cases h:u=v
 ·subst h; simp
 ·have:(u==v)=false:=by simpa using h
  rw[this,if_neg h]; rfl
theorem zoIa {β:Type} [BEq β] [LawfulBEq β] [DecidableEq β] {u v:β} {a b:α}:cond (u != v) a b=if u=v then b else a:=by
 by_cases h:u=v
 ·subst h; simp
 ·have:(u != v)=true:=by simpa using h
  rw[this,if_neg h]; rfl
theorem zkda {i:Int} {n:Nat} {a b:α}:cond (inB i n) a b=if 0≤i∧i<n then a else b:=by
 unfold inB; by_cases h0:0≤i<;>by_cases h1:i<n<;>simp[h0,h1]
theorem znza {l h:Int} {n:Nat} {a b:α}:cond (inR l h n) a b=if 0≤l∧l≤h∧h≤n then a else b:=by
 unfold inR; by_cases h0:0≤l<;>by_cases h1:l≤h<;>by_cases h2:h≤n<;>simp[h0,h1,h2]
end
theorem w_i64 {n:Int} (h : -9223372036854775808≤n∧n≤9223372036854775807):IntKind.i64.wrap n=n:=IntWalk.i64_in n h
theorem w_u8 {n:Int} (h:0≤n∧n≤255):IntKind.u8.wrap n=n:=by
 have:IntKind.u8.wrap n=n%256:=rfl;omega
theorem w_u64 {n:Int} (h:0≤n∧n≤18446744073709551615):IntKind.u64.wrap n=n:=by
 have:IntKind.u64.wrap n=n%18446744073709551616:=rfl;omega
theorem zL0a (l:List UInt8):(nums l).length=l.length:=by simp[nums]
end Go.Trm
