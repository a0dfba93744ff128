import Derived.Test.YtjjoacepbndhhaaGreatTrmMelt
import Derived.Laws.Strings
import Derived.Laws.BytesString
set_option linter.unusedVariables false
set_option linter.unusedSimpArgs false
namespace Go.Trm
def Nxt {R:Type} (env:Env) (gh:Nat→Value) (e:Entry) (K:Unit→St→Option R) (res:R) (next:Act→World→Prop):Prop :=
 ∀F w st V fp a,SR e F w st V fp (fun _=>False)→AR env gh a V→K () st=some res→next a w
section
variable {P:Program} {env:Env} {e:Entry} {F:Blks} {w:World} {st:St} {V:Nat→Value} {fp:Nat→Blks} {fl:Blks} {a:Act} {o:Oper} {R:Type} {K:Unit→St→Option R} {res:R} {C:Cx R} {gh:Nat→Value} {next:Act→World→Prop} {Q:Exit→Act→World→Prop}
theorem zJCa {v:Value} {w':World} (h:(execOp a.eval o).run P w = .ok (.value v) w') (hn:next (a.put o.dst v) w'):o.wp P a w next Q:=by
 unfold Oper.wp;rw[h];exact hn
theorem zsRa {w':World} (h:(execOp a.eval o).run P w = .ok .skip w') (hn:next (a.put o.dst undef) w'):o.wp P a w next Q:=by
 unfold Oper.wp;rw[h];exact hn
def wpp (P:Program) (o:Oper) (a:Act) (w:World) (next:Act→World→Prop):Prop:=∃v,(∀w',(execOp a.eval o).run P w' = .ok (.value v) w')∧next (a.put o.dst v) w
theorem zBxa (h:wpp P o a w next):o.wp P a w next Q:=by
 obtain ⟨v,h1,h2⟩:=h;exact zJCa (h1 w) h2
theorem endVp {t:Ty} {m:Md} {y:t.I} {v:Value} {fq:Blks} (hS:SR e F w st V fp fl) (hA:AR env gh a V) (hN:Nxt env gh e K res next) (h:(fin env o (.v t m y)).run C st K=some res) (hv:m ≠ .j→isV t v) (hrep:rep F w t m y (cv v) fq) (hq:∀b,fq b→fl b)
  (hrun:∀w',(execOp a.eval o).run P w' = .ok (.value v) w'):wpp P o a w next:=by
 obtain ⟨st',V',fp',F',h1,h2,h3⟩:=zmHa hS hA h hv hrep hq;exact ⟨v,hrun,hN _ _ _ _ _ _ h2 h3 h1⟩
theorem endOp {sv:SV} {v:Value} {fq:Blks} (hS:SR e F w st V fp fl) (hA:AR env gh a V) (hN:Nxt env gh e K res next) (hn:notV sv=true) (h:(fin env o sv).run C st K=some res) (hsv:svR F w st V fq v sv) (hq:∀b,fq b→fl b)
  (hrun:∀w',(execOp a.eval o).run P w' = .ok (.value v) w'):wpp P o a w next:=by
 obtain ⟨st',V',fp',h1,h2,h3⟩:=zbwa hS hA hn h hsv hq;exact ⟨v,hrun,hN _ _ _ _ _ _ h2 h3 h1⟩
def wpw (P:Program) (o:Oper) (a:Act) (w:World) (next:Act→World→Prop):Prop:=∃v,(execOp a.eval o).run P w = .ok (.value v) w∧next (a.put o.dst v) w
theorem zW2a (h:wpw P o a w next):o.wp P a w next Q:=by
 obtain ⟨v,h1,h2⟩:=h;exact zJCa h1 h2
theorem endVw {t:Ty} {m:Md} {y:t.I} {v:Value} {fq:Blks} (hS:SR e F w st V fp fl) (hA:AR env gh a V) (hN:Nxt env gh e K res next) (h:(fin env o (.v t m y)).run C st K=some res) (hv:m ≠ .j→isV t v) (hrep:rep F w t m y (cv v) fq) (hq:∀b,fq b→fl b)
  (hrun:(execOp a.eval o).run P w = .ok (.value v) w):wpw P o a w next:=by
 obtain ⟨st',V',fp',F',h1,h2,h3⟩:=zmHa hS hA h hv hrep hq;exact ⟨v,hrun,hN _ _ _ _ _ _ h2 h3 h1⟩
theorem endOw {sv:SV} {v:Value} {fq:Blks} (hS:SR e F w st V fp fl) (hA:AR env gh a V) (hN:Nxt env gh e K res next) (hn:notV sv=true) (h:(fin env o sv).run C st K=some res) (hsv:svR F w st V fq v sv) (hq:∀b,fq b→fl b)
  (hrun:(execOp a.eval o).run P w = .ok (.value v) w):wpw P o a w next:=by
 obtain ⟨st',V',fp',h1,h2,h3⟩:=zbwa hS hA hn h hsv hq;exact ⟨v,hrun,hN _ _ _ _ _ _ h2 h3 h1⟩
theorem endV {t:Ty} {m:Md} {y:t.I} {v:Value} {fq:Blks} {w':World} (hS:SR e F w' st V fp fl) (hA:AR env gh a V) (hN:Nxt env gh e K res next) (h:(fin env o (.v t m y)).run C st K=some res) (hv:m ≠ .j→isV t v) (hrep:rep F w' t m y (cv v) fq) (hq:∀b,fq b→fl b)
  (hrun:(execOp a.eval o).run P w = .ok (.value v) w'):o.wp P a w next Q:=by
 obtain ⟨st',V',fp',F',h1,h2,h3⟩:=zmHa hS hA h hv hrep hq;exact zJCa hrun (hN _ _ _ _ _ _ h2 h3 h1)
theorem endO {sv:SV} {v:Value} {fq:Blks} {w':World} (hS:SR e F w' st V fp fl) (hA:AR env gh a V) (hN:Nxt env gh e K res next) (hn:notV sv=true) (h:(fin env o sv).run C st K=some res) (hsv:svR F w' st V fq v sv) (hq:∀b,fq b→fl b)
  (hrun:(execOp a.eval o).run P w = .ok (.value v) w'):o.wp P a w next Q:=by
 obtain ⟨st',V',fp',h1,h2,h3⟩:=zbwa hS hA hn h hsv hq;exact zJCa hrun (hN _ _ _ _ _ _ h2 h3 h1)
theorem SR.drop (h:SR e F w st V fp fl) (d:Nat):SR e F w (st.put d .un) V (fun i b=>i≠d∧fp i b) (fun b=>fl b∨fp d b):=by
 have hst:∀r',∀ {t1 m1 x1},(st.put d .un) r' = .v t1 m1 x1→st r' = .v t1 m1 x1:=by
  intro r' t1 m1 x1 h1;by_cases hr':r'=d
  ·subst hr'; rw[zWca]at h1; cases h1
  ·rw[zsba hr']at h1;exact h1
 have hal:∀r' q v',AlOk w st V r' q v'→AlOk w (st.put d .un) V r' q v':=fun r' q v' ha t1 m1 x1 h1=>ha t1 m1 x1 (hst r' h1)
 refine ⟨fun i=>?_,⟨fun i j hij b h1 h2=>h.disj.disj _ _ hij _ h1.2 h2.2⟩,fun i b hb=>h.notF _ _ hb.2,fun i b hb=>h.inH _ _ hb.2,h.inF,?_,?_,?_,h.g1,h.g2,fun i b hb=>h.g3 _ _ hb.2,?_,h.g5,h.g6⟩
 ·by_cases hid:i=d
  ·subst hid; rw[zWca]; trivial
  ·rw[zsba hid];have h1:=h.sv i;have hfi:∀b,fp i b→i≠d∧fp i b:=fun b hb=>⟨hid,hb⟩
   cases hsi:st i with
   |v t1 m1 x1=>rw[hsi]at h1; exact ⟨h1.1,zEoa hfi h1.2⟩
   |al r' q=>rw[hsi]at h1; exact hal _ _ _ h1
   |lz r' q=>rw[hsi]at h1; exact fun t1 m1 x1 h2=>h1 t1 m1 x1 (hst r' h2)
   |sub r' q lo hi=>rw[hsi]at h1; exact fun t1 m1 x1 h2=>h1 t1 m1 x1 (hst r' h2)
   |fn f s caps =>
    rw[hsi]at h1;obtain ⟨us,vs,e1,e2,e3⟩:=h1;exact ⟨us,vs,e1,e2.imp (fun _ _ hb=>hb) fun q u _=>hal _ _ _,e3.imp (fun _ _ hb=>hb) fun q u _=>hal _ _ _⟩
   |bx r' q =>
    rw[hsi]at h1;exact h1
   |ifc T t1 x1=>rw[hsi]at h1; exact h1
   |tup l =>
    rw[hsi]at h1;obtain ⟨vs,e1,e2,fs,e3,e4,e5⟩:=h1;exact ⟨vs,e1,e2,fs,e3,fun k b hb=>hfi b (e4 k b hb),e5⟩
   |nil=>rw[hsi]at h1; exact h1
   |un=>trivial
 ·rintro i b ⟨hi,hb⟩ (hc|hc)
  ·exact h.flD _ _ hb hc
  ·exact h.disj.disj _ _ hi _ hb hc
 ·rintro b (hc|hc)
  ·exact h.flF _ hc
  ·exact h.notF _ _ hc
 ·rintro b (hc|hc)
  ·exact h.flH _ hc
  ·exact h.inH _ _ hc
 ·rintro b (hc|hc)
  ·exact h.g4 _ hc
  ·exact h.g3 _ _ hc
abbrev none':Blks:=fun _=>False
theorem zOZa {x:Operand} (ho:o.op = .move x) (hS:SR e F w st V fp none') (hA:AR env gh a V) (hN:Nxt env gh e K res next) (h:(evOp env o).run C st K=some res):wpp P o a w next:=by
 have hrun:∀w,(execOp a.eval o).run P w = .ok (.value (a.eval x)) w:=by simp[execOp,ho]
 simp only[evOp,ho]at h;obtain ⟨sv,h1,hx⟩:=zmfa h;rcases hx with ⟨s,rfl,hs,rfl⟩|⟨c,rfl,rfl⟩|⟨f,rfl,rfl⟩
 ·have hev:a.eval (.tmp s)=V (env.b+s):=hA.tmps s hs;have hsv:=hS.sv (env.b+s);have hown:∀ {t:Ty} {m:Md} {y:t.I},m ≠ .j→(match fzd env o with|true=>zDra (some (env.b+s,[])) (fin env o (.v t .s y))|false=>fin env o (.lz (env.b+s) [])).run C st K=some res→st (env.b+s) = .v t m y→wpp P o a w next:=by
   intro t m y hm h1 hst;have hsv:=hS.sv (env.b+s);rw[hst]at hsv;cases hf:fzd env o with
   |false =>
    rw[hf]at h1;exact endOp hS hA hN rfl h1 (by
     intro t0 m0 x0 h0;rw[hst]at h0;cases h0;exact ⟨by simp[ownP],by simp[inP],_,_,_,by simp[rs]; exact ⟨rfl,rfl,rfl⟩,by rw[hev]; exact hsv.1 hm⟩) (fun _ hb=>hb) hrun
   |true =>
    rw[hf]at h1;have hd:DataX F w st V (V (env.b+s)) t m y (some (env.b+s,[])):=⟨hm,t,m,y,hst,by simp[getP],by simp[ownP],by simp[inP],_,none,by simp[rs],hsv.1 hm⟩
    obtain ⟨st1,fp1,F1,h4,hS1,hF1,hv1,hrep1⟩:=zbua hS hd.at nofun h1;exact endVp (fq:=none') hS1 hA hN h4 (fun _=>by rw[hev]; exact hv1) (by rw[hev]; exact rep_s hrep1) (fun _ hb=>hb) hrun
  cases hst:st (env.b+s) with
  |v t m y =>
   rw[hst]at h1 hsv;cases m with
   |s=>exact endVp hS hA hN h1 (fun _=>by rw[hev]; exact hsv.1 nofun) (by rw[hev]; exact rep_s (fp':=none') hsv.2) (fun _ hb=>hb) hrun
   |j=>simp[RM.run]at h1
   |o m=>exact hown (m := .o m) nofun h1 hst
   |p m m'=>exact hown (m := .p m m') nofun h1 hst
  |al r p=>rw[hst]at h1 hsv; exact endOp hS hA hN rfl h1 (fq:=none') (by rw[hev]; exact hsv) (fun _ hb=>hb) hrun
  |lz r p=>rw[hst]at h1 hsv; exact endOp hS hA hN rfl h1 (fq:=none') (by rw[hev]; exact hsv) (fun _ hb=>hb) hrun
  |sub r p lo hi=>rw[hst]at h1 hsv; exact endOp hS hA hN rfl h1 (fq:=none') (by rw[hev]; exact hsv) (fun _ hb=>hb) hrun
  |bx r p=>rw[hst]at h1; simp[RM.run]at h1
  |ifc T t x=>rw[hst]at h1 hsv; exact endOp hS hA hN rfl h1 (fq:=none') (by rw[hev]; exact hsv) (fun _ hb=>hb) hrun
  |fn f s c=>rw[hst]at h1 hsv; exact endOp hS hA hN rfl h1 (fq:=none') (by rw[hev]; exact hsv) (fun _ hb=>hb) hrun
  |tup l =>
   rw[hst]at h1 hsv;simp only[self,RM.run]at h1;exact endOp (hS.drop (env.b+s)) hA hN rfl h1 (by rw[hev]; exact hsv) (fun _ hb => .inr hb) hrun
  |nil=>rw[hst]at h1 hsv; exact endOp hS hA hN rfl h1 (fq:=none') (by rw[hev]; exact hsv) (fun _ hb=>hb) hrun
  |un=>rw[hst]at h1; simp[RM.run]at h1
 ·cases hc:cst env o.type c with
  |v t m y =>
   obtain ⟨b1,b2,b3⟩:=zGMa (F:=F) (w:=w) hc;have h2:(fin env o (.v t m y)).run C st K=some res:=by
    rw[hc]at h1;cases m with
    |j=>exact absurd rfl b2
    |_=>exact h1
   exact endVp hS hA hN h2 (fun _=>b1) b3 (fun _ hb=>hb) hrun
  |nil =>
   rw[hc]at h1;refine endOp hS hA hN rfl h1 (fq:=none') ?_ (fun _ hb=>hb) hrun;unfold cst at hc
   (repeat' split at hc)<;>first|(cases hc; done)|rfl
  |un=>rw[hc]at h1; simp[RM.run]at h1
  |_=>unfold cst at hc; (repeat' split at hc)<;>cases hc
 ·exact endOp hS hA hN rfl h1 (fq:=none') ⟨[],[],rfl,⟨rfl,fun k q hq=>by simp at hq⟩,⟨rfl,fun k q hq=>by simp at hq⟩⟩ (fun _ hb=>hb) hrun
theorem zLVa {x:Operand} (ho:o.op = .assign x) (hS:SR e F w st V fp none') (hA:AR env gh a V) (hN:Nxt env gh e K res next) (h:(evOp env o).run C st K=some res):wpp P o a w next:=by
 have hrun:∀w,(execOp a.eval o).run P w = .ok (.value (a.eval x)) w:=by simp[execOp,ho]
 simp only[evOp,ho]at h;have htake:∀ {st:St},(rdT env o.type x fun t m y=>fin env o (.v t m y)).run C st K=some res→∀ {fp},SR e F w st V fp none'→wpp P o a w next:=by
  intro st h fp hS;unfold rdT at h;obtain ⟨t,m,y,src,h1,hd,_⟩:=zhja hS hA h;obtain ⟨st',fp',fq,h2,hS',hv,hm,hrep,_,_⟩:=zAsa hS hd h1;exact endVp hS' hA hN h2 (fun _=>hv) hrep (fun b hb => .inr hb) hrun
 obtain ⟨sv,h1,hx⟩:=zmfa h;rcases hx with ⟨s,rfl,hs,rfl⟩|⟨c,rfl,rfl⟩|⟨f,rfl,rfl⟩
 ·have hev:a.eval (.tmp s)=V (env.b+s):=hA.tmps s hs;have hsv:=hS.sv (env.b+s);cases hst:st (env.b+s) with
  |v t m y =>
   rw[hst]at h1 hsv;cases m with
   |s=>exact endVp hS hA hN h1 (fun _=>by rw[hev]; exact hsv.1 nofun) (by rw[hev]; exact rep_s (fp':=none') hsv.2) (fun _ hb=>hb) hrun
   |j=>exact htake h1 hS
   |o m=>exact htake h1 hS
   |p m m'=>exact htake h1 hS
  |al r p=>rw[hst]at h1 hsv; exact endOp hS hA hN rfl h1 (fq:=none') (by rw[hev]; exact hsv) (fun _ hb=>hb) hrun
  |lz r p=>rw[hst]at h1; exact htake h1 hS
  |sub r p lo hi=>rw[hst]at h1; exact htake h1 hS
  |bx r p=>rw[hst]at h1; simp[RM.run]at h1
  |ifc T t x=>rw[hst]at h1 hsv; exact endOp hS hA hN rfl h1 (fq:=none') (by rw[hev]; exact hsv) (fun _ hb=>hb) hrun
  |fn f s c=>rw[hst]at h1 hsv; exact endOp hS hA hN rfl h1 (fq:=none') (by rw[hev]; exact hsv) (fun _ hb=>hb) hrun
  |tup l=>rw[hst]at h1; simp[RM.run]at h1
  |nil=>rw[hst]at h1 hsv; exact endOp hS hA hN rfl h1 (fq:=none') (by rw[hev]; exact hsv) (fun _ hb=>hb) hrun
  |un=>rw[hst]at h1; simp[RM.run]at h1
 ·cases hc:cst env o.type c with
  |v t m y =>
   obtain ⟨b1,b2,b3⟩:=zGMa (F:=F) (w:=w) hc;rw[hc]at h1;cases m with
   |s=>exact endVp hS hA hN h1 (fun _=>b1) b3 (fun _ hb=>hb) hrun
   |j=>exact absurd rfl b2
   |o m=>exact htake h1 hS
   |p m m'=>exact htake h1 hS
  |nil =>
   rw[hc]at h1;refine endOp hS hA hN rfl h1 (fq:=none') ?_ (fun _ hb=>hb) hrun;unfold cst at hc
   (repeat' split at hc)<;>first|(cases hc; done)|rfl
  |un=>rw[hc]at h1; simp[RM.run]at h1
  |_=>unfold cst at hc; (repeat' split at hc)<;>cases hc
 ·exact endOp hS hA hN rfl h1 (fq:=none') ⟨[],[],rfl,⟨rfl,fun k q hq=>by simp at hq⟩,⟨rfl,fun k q hq=>by simp at hq⟩⟩ (fun _ hb=>hb) hrun
theorem zkma {T:TypeId} {x:Operand} {α:Type} {k:IntKind→Int→RM α} {K:α→St→Option R} (hS:SR e F w st V fp fl) (hA:AR env gh a V) (h:(rdInt env T x k).run C st K=some res) :
  ∃kd n,(k kd n).run C st K=some res∧a.eval x = .int kd n∧kd.has n:=by
 unfold rdInt at h;obtain ⟨t,m,y,src,h1,hd,_⟩:=zhja hS hA h;obtain ⟨hv,hm,fq,hrep,_⟩:=hd.rep hS;cases t with
 |int kd =>
  refine ⟨kd,y,h1,?_⟩;have:cv (a.eval x) 0 = .int kd y∧kd.has y:=by cases m<;>simp only[rep]at hrep<;>first|exact hrep|exact absurd rfl hm
  refine ⟨?_,this.2⟩;have h2:a.eval x=valOf (.int kd) (cv (a.eval x)):=hv;rw[h2];simp only[valOf,Ty.agg,Bool.false_eq_true,if_false];exact this.1
 |_=>simp[RM.run]at h1
theorem zMRa {kd:IntKind} {m:Md} {y:Int} {val:Value} {fq:Blks} (hv:isV (.int kd) val) (hm:m ≠ .j) (h:rep F w (.int kd) m y (cv val) fq):val = .int kd y∧kd.has y:=by
 have:cv val 0 = .int kd y∧kd.has y:=by cases m<;>simp only[rep]at h<;>first|exact h|exact absurd rfl hm
 refine ⟨?_,this.2⟩;have h2:val=valOf (.int kd) (cv val):=hv;rw[h2];simp only[valOf,Ty.agg,Bool.false_eq_true,if_false];exact this.1
theorem zkGa {m:Md} {y:Bool} {val:Value} {fq:Blks} (hv:isV .bool val) (hm:m ≠ .j) (h:rep F w .bool m y (cv val) fq):val = .bool y:=by
 have:cv val 0 = .bool y:=by cases m<;>simp only[rep]at h<;>first|exact h|exact absurd rfl hm
 have h2:val=valOf .bool (cv val):=hv;rw[h2];simp only[valOf,Ty.agg,Bool.false_eq_true,if_false];exact this
theorem zxHa {m:Md} {y:List UInt8} {val:Value} {fq:Blks} (hv:isV .str val) (hm:m ≠ .j) (h:rep F w .str m y (cv val) fq):val = .string ⟨y.toArray⟩∧y.length≤2 ^ 63-1:=by
 have:cv val 0 = .string ⟨y.toArray⟩∧y.length≤2 ^ 63-1:=by cases m<;>simp only[rep]at h<;>first|exact h|exact absurd rfl hm
 have h2:val=valOf .str (cv val):=hv;refine ⟨?_,this.2⟩;rw[h2];simp only[valOf,Ty.agg,Bool.false_eq_true,if_false];exact this.1
theorem zpXa {et:TypeId} {t:Ty} {m:Md} {y:List t.I} {val:Value} {fq:Blks} (hv:isV (.sl et t) val) (hm:m ≠ .j) (h:rep F w (.sl et t) m y (cv val) fq):∃A cap,val = .slice A y.length cap∧y.length≤cap∧cap≤2 ^ 63-1:=by
 have:∃A cap,cv val 0 = .slice A y.length cap∧y.length≤cap∧cap≤2 ^ 63-1:=by cases m<;>simp only[rep]at h<;>first|exact absurd rfl hm|(obtain ⟨A,cap,h1,h2,h3,_⟩:=h; exact ⟨A,cap,h1,h2,h3⟩)
 obtain ⟨A,cap,h1,h3⟩:=this;refine ⟨A,cap,?_,h3⟩;have h2:val=valOf (.sl et t) (cv val):=hv;rw[h2];simp only[valOf,Ty.agg,Bool.false_eq_true,if_false];exact h1
theorem zora {kd:IntKind} {n:Int} (h:kd.has n):rep F w (.int kd) .s n (cv (.int kd n)) none':=by simp only[rep]; exact ⟨rfl,h⟩
theorem zQga {b:Bool}:rep F w .bool .s b (cv (.bool b)) none':=by simp only[rep]; rfl
theorem zTYa {l:List UInt8} (h:l.length≤2 ^ 63-1):rep F w .str .s l (cv (.string ⟨l.toArray⟩)) none':=by simp only[rep]; exact ⟨rfl,h⟩
theorem zNZa {c x y:Operand} (ho:o.op = .pick c x y) (hS:SR e F w st V fp none') (hA:AR env gh a V) (hN:Nxt env gh e K res next) (h:(evOp env o).run C st K=some res):wpp P o a w next:=by
 simp only[evOp,ho]at h;obtain ⟨t,m,z,src,h1,hd,_⟩:=zhja hS hA h;obtain ⟨hv,hm,fq,hrep,_⟩:=hd.rep hS;cases t with
 |bool =>
  have hc:=zkGa hv hm hrep;simp only[RM.run]at h1;have hone:∀x,(rdV env o.type x fun t m x _=>match m with
    | .s=>fin env o (.v t .s x)
    |_ => .fail).run C st K=some res→(∀w,(execOp a.eval o).run P w = .ok (.value (a.eval x)) w)→wpp P o a w next:=by
   intro x h2 hrun;obtain ⟨t,m,z,src,h3,hd,_⟩:=zhja hS hA h2;obtain ⟨hv,hm,fq,hrep,_⟩:=hd.rep hS;cases m with
   |s=>exact endVp hS hA hN h3 (fun _=>hv) (rep_s (fp':=none') hrep) (fun _ hb=>hb) hrun
   |_=>simp[RM.run]at h3
  cases z with
  |true=>exact hone x h1 (fun w=>by simp[execOp,ho,hc,asBool])
  |false=>exact hone y h1 (fun w=>by simp[execOp,ho,hc,asBool])
 |_=>simp[RM.run]at h1
end
end Go.Trm
namespace Go.Trm
theorem zHla (k:IntKind) (n:Int):k.has (k.wrap n):=by
 cases k<;>simp only[IntKind.has,IntKind.wrap,IntKind.min,IntKind.max,IntKind.bits,IntKind.signed,Bool.true_and,Bool.false_and,Bool.false_eq_true,if_true,if_false] <;>
  first
   |omega
   |(split<;>rename_i h<;>first|(have:=of_decide_eq_true h; omega)|(have:¬_:=fun hc=>h (decide_eq_true hc); omega))
theorem zm0a {k:IntKind} {x:Int} (y:Int) (h:k.has x):k.has (x.tmod y):=by
 have h0:k.min≤0∧0≤k.max:=by cases k<;>decide
 obtain ⟨h1,h2⟩:=h;rcases Int.le_total 0 x with hx|hx
 ·have h3:0≤x.tmod y:=Int.tmod_nonneg y hx;have h4:x.tmod y≤x:=by
   obtain ⟨n,rfl⟩:=Int.eq_ofNat_of_zero_le hx;have:(Int.tmod (n:Int) y).natAbs=n%y.natAbs:=by rw[Int.natAbs_tmod]; rfl
   have h5:=Nat.mod_le n y.natAbs;omega
  exact ⟨by omega,by omega⟩
 ·have h3:x.tmod y≤0:=by
   have:=Int.tmod_nonneg y (show 0≤-x by omega);rw[Int.neg_tmod]at this;omega
  have h4:x≤x.tmod y:=by
   have:(Int.tmod x y).natAbs=x.natAbs%y.natAbs:=Int.natAbs_tmod ..;have h5:=Nat.mod_le x.natAbs y.natAbs;omega
  exact ⟨by omega,by omega⟩
theorem zl1a {k:IntKind} {x:Int} (n:Nat) (h:k.has x):k.has (x.fdiv (2 ^ n)):=by
 have h0:k.min≤0∧0≤k.max∧(k.min=0∨k.min≤-1):=by cases k<;>decide
 obtain ⟨h1,h2⟩:=h;have hp:(0:Int)<2 ^ n:=Int.pow_pos (by decide);have hf:x.fdiv (2 ^ n)=x/2 ^ n:=Int.fdiv_eq_ediv_of_nonneg _ (Int.le_of_lt hp);rw[hf];rcases Int.le_total 0 x with hx|hx
 ·have h3:0≤x/2 ^ n:=Int.ediv_nonneg hx (Int.le_of_lt hp);have h4:x/2 ^ n≤x:=Int.ediv_le_self _ hx;exact ⟨by omega,by omega⟩
 ·have h3:x/2 ^ n≤0:=Int.ediv_nonpos_of_nonpos_of_neg hx hp;have h4:x≤x/2 ^ n:=by
   refine Int.le_ediv_of_mul_le hp ?_;have:=Int.mul_le_mul_of_nonpos_left hx (show (1:Int)≤2 ^ n by omega);omega
  exact ⟨by omega,by omega⟩
section
variable {P:Program} {env:Env} {e:Entry} {F:Blks} {w:World} {st:St} {V:Nat→Value} {fp:Nat→Blks} {fl:Blks} {a:Act} {o:Oper} {R:Type} {K:Unit→St→Option R} {res:R} {C:Cx R} {gh:Nat→Value} {next:Act→World→Prop} {Q:Exit→Act→World→Prop}
theorem zu0a {op:BinOp} {k:IntKind} {x y:Int} {t:Ty} {z:t.I} (h:binI op k x y=some ⟨t,z⟩) (hx:k.has x) (hy:op = .quo∨op = .rem→y≠0) (T:TypeId) :
  ∃v,(∀w,(binOp op T (.int k x) (.int k y)).run P w = .ok v w)∧isV t v∧rep F w t .s z (cv v) none':=by
 cases op<;>simp only[binI,Option.some.injEq,reduceCtorEq]at h<;>cases h
 case add=>exact ⟨.int k (k.wrap (x+y)),fun w=>by simp[binOp,Op.intArith],rfl,zora (zHla _ _)⟩
 case sub=>exact ⟨.int k (k.wrap (x-y)),fun w=>by simp[binOp,Op.intArith],rfl,zora (zHla _ _)⟩
 case mul=>exact ⟨.int k (k.wrap (x*y)),fun w=>by simp[binOp,Op.intArith],rfl,zora (zHla _ _)⟩
 case quo=>exact ⟨.int k (k.wrap (x.tdiv y)),fun w=>by simp[binOp,Op.intDiv,hy (.inl rfl)],rfl,zora (zHla _ _)⟩
 case rem=>exact ⟨.int k (x.tmod y),fun w=>by simp[binOp,Op.intDiv,hy (.inr rfl)],rfl,zora (zm0a _ hx)⟩
 case and=>exact ⟨.int k (k.wrap (BitVec.ofInt k.bits x &&& BitVec.ofInt k.bits y).toNat),fun w=>by simp only[binOp,Op.intBits,ne_eq,not_true_eq_false,if_false]; rfl,rfl,zora (zHla _ _)⟩
 case or=>exact ⟨.int k (k.wrap (BitVec.ofInt k.bits x ||| BitVec.ofInt k.bits y).toNat),fun w=>by simp only[binOp,Op.intBits,ne_eq,not_true_eq_false,if_false]; rfl,rfl,zora (zHla _ _)⟩
 case xor=>exact ⟨.int k (k.wrap (BitVec.ofInt k.bits x ^^^ BitVec.ofInt k.bits y).toNat),fun w=>by simp only[binOp,Op.intBits,ne_eq,not_true_eq_false,if_false]; rfl,rfl,zora (zHla _ _)⟩
 case andNot=>exact ⟨.int k (k.wrap (BitVec.ofInt k.bits x &&& ~~~(BitVec.ofInt k.bits y)).toNat),fun w=>by simp only[binOp,Op.intBits,ne_eq,not_true_eq_false,if_false]; rfl,rfl,zora (zHla _ _)⟩
 case eql=>exact ⟨.bool (x==y),fun w=>by simp only[binOp,Op.intCmp,ne_eq,not_true_eq_false,if_false]; rfl,rfl,zQga⟩
 case neq=>exact ⟨.bool (x != y),fun w=>by simp only[binOp,Op.intCmp,ne_eq,not_true_eq_false,if_false]; rfl,rfl,zQga⟩
 case lss=>exact ⟨.bool (decide (x<y)),fun w=>by simp only[binOp,Op.intCmp,ne_eq,not_true_eq_false,if_false]; rfl,rfl,zQga⟩
 case leq=>exact ⟨.bool (decide (x≤y)),fun w=>by simp only[binOp,Op.intCmp,ne_eq,not_true_eq_false,if_false]; rfl,rfl,zQga⟩
 case gtr=>exact ⟨.bool (decide (x>y)),fun w=>by simp only[binOp,Op.intCmp,ne_eq,not_true_eq_false,if_false]; rfl,rfl,zQga⟩
 case geq=>exact ⟨.bool (decide (x≥y)),fun w=>by simp only[binOp,Op.intCmp,ne_eq,not_true_eq_false,if_false]; rfl,rfl,zQga⟩
theorem zEVa (l:List UInt8):(⟨l.toArray⟩:ByteArray).toList=l:=by
 rw[ByteArray.toList_eq]
theorem zTWa {op:BinOp} {T:TypeId} {x y:Operand} {k k':IntKind} {p q:Int}:(eqGuard op T x y (.int k p) (.int k' q)).run P w = .ok () w:=by
 cases op<;>rfl
theorem zSWa {op:BinOp} {T:TypeId} {x y:Operand} {p q:ByteArray}:(eqGuard op T x y (.string p) (.string q)).run P w = .ok () w:=by
 cases op<;>rfl
theorem zxMa {op:BinOp} {T:TypeId} {x y:Operand} {p q:Bool}:(eqGuard op T x y (.bool p) (.bool q)).run P w = .ok () w:=by
 cases op<;>rfl
theorem zFVa {k:IntKind} {x y:Int} (h:k.has x):k.has (shlI k x y)∧k.has (shrI k x y):=⟨zHla _ _,zl1a _ h⟩
theorem zYxa {d:Nat} {T:TypeId} {p q:Bool} (h:P.underlying T=some .bool):(Op.equalIn (d+1) T (.bool p) (.bool q)).run P w = .ok (p==q) w:=by
 simp only[Op.equalIn,Sem.run_bind,run_underlying h,Result.andThen_ok,Sem.run_pure]
theorem zpEa {T:TypeId} {p q:Bool} (h:P.underlying T=some .bool):(Op.equal T (.bool p) (.bool q)).run P w = .ok (p==q) w :=
 zYxa (d:=9999) h
theorem zq3a {op:BinOp} {T U:TypeId} {x y:Operand} {k k':IntKind} {p q:Int} (ho:o.op = .binOp op T x y U) (e1:a.eval x = .int k p) (r1:k.has p) (e2:a.eval y = .int k' q) (hS:SR e F w st V fp none') (hA:AR env gh a V) (hN:Nxt env gh e K res next)
  (h2:(evI env o op k k' p q).run C st K=some res):wpp P o a w next:=by
 have hgen:∀v,(∀w,(binOp op T (.int k p) (.int k' q)).run P w = .ok v w)→∀w,(execOp a.eval o).run P w = .ok (.value v) w:=by
  intro v hb w;simp only[execOp,ho,e1,e2,Sem.run_bind,zTWa,Result.andThen_ok,hb,Sem.run_pure]
 have hother:(match kEq k k',binI op k p q with
   |true,some ⟨t,z⟩=>chkI op q (fin env o (.v t .s z))
   |_,_ => .fail:RM Unit).run C st K=some res→wpp P o a w next:=by
  intro h3;split at h3
  ·rename_i t z hk hb;obtain rfl:=zQXa hk;have hc:(fin env o (.v t .s z)).run C st K=some res∧(op = .quo∨op = .rem→q≠0):=by
    unfold chkI at h3;split at h3
    ·simp only[RM.run]at h3;cases hq:(q != 0) with
     |true=>rw[hq]at h3; exact ⟨h3,fun _=>by simpa using hq⟩
     |false=>rw[hq]at h3; cases h3
    ·simp only[RM.run]at h3;cases hq:(q != 0) with
     |true=>rw[hq]at h3; exact ⟨h3,fun _=>by simpa using hq⟩
     |false=>rw[hq]at h3; cases h3
    ·rename_i hn1 hn2;exact ⟨h3,fun hc=>by rcases hc with hc|hc; exact absurd hc hn1; exact absurd hc hn2⟩
   obtain ⟨v,hr,hvv,hrp⟩:=zu0a (P:=P) (F:=F) (w:=w) hb r1 hc.2 T;exact endVp hS hA hN hc.1 (fun _=>hvv) hrp (fun _ hb=>hb) (hgen v hr)
  ·simp[RM.run]at h3
 simp only[evI]at h2;split at h2
 ·simp only[RM.run]at h2;cases hq:decide (0≤q) with
  |false=>rw[hq]at h2; cases h2
  |true =>
   rw[hq]at h2;have hq':¬q<0:=by have:=of_decide_eq_true hq; omega
   refine endVp (v := .int k (shlI k p q)) hS hA hN h2 (fun _=>rfl) (zora (zFVa r1).1) (fun _ hb=>hb) (hgen _ ?_);intro w;simp only[binOp,Op.shift,hq',if_false];rfl
 ·simp only[RM.run]at h2;cases hq:decide (0≤q) with
  |false=>rw[hq]at h2; cases h2
  |true =>
   rw[hq]at h2;have hq':¬q<0:=by have:=of_decide_eq_true hq; omega
   refine endVp (v := .int k (shrI k p q)) hS hA hN h2 (fun _=>rfl) (zora (zFVa (y:=q) r1).2) (fun _ hb=>hb) (hgen _ ?_);intro w;simp only[binOp,Op.shift,hq',if_false];rfl
 ·exact hother h2
theorem zm3a {op:BinOp} {T U:TypeId} {x y:Operand} {p q:List UInt8} (ho:o.op = .binOp op T x y U) (e1:a.eval x = .string ⟨p.toArray⟩) (e2:a.eval y = .string ⟨q.toArray⟩) (hS:SR e F w st V fp none') (hA:AR env gh a V) (hN:Nxt env gh e K res next)
  (h2:(evS env o op p q).run C st K=some res):wpp P o a w next:=by
 have hgen:∀v,(∀w,(binOp op T (.string ⟨p.toArray⟩) (.string ⟨q.toArray⟩)).run P w = .ok v w)→∀w,(execOp a.eval o).run P w = .ok (.value v) w:=by
  intro v hb w;simp only[execOp,ho,e1,e2,Sem.run_bind,zSWa,Result.andThen_ok,hb,Sem.run_pure]
 unfold evS at h2;split at h2
 ·simp only[RM.run]at h2;cases hq:decide (List.length p+List.length q≤most) with
  |false=>rw[hq]at h2; cases h2
  |true =>
   rw[hq]at h2;have hq':=of_decide_eq_true hq;unfold most at hq';refine endVp (v := .string ⟨(p++q).toArray⟩) hS hA hN h2 (fun _=>rfl) (zTYa (by rw[List.length_append]; omega)) (fun _ hb=>hb) (hgen _ ?_);intro w;have hsz:¬((((⟨p.toArray⟩:ByteArray).size+(⟨q.toArray⟩:ByteArray).size:Nat):Int)>IntKind.i64.max):=by
    have e3:(⟨p.toArray⟩:ByteArray).size=List.length p:=by simp[ByteArray.size]
    have e4:(⟨q.toArray⟩:ByteArray).size=List.length q:=by simp[ByteArray.size]
    rw[e3,e4];have:IntKind.i64.max=9223372036854775807:=by decide
    omega
   have happ:(⟨p.toArray⟩:ByteArray)++⟨q.toArray⟩=⟨(p++q).toArray⟩:=by
    apply ByteArray.ext;rw[ByteArray.data_append];simp
   simp only[binOp,Op.stringOp];rw[if_neg hsz,happ];rfl
 ·refine endVp (v := .bool (p==q)) hS hA hN h2 (fun _=>rfl) zQga (fun _ hb=>hb) (hgen _ ?_);intro w;simp only[binOp,Op.stringOp,zEVa]; rfl
 ·refine endVp (v := .bool (!(p==q))) hS hA hN h2 (fun _=>rfl) zQga (fun _ hb=>hb) (hgen _ ?_);intro w;simp only[binOp,Op.stringOp,zEVa]; rfl
 ·simp[RM.run]at h2
theorem zp3a {op:BinOp} {T U:TypeId} {x y:Operand} {p q:Bool} (hE:EnvTy P env) (ho:o.op = .binOp op T x y U) (e1:a.eval x = .bool p) (e2:a.eval y = .bool q) (hS:SR e F w st V fp none') (hA:AR env gh a V) (hN:Nxt env gh e K res next)
  (h2:(evL env o op T p q).run C st K=some res):wpp P o a w next:=by
 unfold evL at h2;cases hT:env.is T .bool with
 |false=>rw[hT]at h2; simp[RM.run]at h2
 |true =>
 rw[hT]at h2;cases op with
 |eql =>
  refine endVp (v := .bool (p==q)) hS hA hN h2 (fun _=>rfl) zQga (fun _ hb=>hb) ?_;intro w;simp only[execOp,ho,e1,e2,Sem.run_bind,zxMa,Result.andThen_ok,binOp,zpEa (zDVa (Env.is_ok hE hT)),Sem.run_pure]
 |neq =>
  refine endVp (v := .bool (!(p==q))) hS hA hN h2 (fun _=>rfl) zQga (fun _ hb=>hb) ?_;intro w;simp only[execOp,ho,e1,e2,Sem.run_bind,zxMa,Result.andThen_ok,binOp,zpEa (zDVa (Env.is_ok hE hT)),Sem.run_pure]
 |_=>simp[RM.run]at h2
theorem zcZa {x:Operand} (h:zSXa x=true):x = .const (.slice none 0 0):=by
 unfold zSXa at h;split at h
 ·rfl
 ·cases h
theorem zdZa {x:Operand} (h:zTXa x=true):x = .const (.pointer none):=by
 unfold zTXa at h;split at h
 ·rfl
 ·cases h
theorem zeZa {x:Operand} (h:zUXa x=true):x = .const .nilIface:=by
 unfold zUXa at h;split at h
 ·rfl
 ·cases h
theorem zvNa {d:Nat} {T:TypeId} {ms} {b:Bool} {v:Value} {w:World} (h:P.underlying T=some (.interface ms)) (hv:errV b v):(Op.equalIn (d+1) T v .nilIface).run P w = .ok (!b) w:=by
 cases b with
 |false=>cases hv; simp only[Op.equalIn,Sem.run_bind,run_underlying h,Result.andThen_ok,Sem.run_pure,Bool.not_false]
 |true=>obtain ⟨T',p,rfl⟩:=hv; simp only[Op.equalIn,Sem.run_bind,run_underlying h,Result.andThen_ok,Sem.run_pure,Bool.not_true]
theorem zIRa {T:TypeId} {ms} {b:Bool} {v:Value} {w:World} (h:P.underlying T=some (.interface ms)) (hv:errV b v):(Op.equal T v .nilIface).run P w = .ok (!b) w :=
 zvNa (d:=9999) h hv
theorem zXOa {op:BinOp} {T:TypeId} {x:Operand} {b:Bool} {v:Value} {w:World} (hv:errV b v):(eqGuard op T x (.const .nilIface) v .nilIface).run P w = .ok () w:=by
 cases b with
 |false=>cases hv; cases op<;>cases x<;>rfl
 |true=>obtain ⟨T',p,rfl⟩:=hv; cases op<;>rfl
theorem zHVa {T:TypeId} {ms} {b:Bool} {v:Value} {w:World} (h:P.underlying T=some (.interface ms)) (hv:errV b v):(binOp .eql T v .nilIface).run P w = .ok (.bool (!b)) w∧(binOp .neq T v .nilIface).run P w = .ok (.bool b) w:=by
 have h1:=zIRa (w:=w) h hv;cases b with
 |false=>cases hv; constructor<;>(simp only[binOp,Sem.run_bind,h1,Result.andThen_ok,Sem.run_pure]<;>rfl)
 |true=>obtain ⟨T',p,rfl⟩:=hv; constructor<;>(simp only[binOp,Sem.run_bind,h1,Result.andThen_ok,Sem.run_pure]<;>rfl)
theorem zQIa {d:Nat} {T e:TypeId} {A:Option Addr} {n c:Nat} {w:World} (h:P.underlying T=some (.slice e)):(Op.equalIn (d+1) T (.slice A n c) (.slice none 0 0)).run P w = .ok A.isNone w:=by
 cases A<;>simp only[Op.equalIn,Sem.run_bind,run_underlying h,Result.andThen_ok,Sem.run_pure,Option.isNone_none,Option.isNone_some]
theorem zzBa {T e:TypeId} {A:Option Addr} {n c:Nat} {w:World} (h:P.underlying T=some (.slice e)):(Op.equal T (.slice A n c) (.slice none 0 0)).run P w = .ok A.isNone w :=
 zQIa (d:=9999) h
theorem zuNa {d:Nat} {T e:TypeId} {A:Option Addr} {w:World} (h:P.underlying T=some (.pointer e)):(Op.equalIn (d+1) T (.pointer A) (.pointer none)).run P w = .ok A.isNone w:=by
 cases A<;>simp only[Op.equalIn,Sem.run_bind,run_underlying h,Result.andThen_ok,Sem.run_pure,Option.isNone_none,Option.isNone_some]
theorem zwHa {T e:TypeId} {A:Option Addr} {w:World} (h:P.underlying T=some (.pointer e)):(Op.equal T (.pointer A) (.pointer none)).run P w = .ok A.isNone w :=
 zuNa (d:=9999) h
theorem zgTa {op:BinOp} {T:TypeId} {x y:Operand} {A B:Option Addr} {n c n' c':Nat} {w:World}:(eqGuard op T x y (.slice A n c) (.slice B n' c')).run P w = .ok () w:=by
 cases op<;>rfl
theorem zWOa {op:BinOp} {T:TypeId} {x y:Operand} {A B:Option Addr} {w:World}:(eqGuard op T x y (.pointer A) (.pointer B)).run P w = .ok () w:=by
 cases op<;>rfl
theorem zo3a {op:BinOp} {T U:TypeId} {x y:Operand} {t:Ty} {m:Md} {p:t.I} {fq:Blks} (hE:EnvTy P env) (ho:o.op = .binOp op T x y U) (hv:isV t (a.eval x)) (hm:m ≠ .j) (hrep:rep F w t m p (cv (a.eval x)) fq) (hS:SR e F w st V fp none') (hA:AR env gh a V) (hN:Nxt env gh e K res next)
  (h2:(evN env o op T y t p).run C st K=some res):wpp P o a w next:=by
 unfold evN at h2;split at h2
 ·rename_i et u q;cases hT:(env.is T (.sl et u)&&zSXa y) with
  |false=>rw[hT]at h2; simp[RM.run]at h2
  |true =>
  rw[hT]at h2;simp only[Bool.and_eq_true]at hT;obtain rfl:=zcZa hT.2;have hu:=(wt_sl (Env.is_ok hE hT.1)).1;obtain ⟨A,cap,q0,q1,q2⟩:∃A cap,a.eval x = .slice A (List.length (q:List u.I)) cap∧List.length (q:List u.I)≤cap∧(A=none→cap=0):=by
   obtain ⟨A,cap,r0,r1,r2⟩:∃A cap,cv (a.eval x) 0 = .slice A (List.length (q:List u.I)) cap∧List.length (q:List u.I)≤cap∧(A=none→cap=0):=by
    cases m<;>simp only[rep]at hrep<;>first|exact absurd rfl hm|(obtain ⟨A,cap,h1,h2,h3,h4,_⟩:=hrep; exact ⟨A,cap,h1,h2,h4⟩)
   refine ⟨A,cap,?_,r1,r2⟩;have h2:a.eval x=valOf (.sl et u) (cv (a.eval x)):=hv;rw[h2];simpa only[valOf,Ty.agg,Bool.false_eq_true,if_false] using r0
  have e2:a.eval (.const (.slice none 0 0)) = .slice none 0 0:=rfl;have hnn:(List.isEmpty (q:List u.I))=false→A.isNone=false:=fun hne=>by
   cases A with
   |some _=>rfl
   |none =>
    have hc0:cap=0:=q2 rfl;have:q=[]:=List.eq_nil_of_length_eq_zero (by omega);rw[this]at hne; cases hne
  cases op with
  |eql =>
   have run:∀w,(execOp a.eval o).run P w = .ok (.value (.bool A.isNone)) w:=fun w=>by
    simp only[execOp,ho,q0,e2,Sem.run_bind,zgTa,Result.andThen_ok,binOp,zzBa hu,Sem.run_pure]
   simp only[RM.run]at h2;cases hq:List.isEmpty (q:List u.I) with
   |false =>
    rw[hq]at h2;rw[hnn hq]at run;exact endVp (v := .bool false) hS hA hN h2 (fun _=>rfl) zQga (fun _ hb=>hb) run
   |true =>
    rw[hq]at h2;obtain ⟨b1,b2⟩:=zpRa h2;cases hA0:A.isNone with
    |true=>rw[hA0]at run; exact endVp (v := .bool true) hS hA hN b1 (fun _=>rfl) zQga (fun _ hb=>hb) run
    |false=>rw[hA0]at run; exact endVp (v := .bool false) hS hA hN b2 (fun _=>rfl) zQga (fun _ hb=>hb) run
  |neq =>
   have run:∀w,(execOp a.eval o).run P w = .ok (.value (.bool (!A.isNone))) w:=fun w=>by
    simp only[execOp,ho,q0,e2,Sem.run_bind,zgTa,Result.andThen_ok,binOp,zzBa hu,Sem.run_pure]
   simp only[RM.run]at h2;cases hq:List.isEmpty (q:List u.I) with
   |false =>
    rw[hq]at h2;rw[hnn hq]at run;exact endVp (v := .bool true) hS hA hN h2 (fun _=>rfl) zQga (fun _ hb=>hb) run
   |true =>
    rw[hq]at h2;obtain ⟨b1,b2⟩:=zpRa h2;cases hA0:A.isNone with
    |true=>rw[hA0]at run; exact endVp (v := .bool false) hS hA hN b1 (fun _=>rfl) zQga (fun _ hb=>hb) run
    |false=>rw[hA0]at run; exact endVp (v := .bool true) hS hA hN b2 (fun _=>rfl) zQga (fun _ hb=>hb) run
  |_=>simp[RM.run]at h2
 ·rename_i et u q;cases hT:(env.is T (.ptr et u)&&zTXa y) with
  |false=>rw[hT]at h2; simp[RM.run]at h2
  |true =>
  rw[hT]at h2;simp only[Bool.and_eq_true]at hT;obtain rfl:=zdZa hT.2;have hu:=(zJ1a (Env.is_ok hE hT.1)).1;have e2:a.eval (.const (.pointer none)) = .pointer none:=rfl;obtain ⟨A,q0,q1⟩:∃A,a.eval x = .pointer A∧A.isNone=Option.isNone (q:Option u.I):=by
   have hval:a.eval x=cv (a.eval x) 0:=by
    have h2:a.eval x=valOf (.ptr et u) (cv (a.eval x)):=hv;simpa only[valOf,Ty.agg,Bool.false_eq_true,if_false] using h2
   cases m with
   |j=>exact absurd rfl hm
   |_ =>
    simp only[rep]at hrep;obtain ⟨A,r0,r1⟩:=hrep;refine ⟨A,hval.trans r0,?_⟩;cases q with
    |none=>rw[r1]; rfl
    |some _=>obtain ⟨ad,r2,_⟩:=r1; rw[r2]; rfl
  cases op with
  |eql =>
   refine endVp (v := .bool (Option.isNone (q:Option u.I))) hS hA hN h2 (fun _=>rfl) zQga (fun _ hb=>hb) fun w=>?_
   simp only[execOp,ho,q0,e2,Sem.run_bind,zWOa,Result.andThen_ok,binOp,zwHa hu,Sem.run_pure,q1]
  |neq =>
   refine endVp (v := .bool (!(Option.isNone (q:Option u.I)))) hS hA hN h2 (fun _=>rfl) zQga (fun _ hb=>hb) fun w=>?_
   simp only[execOp,ho,q0,e2,Sem.run_bind,zWOa,Result.andThen_ok,binOp,zwHa hu,Sem.run_pure,q1]
  |_=>simp[RM.run]at h2
 ·rename_i q;cases hT:(env.is T .err&&zUXa y) with
  |false=>rw[hT]at h2; simp[RM.run]at h2
  |true =>
  rw[hT]at h2;simp only[Bool.and_eq_true]at hT;obtain rfl:=zeZa hT.2;obtain ⟨ms,hu⟩:=zV2a (Env.is_ok hE hT.1);have e2:a.eval (.const .nilIface) = .nilIface:=rfl;have q0:errV q (a.eval x):=by
   have hval:a.eval x=cv (a.eval x) 0:=by
    have h2:a.eval x=valOf .err (cv (a.eval x)):=hv;simpa only[valOf,Ty.agg,Bool.false_eq_true,if_false] using h2
   rw[hval];cases m with
   |j=>exact absurd rfl hm
   |_=>simp only[rep]at hrep; exact hrep
  cases op with
  |eql =>
   refine endVp (v := .bool (!(q:Bool))) hS hA hN h2 (fun _=>rfl) zQga (fun _ hb=>hb) fun w=>?_
   simp only[execOp,ho,e2,Sem.run_bind,zXOa q0,Result.andThen_ok,(zHVa hu q0).1,Sem.run_pure]
  |neq =>
   refine endVp (v := .bool q) hS hA hN h2 (fun _=>rfl) zQga (fun _ hb=>hb) fun w=>?_
   simp only[execOp,ho,e2,Sem.run_bind,zXOa q0,Result.andThen_ok,(zHVa hu q0).2,Sem.run_pure]
  |_=>simp[RM.run]at h2
 ·simp[RM.run]at h2
theorem zXTa {u:Ty} {T:TypeId} {cs:Array Value} {off:Nat} (h:wt P u T=true) (hle:off+u.size≤cs.size):(part T cs off).run P w = .ok (valOf u (fun j=>cs.getD (off+j) undef)) w:=by
 simp only[part,Sem.run_bind,zGVa h,Result.andThen_ok];unfold valOf;cases ha:u.agg with
 |true =>
  simp only[if_true,Sem.run_bind,zNga h,Result.andThen_ok,Sem.run_pure]
  congr 2
  apply Array.ext
  ·simp; omega
  ·intro i h1 h2;have:off+i<cs.size:=by simp at h2; omega
   simp[Array.getD,this]
 |false =>
  have h1:=zfGa ha;have h2:off<cs.size:=by omega
  simp[Array.getD,h2]
theorem zAYa {t:Ty} {v:Value} (hv:isV t v) (ha:t.agg=true):∃cs:Array Value,v = .agg cs∧cs.size=t.size∧∀j,cs.getD j undef=cv v j:=by
 have h:v = .agg ((List.range t.size).map (cv v)).toArray:=by
  have:=hv; unfold isV valOf at this; rw[ha]at this; simpa using this
 refine ⟨_,h,by simp,fun j=>?_⟩;have h2:∀cs:Array Value,cv (.agg cs) j=cs.getD j undef:=fun _=>rfl
 conv=>rhs; rw[h,h2]
theorem zH1a {T:TypeId} (h:wt P .unit T=true):∃fs,P.underlying T=some (.struct fs)∧fs.toList=[]:=by
 simp only[wt,Bool.and_eq_true]at h;obtain ⟨_,h⟩:=h;split at h
 ·rename_i fs h2; exact ⟨fs,h2,by simpa using h⟩
 ·cases h
theorem zK1a {x y:Ty} {T:TypeId} (h:wt P (.pair x y) T=true):∃fs f fl,P.underlying T=some (.struct fs)∧fs.toList=f::fl∧f.offset=0∧wt P x f.type=true∧wtF P y fl x.size=true:=by
 simp only[wt,Bool.and_eq_true]at h;obtain ⟨_,h⟩:=h;split at h
 ·rename_i fs h2;split at h
  ·rename_i f fl h3;simp only[Bool.and_eq_true]at h;exact ⟨fs,f,fl,h2,h3,Nat.eq_of_beq_eq_true h.1,h.2.1,h.2.2⟩
  ·cases h
 ·cases h
theorem zwTa (n:Nat) (c:Cells) (j:Nat) (h:j<n):((List.range n).map c).toArray.getD j undef=c j:=by
 simp[Array.getD,h]
theorem zc3a (w:World):∀(t:Ty),
  (∀(T:TypeId) (d:Nat) (m m':Md) (x y:t.I) (c c':Cells) (fq fq':Blks) (z:Bool),wt P t T=true→eqT P t T=true→eqI t x y=some z→t.deep≤d→m.noJ=true→m'.noJ=true→rep F w t m x c fq→rep F w t m' y c' fq' →
   (Op.equalIn (d+1) T (valOf t c) (valOf t c')).run P w = .ok z w) ∧
  (∀(fs:List Field) (o n d:Nat) (m m':Md) (x y:t.I) (c c':Cells) (fq fq':Blks) (z:Bool),wtF P t fs o=true→eqF P t fs=true→eqI t x y=some z→t.deep≤d→o+t.size≤n→m.noJ=true→m'.noJ=true→rep F w t m x (fun j=>c (o+j)) fq→rep F w t m' y (fun j=>c' (o+j)) fq' →
   (Op.eqFields d ((List.range n).map c).toArray ((List.range n).map c').toArray fs).run P w = .ok z w):=by
 have part:∀ {m:Md},m.noJ=true→m.fst.noJ=true∧m.snd.noJ=true:=by
  intro m hm;cases m<;>simp only[Md.noJ,Md.fst,Md.snd,Bool.and_eq_true,Bool.false_eq_true]at hm ⊢<;>first|exact ⟨trivial,trivial⟩|exact hm|exact ⟨hm,hm⟩
 have nej:∀ {m:Md},m.noJ=true→m ≠ .j:=by rintro m h rfl; cases h
 intro t
 induction t with
 |int k =>
  refine ⟨fun T d m m' x y c c' fq fq' z hw hq hz hd hm hm' hr hr'=>?_,fun fs o n d m m' x y c c' fq fq' z hw=>by simp[wtF]at hw⟩;have h1:c 0 = .int k x:=by cases m<;>simp only[rep]at hr<;>first|exact hr.1|exact absurd rfl (nej hm)
  have h2:c' 0 = .int k y:=by cases m'<;>simp only[rep]at hr'<;>first|exact hr'.1|exact absurd rfl (nej hm')
  simp only[eqI,Option.some.injEq]at hz;subst hz;simp only[valOf,Ty.agg,Bool.false_eq_true,if_false,h1,h2];exact run_equalIn_int w d T k k x y (zrRa hw)
 |bool =>
  refine ⟨fun T d m m' x y c c' fq fq' z hw hq hz hd hm hm' hr hr'=>?_,fun fs o n d m m' x y c c' fq fq' z hw=>by simp[wtF]at hw⟩;have h1:c 0 = .bool x:=by cases m<;>simp only[rep]at hr<;>first|exact hr|exact absurd rfl (nej hm)
  have h2:c' 0 = .bool y:=by cases m'<;>simp only[rep]at hr'<;>first|exact hr'|exact absurd rfl (nej hm')
  simp only[eqI,Option.some.injEq]at hz;subst hz;simp only[valOf,Ty.agg,Bool.false_eq_true,if_false,h1,h2];exact zYxa (zDVa hw)
 |str =>
  refine ⟨fun T d m m' x y c c' fq fq' z hw hq hz hd hm hm' hr hr'=>?_,fun fs o n d m m' x y c c' fq fq' z hw=>by simp[wtF]at hw⟩;have h1:c 0 = .string ⟨(x:List UInt8).toArray⟩:=by cases m<;>simp only[rep]at hr<;>first|exact hr.1|exact absurd rfl (nej hm)
  have h2:c' 0 = .string ⟨(y:List UInt8).toArray⟩:=by cases m'<;>simp only[rep]at hr'<;>first|exact hr'.1|exact absurd rfl (nej hm')
  simp only[eqI,Option.some.injEq]at hz;subst hz;simp only[valOf,Ty.agg,Bool.false_eq_true,if_false,h1,h2];rw[run_equalIn_string w d T _ _ (zgPa hw),ByteArray.toList_eq,ByteArray.toList_eq]
 |sl e t ih=>exact ⟨fun T d m m' x y c c' fq fq' z hw hq hz=>(by simp[eqI]at hz),fun fs o n d m m' x y c c' fq fq' z hw=>by simp[wtF]at hw⟩
 |ptr e t ih=>exact ⟨fun T d m m' x y c c' fq fq' z hw hq hz=>(by simp[eqI]at hz),fun fs o n d m m' x y c c' fq fq' z hw=>by simp[wtF]at hw⟩
 |err=>exact ⟨fun T d m m' x y c c' fq fq' z hw hq hz=>(by simp[eqI]at hz),fun fs o n d m m' x y c c' fq fq' z hw=>by simp[wtF]at hw⟩
 |arr n t ih=>exact ⟨fun T d m m' x y c c' fq fq' z hw hq hz=>(by simp[eqI]at hz),fun fs o n d m m' x y c c' fq fq' z hw=>by simp[wtF]at hw⟩
 |unit =>
  refine ⟨fun T d m m' x y c c' fq fq' z hw hq hz hd hm hm' hr hr'=>?_,fun fs o n d m m' x y c c' fq fq' z hw hq hz hd hle hm hm' hr hr'=>?_⟩
  ·obtain ⟨fs,h1,h2⟩:=zH1a hw;simp only[eqI,Option.some.injEq]at hz;subst hz;have hp:P.stoodInHeld T=false:=by simpa[eqT] using hq
   have hf:P.fieldsOf T=fs:=by simp[Program.fieldsOf,h1]
   simp only[valOf,Ty.agg,if_true];rw[run_equalIn_agg w d T _ _ (by rw[hf]; exact h1) hp,hf,h2];rfl
  ·simp only[eqI,Option.some.injEq]at hz;subst hz;have:fs=[]:=by simpa[wtF] using hw
   subst this;rfl
 |pair a b iha ihb =>
  have hfld:∀(fs:List Field) (o n d:Nat) (m m':Md) (x y:(Ty.pair a b).I) (c c':Cells) (fq fq':Blks) (z:Bool),wtF P (.pair a b) fs o=true→eqF P (.pair a b) fs=true→eqI (.pair a b) x y=some z→(Ty.pair a b).deep≤d→o+(Ty.pair a b).size≤n→m.noJ=true→m'.noJ=true →
    rep F w (.pair a b) m x (fun j=>c (o+j)) fq→rep F w (.pair a b) m' y (fun j=>c' (o+j)) fq'→(Op.eqFields d ((List.range n).map c).toArray ((List.range n).map c').toArray fs).run P w = .ok z w:=by
   intro fs o n d m m' x y c c' fq fq' z hw hq hz hd hle hm hm' hr hr';cases fs with
   |nil=>simp[wtF]at hw
   |cons f fs =>
    simp only[wtF,Bool.and_eq_true]at hw;obtain ⟨w1,w2,w3⟩:=hw;have w1:=Nat.eq_of_beq_eq_true w1;simp only[eqF,Bool.and_eq_true]at hq;obtain ⟨q1,q2,q3⟩:=hq;simp only[eqI]at hz;split at hz
    ·rename_i p q hp hq;simp only[Option.some.injEq]at hz;subst hz;simp only[Ty.deep]at hd;simp only[Ty.size]at hle;obtain ⟨d,rfl⟩:∃d',d=d'+1:=⟨d-1,by omega⟩
     obtain ⟨fa,fb,_,_,_,ra,rb⟩:=zaka hr;obtain ⟨fa',fb',_,_,_,ra',rb'⟩:=zaka hr';have hsz:((List.range n).map c).toArray.size=n:=by simp
     have hsz':((List.range n).map c').toArray.size=n:=by simp
     have e1:valOf a (fun j=>((List.range n).map c).toArray.getD (o+j) undef)=valOf a (fun j=>c (o+j)):=zRza fun j hj=>zwTa n c _ (by omega)
     have e2:valOf a (fun j=>((List.range n).map c').toArray.getD (o+j) undef)=valOf a (fun j=>c' (o+j)):=zRza fun j hj=>zwTa n c' _ (by omega)
     have p1:=zXTa (P:=P) (w:=w) (cs:=((List.range n).map c).toArray) (off:=o) w2 (by omega);have p2:=zXTa (P:=P) (w:=w) (cs:=((List.range n).map c').toArray) (off:=o) w2 (by omega);rw[e1]at p1;rw[e2]at p2;have hn:f.name ≠ "_":=by simpa using q1
     have hbb:∀j,c (o+(a.size+j))=c ((o+a.size)+j):=fun j=>by rw[Nat.add_assoc]
     have hbb':∀j,c' (o+(a.size+j))=c' ((o+a.size)+j):=fun j=>by rw[Nat.add_assoc]
     have r1:=(iha.1) f.type d _ _ _ _ _ _ _ _ p w2 q2 hp (by omega) (part hm).1 (part hm').1 ra ra';have r2:=(ihb.2) fs (o+a.size) n (d+1) _ _ _ _ c c' _ _ q w3 q3 hq (by omega) (by omega) (part hm).2 (part hm').2 (zEaa (fun j _=>hbb j) rb) (zEaa (fun j _=>hbb' j) rb');simp only[Op.eqFields,hn,ne_eq,not_false_eq_true,if_true,Sem.run_bind,w1,p1,p2,Result.andThen_ok,r1];cases p with
     |true=>simpa using r2
     |false=>simp
    ·cases hz
  refine ⟨fun T d m m' x y c c' fq fq' z hw hq hz hd hm hm' hr hr'=>?_,hfld⟩;obtain ⟨fs,f,fl,h1,h2,h3,h4,h5⟩:=zK1a hw;have hf:P.fieldsOf T=fs:=by simp[Program.fieldsOf,h1]
  simp only[eqT,Bool.and_eq_true,Bool.not_eq_true',hf,h2]at hq;obtain ⟨hp,q1,q2,q3⟩:=hq;simp only[valOf,Ty.agg,if_true];rw[run_equalIn_agg w d T _ _ (by rw[hf]; exact h1) hp,hf,h2];exact hfld (f::fl) 0 _ d m m' x y c c' fq fq' z (by simp only[wtF,Bool.and_eq_true,Nat.zero_add]; exact ⟨by rw[h3]; rfl,h4,h5⟩) (by simp only[eqF,Bool.and_eq_true]; exact ⟨q1,q2,q3⟩) hz hd (by omega) hm hm' (zEaa (fun j _=>by rw[Nat.zero_add]) hr) (zEaa (fun j _=>by rw[Nat.zero_add]) hr')
theorem zn3a {op:BinOp} {T U:TypeId} {x y:Operand} {t u:Ty} {m m':Md} {p:t.I} {q:u.I} {fq fq':Blks} (hE:EnvTy P env) (ho:o.op = .binOp op T x y U) (hv:isV t (a.eval x)) (hv':isV u (a.eval y)) (hm:m.noJ=true) (hm':m'.noJ=true)
  (hr:rep F w t m p (cv (a.eval x)) fq) (hr':rep F w u m' q (cv (a.eval y)) fq') (hS:SR e F w st V fp none') (hA:AR env gh a V) (hN:Nxt env gh e K res next) (h:(evQ env o op T t u p q).run C st K=some res)
  (hall:∀w':World,∃fq fq',rep F w' t m p (cv (a.eval x)) fq∧rep F w' u m' q (cv (a.eval y)) fq'):wpp P o a w next:=by
 unfold evQ at h;split at h
 ·rename_i q' hc he;simp only[Bool.and_eq_true]at hc;obtain ⟨eu,hy⟩:=zdca he;subst eu;simp only at hy;subst hy;have hwt:=Env.is_ok hE hc.2.1;have hq:=by
   have h1:env.ty T=some u:=by
    have:=hc.2.1;unfold Env.is at this;split at this
    ·rename_i t' h1; rw[←Ty.eqb_eq this]; exact h1
    ·cases this
   have:=hE.eq T u hc.2.2 h1;simp only[Bool.and_eq_true,Bool.not_eq_true']at this;exact this
  split at h
  ·rename_i z hz;have ha:u.agg=true:=by
    have:=hc.1;cases u<;>first|rfl|cases this
   obtain ⟨cs,c1,_,_⟩:=zAYa hv ha;obtain ⟨cs',c1',_,_⟩:=zAYa hv' ha;have hrun:∀w',(Op.equalIn 10000 T (.agg cs) (.agg cs')).run P w' = .ok z w':=by
    intro w';obtain ⟨fq,fq',r1,r2⟩:=hall w';have h1:a.eval x=valOf u (cv (a.eval x)):=hv;have h2:a.eval y=valOf u (cv (a.eval y)):=hv';have:=(zc3a (P:=P) (F:=F) w' u).1 T 9999 m m' p q _ _ _ _ z hwt hq.1 hz (by have:=Nat.le_of_ble_eq_true hq.2.2; omega) hm hm' r1 r2;rw[←h1,←h2,c1,c1']at this;exact this
   have hg:∀w',(eqGuard op T x y (.agg cs) (.agg cs')).run P w' = .ok () w':=fun w'=>run_eqGuard_agg w' op T x y cs cs' hq.2.1
   cases op with
   |eql =>
    refine endVp (v := .bool z) hS hA hN h (fun _=>rfl) zQga (fun _ hb=>hb) fun w'=>?_
    simp only[execOp,ho,c1,c1',Sem.run_bind,hg,Result.andThen_ok,run_eql_struct,hrun,Sem.run_pure]
   |neq =>
    refine endVp (v := .bool (!z)) hS hA hN h (fun _=>rfl) zQga (fun _ hb=>hb) fun w'=>?_
    simp only[execOp,ho,c1,c1',Sem.run_bind,hg,Result.andThen_ok,run_neq_struct,hrun,Sem.run_pure]
   |_=>simp[RM.run]at h
  ·simp[RM.run]at h
 ·simp[RM.run]at h
theorem zKZa {F:Blks} {w w':World}:∀ {t:Ty} {m:Md} {x:t.I} {c:Cells} {fq:Blks},t.flat=true→rep F w t m x c fq→rep F w' t m x c fq:=by
 intro t
 induction t with
 |sl e t ih=>intro m x c fq h; cases h
 |ptr e t ih=>intro m x c fq h; cases h
 |pair a b iha ihb =>
  intro m x c fq h hr;simp only[Ty.flat,Bool.and_eq_true]at h;obtain ⟨fa,fb,h1,h2,h3,ra,rb⟩:=zaka hr;have:∃fa fb:Blks,(∀i,fa i→fq i)∧(∀i,fb i→fq i)∧(∀i,fa i→¬fb i)∧rep F w' a m.fst x.1 c fa∧rep F w' b m.snd x.2 (fun j=>c (a.size+j)) fb:=⟨fa,fb,h1,h2,h3,iha h.1 ra,ihb h.2 rb⟩
  cases m with
  |j=>exact rep_j
  |_=>simpa only[rep] using this
 |arr n t ih =>
  intro m x c fq h hr;cases m with
  |j=>exact rep_j
  |_ =>
   simp only[rep]at hr ⊢;obtain ⟨hn,fs,h1,h2,r⟩:=hr;exact ⟨hn,fs,h1,h2,fun i hi=>ih h (r i hi)⟩
 |_=>intro m x c fq h hr; cases m<;>simp only[rep]at hr ⊢<;>exact hr
theorem zq1a:∀ {t:Ty} {x y:t.I} {z:Bool},eqI t x y=some z→t.flat=true:=by
 intro t
 induction t with
 |pair a b iha ihb =>
  intro x y z h;simp only[eqI]at h;split at h
  ·rename_i p q h1 h2;simp only[Ty.flat,iha h1,ihb h2,Bool.and_self]
  ·cases h
 |_=>intro x y z h; first|rfl|simp[eqI]at h
theorem zBXa {op:BinOp} {T U:TypeId} {x y:Operand} (hE:EnvTy P env) (ho:o.op = .binOp op T x y U) (hS:SR e F w st V fp none') (hA:AR env gh a V) (hN:Nxt env gh e K res next) (h:(evOp env o).run C st K=some res):wpp P o a w next:=by
 simp only[evOp,ho]at h;obtain ⟨t,m,p,src,h1,hd,_⟩:=zhja hS hA h;obtain ⟨hv,hm,fq,hrep,_⟩:=hd.rep hS;cases hnil:isNil y with
 |true=>rw[hnil]at h1; exact zo3a hE ho hv hm hrep hS hA hN h1
 |false =>
 rw[hnil]at h1;obtain ⟨u,m2,q,src2,h2,hd2,_⟩:=zhja hS hA h1;obtain ⟨hv2,hm2,fq2,hrep2,_⟩:=hd2.rep hS;have hQ:(match m.noJ&&m2.noJ with
   |true=>evQ env o op T t u p q
   |false => .fail:RM Unit).run C st K=some res→wpp P o a w next:=by
  intro h3;split at h3
  ·rename_i hnj;simp only[Bool.and_eq_true]at hnj;have h4:=h3;unfold evQ at h4;split at h4
   ·rename_i q' hc he;split at h4
    ·rename_i z hz;have hfl:=zq1a hz;have hfl2:u.flat=true:=by obtain ⟨eu,_⟩:=zdca he; rw[eu]; exact hfl
     exact zn3a hE ho hv hv2 hnj.1 hnj.2 hrep hrep2 hS hA hN h3 (fun w'=>⟨_,_,zKZa hfl hrep,zKZa hfl2 hrep2⟩)
    ·simp[RM.run]at h4
   ·simp[RM.run]at h4
  ·simp[RM.run]at h3
 cases t with
 |int k =>
  cases u with
  |int k' =>
   obtain ⟨e1,r1⟩:=zMRa hv hm hrep;obtain ⟨e2,r2⟩:=zMRa hv2 hm2 hrep2;exact zq3a ho e1 r1 e2 hS hA hN h2
  |_=>exact hQ h2
 |str =>
  cases u with
  |str=>exact zm3a ho (zxHa hv hm hrep).1 (zxHa hv2 hm2 hrep2).1 hS hA hN h2
  |_=>exact hQ h2
 |bool =>
  cases u with
  |bool=>exact zp3a hE ho (zkGa hv hm hrep) (zkGa hv2 hm2 hrep2) hS hA hN h2
  |_=>exact hQ h2
 |_=>cases u<;>exact hQ h2
theorem zMZa {op:UnOp} {T:TypeId} {x:Operand} (ho:o.op = .unOp op T x) (hS:SR e F w st V fp none') (hA:AR env gh a V) (hN:Nxt env gh e K res next) (h:(evOp env o).run C st K=some res):wpp P o a w next:=by
 simp only[evOp,ho]at h;obtain ⟨t,m,p,src,h1,hd,_⟩:=zhja hS hA h;obtain ⟨hv,hm,fq,hrep,_⟩:=hd.rep hS;cases t with
 |int k =>
  obtain ⟨e1,r1⟩:=zMRa hv hm hrep;cases op with
  |neg=>exact endVp (v := .int k (negI k p)) hS hA hN h1 (fun _=>rfl) (zora (zHla _ _)) (fun _ hb=>hb) (fun w=>by simp only[execOp,ho,e1,Op.unary,Op.intArith]; rfl)
  |xor=>exact endVp (v := .int k (notI k p)) hS hA hN h1 (fun _=>rfl) (zora (zHla _ _)) (fun _ hb=>hb) (fun w=>by simp only[execOp,ho,e1,Op.unary,Op.intBits]; rfl)
  |_=>simp[RM.run]at h1
 |bool =>
  have e1:=zkGa hv hm hrep;cases op with
  |not=>exact endVp (v := .bool (!p)) hS hA hN h1 (fun _=>rfl) zQga (fun _ hb=>hb) (fun w=>by simp only[execOp,ho,e1,Op.unary]; rfl)
  |_=>simp[RM.run]at h1
 |_=>cases op<;>simp[RM.run]at h1
end
end Go.Trm
namespace Go.Trm
theorem zGra {b:Nat}:∀ {vs:List Value} {o:Nat} {w:World} {cs:Array Value} {el:TypeId} {fz:Nat×Nat},w.heap[b]?=some (.cells cs el fz)→o+vs.length≤cs.size →
  ∃cs',(w.setCells b o vs).heap[b]?=some (.cells cs' el fz)∧cs'.size=cs.size∧(∀j,j<vs.length→cs'.getD (o+j) undef=vs.getD j undef)∧(∀j,(j<o∨o+vs.length≤j)→cs'.getD j undef=cs.getD j undef) ∧
   (∀b',b'≠b→(w.setCells b o vs).heap[b']?=w.heap[b']?)∧(w.setCells b o vs).heap.size=w.heap.size
 |[],o,w,cs,el,fz,h,_=>⟨cs,h,rfl,fun j hj=>by simp at hj,fun _ _=>rfl,fun _ _=>rfl,rfl⟩
 |v::vs,o,w,cs,el,fz,h,hl=>by
  have hb:b<w.heap.size:=(Array.getElem?_eq_some_iff.1 h).1;have h1:(w.setCell ⟨b,o,none⟩ v).heap[b]?=some (.cells (cs.setIfInBounds o v) el fz):=by
   simp only[World.setCell,Array.getElem?_modify,if_true,h,Option.map_some];rfl
  have h2:∀b',b'≠b→(w.setCell ⟨b,o,none⟩ v).heap[b']?=w.heap[b']?:=by
   intro b' hb';simp only[World.setCell,Array.getElem?_modify];rw[if_neg (Ne.symm hb')]
  have h3:(w.setCell ⟨b,o,none⟩ v).heap.size=w.heap.size:=by simp[World.setCell]
  simp only[List.length_cons]at hl;obtain ⟨cs',k1,k2,k3,k4,k5,k6⟩:=zGra (vs:=vs) (o:=o+1) h1 (by simp; omega);refine ⟨cs',k1,by simpa using k2,?_,?_,fun b' hb'=>(k5 b' hb').trans (h2 b' hb'),k6.trans h3⟩
  ·intro j hj;cases j with
   |zero =>
    rw[k4 (o+0) (.inl (by omega))];have:o<cs.size:=by omega
    simp[this]
   |succ j =>
    have:=k3 j (by simpa using hj);rw[show o+(j+1)=o+1+j by omega,this];simp
  ·intro j hj;simp only[List.length_cons]at hj;rw[k4 j (by omega)];have:o≠j:=by omega
   simp only[Array.getD_eq_getD_getElem?];rw[Array.getElem?_setIfInBounds_ne this]
theorem zJua (w:World) (b:Nat):∀(o:Nat) (vs:List Value),Still w (w.setCells b o vs)
 |_,[]=>Still.refl w
 |o,v::r=>Still.trans (b:=w.setCell ⟨b,o,none⟩ v) ⟨rfl,rfl,rfl⟩ (zJua _ b (o+1) r)
theorem zaKa {w:World} {b o:Nat} {t:Ty} {v:Value} (hh:zTga w b (o+t.size) true) (hv:v.cells.size=t.size) :
  ChgW w (w.setCells b o v.cells.toList) t (some (b,o))∧(w.setCells b o v.cells.toList).heap.size=w.heap.size∧∀j,j<t.size→rowW (w.setCells b o v.cells.toList) b o j=cv v j:=by
 obtain ⟨cs,el,fz,h1,h2,h3⟩:=hh;have hl:v.cells.toList.length=t.size:=by simpa using hv
 obtain ⟨cs',k1,k2,k3,k4,k5,k6⟩:=zGra (vs:=v.cells.toList) (o:=o) h1 (by omega);refine ⟨⟨k5,?_,?_⟩,k6,?_⟩
 ·intro j hj;simp only[rowW,k1,h1,rowOf,Nat.zero_add];exact k4 j (by omega)
 ·rintro n wr ⟨cs0,el0,fz0,e1,e2,e3⟩
  rw[h1]at e1;cases e1;exact ⟨cs',el,fz,k1,by omega,fun hw=>by rw[k2]; exact e3 hw⟩
 ·intro j hj;simp only[rowW,k1,rowOf];rw[k3 j (by omega)];simp[cv,Array.getD_eq_getD_getElem?]
section
variable {P:Program} {env:Env} {e:Entry} {F:Blks} {w:World} {st:St} {V:Nat→Value} {fp:Nat→Blks} {fl:Blks} {a:Act} {o:Oper} {R:Type} {K:Unit→St→Option R} {res:R} {C:Cx R} {gh:Nat→Value} {next:Act→World→Prop} {Q:Exit→Act→World→Prop}
theorem zGKa {T:TypeId} {t:Ty} {b k:Nat} {v:Value} (h:wt P t T=true) (hh:zTga w b (k+t.size) true) (hv:v.cells.size=t.size) (h1:∀u∈v.cells.toList,u.oneCell'=true) :
  (storeVar T ⟨b,k,none⟩ v).run P w = .ok () (w.setCells b k v.cells.toList):=by
 simp only[storeVar,Sem.run_bind,zNga h,Result.andThen_ok,hv,ne_eq,not_true_eq_false,if_false];have hl:v.cells.toList.length=t.size:=by simpa using hv
 have:=run_storeCells_cells (P:=P) b k v.cells.toList 0 w (fun j hj=>by
   simp only[Nat.add_zero];rw[zZla hh (k:=k+j) (by omega)]; rfl)
  (fun j hj=>by simp only[Nat.add_zero]; exact zCEa hh (by omega)) h1
 simpa using this
theorem zNRa {T:TypeId} {x:Operand} {α:Type} {kp:Nat→List PE→RM α} {kd:(t:Ty)→t.I→RM α} {K:α→St→Option R} (hS:SR e F w st V fp fl) (hA:AR env gh a V) (h:(rdP env T x kp kd).run C st K=some res) :
  (∃r p,(kp r p).run C st K=some res∧AlOk w st V r p (a.eval x)) ∨
  (∃t y b k,(kd t y).run C st K=some res∧a.eval x = .pointer (some ⟨b,k,none⟩)∧zTga w b (k+t.size) false∧rep F w t .s y (rowW w b k) none'∧F b):=by
 unfold rdP at h;obtain ⟨sv,h1,hx⟩:=zmfa h;have hptr:∀ {T':TypeId} {t:Ty} {y:t.I} {val:Value} {fq:Blks},isV (.ptr T' t) val→rep F w (.ptr T' t) .s (some y) (cv val) fq→∃b k,val = .pointer (some ⟨b,k,none⟩)∧zTga w b (k+t.size) false∧rep F w t .s y (rowW w b k) none'∧F b:=by
  intro T' t y val fq hv hr;simp only[rep]at hr;obtain ⟨A,e1,ad,rfl,hsp,e2,e3,e4⟩:=hr;obtain ⟨b,k,sp⟩:=ad;simp only at hsp;subst hsp;refine ⟨b,k,?_,e3,e4,e2⟩;have h2:val=valOf (.ptr T' t) (cv val):=hv;rw[h2];simp only[valOf,Ty.agg,Bool.false_eq_true,if_false];exact e1
 rcases hx with ⟨s,rfl,hs,rfl⟩|⟨c,rfl,rfl⟩|⟨f,rfl,rfl⟩
 ·have hev:a.eval (.tmp s)=V (env.b+s):=hA.tmps s hs;rw[hev];have hsv:=hS.sv (env.b+s);split at h1
  ·rename_i r p hst;rw[hst]at hsv;exact .inl ⟨r,p,h1,hsv⟩
  ·rename_i T' t y hst;rw[hst]at hsv;cases y with
   |none=>simp[RM.run]at h1
   |some y =>
    obtain ⟨b,k,e1,e2,e3,e4⟩:=hptr (hsv.1 nofun) hsv.2;exact .inr ⟨t,y,b,k,h1,e1,e2,e3,e4⟩
  ·rename_i T' t m y hst;rw[hst]at hsv;simp only[self]at h1;refine .inl ⟨env.b+s,[.der],h1,?_⟩;intro t0 m0 x0 h0;rw[hst]at h0;cases h0;have hr:=hsv.2;simp only[rep]at hr;obtain ⟨A,e1,ad,rfl,hsp,e2,e3,f,e4,e5⟩:=hr;obtain ⟨b,k,sp⟩:=ad;simp only at hsp;subst hsp;refine ⟨rfl,by simp[ownP],by simp[inP],t,rowW w b k,b,k,?_,?_⟩
   ·simp only[rs,e1]
   ·have h2:V (env.b+s)=valOf (.ptr T' t) (cv (V (env.b+s))):=hsv.1 nofun;rw[h2];simp only[valOf,Ty.agg,Bool.false_eq_true,if_false];exact e1
  ·rename_i r p hst;rw[hst]at hsv;simp only[RM.run]at h1;split at h1
   ·rename_i t0 m0 x0 hr0;split at h1
    ·rename_i T' t m y hg;simp only[memP,RM.run,hr0]at h1;split at h1
     ·rename_i hrb;refine .inl ⟨r,_,h1,?_⟩;intro t1 m1 x1 h2;rw[hr0]at h2;cases h2;obtain ⟨a1,a2,u1,c1,ad,a3,a4⟩:=hsv t0 m0 x0 hr0;have hrr:=hS.sv r;rw[hr0]at hrr;obtain ⟨c2,ad2,fp2,b1,b2,b3⟩:=zrEa (ad:=none) hrr.2 hg a2 nofun;rw[a3]at b1;simp only[Option.some.injEq,Prod.mk.injEq]at b1;obtain ⟨rfl,rfl,rfl⟩:=b1;simp only[rep]at b2;obtain ⟨A,e1,ad',rfl,hsp,e2,e3,f,e4,e5⟩:=b2;obtain ⟨b,k,sp⟩:=ad';simp only at hsp;subst hsp;refine ⟨hrb,zlGa hg a1 (by simp[ownP]),zNOa hg a2 (by simp[inP]),t,rowW w b k,b,k,?_,?_⟩
      ·rw[znWa a3];simp only[rs,e1]
      ·rw[a4];simp only[valOf,Ty.agg,Bool.false_eq_true,if_false];exact e1
     ·simp[RM.run]at h1
    ·simp[RM.run]at h1
   ·simp[RM.run]at h1
  ·simp[RM.run]at h1
 ·cases hc:cst env T c with
  |v t m y =>
   rw[hc]at h1;unfold cst at hc
   (repeat' split at hc)<;>cases hc<;>simp[RM.run]at h1
  |al r p=>unfold cst at hc; (repeat' split at hc)<;>cases hc
  |lz r p=>unfold cst at hc; (repeat' split at hc)<;>cases hc
  |_=>rw[hc]at h1; simp[RM.run]at h1
 ·simp[RM.run]at h1
theorem zbka {r:Nat} {p:List PE} {val:Value} {t0:Ty} {m0:Md} {x0:t0.I} {u:Ty} {mu:Md} {y:u.I} (hS:SR e F w st V fp fl) (ha:AlOk w st V r p val) (hr:st r = .v t0 m0 x0) (hg:getP t0 m0 x0 p=some ⟨u,mu,y⟩) :
  ∃b k fold,val = .pointer (some ⟨b,k,none⟩)∧rs w t0 (cv (V r)) none p=some (u,rowW w b k,some (b,k))∧ownP t0 m0 p∧inP t0 x0 p∧Put F w t0 m0 x0 (V r) (fp r) p u (rowW w b k) (some (b,k)) fold∧rep F w u mu y (rowW w b k) fold∧zTga w b (k+u.size) true:=by
 obtain ⟨a1,a2,a3,u1,c1,b,k,a4,a5⟩:=ha t0 m0 x0 hr;have hrr:=hS.sv r;rw[hr]at hrr;obtain ⟨fold,P⟩:=zA0a hrr.2 (hS.inH r) hS.inF a3 a2 a4;obtain ⟨mo,yo,g1,g2⟩:=P.old;rw[hg]at g1;simp only[Option.some.injEq]at g1;cases g1;obtain ⟨k1,k2,k3,k4⟩:=P.lies b k rfl;subst k4;exact ⟨b,k,fold,a5,a4,a2,a3,P,g2,k3⟩
theorem zzYa {s:Nat} {T:TypeId} {t:Ty} {m:Md} {y:t.I} (hS:SR e F w st V fp fl) (hst:st s = .v (.ptr T t) (.o m) (some y)):AlOk w st V s [.der] (V s):=by
 have hsv:=hS.sv s;rw[hst]at hsv;intro t0 m0 x0 h0;rw[hst]at h0;cases h0;have hr:=hsv.2;simp only[rep]at hr;obtain ⟨A,e1,ad,rfl,hsp,e2,e3,f,e4,e5⟩:=hr;obtain ⟨b,k,sp⟩:=ad;simp only at hsp;subst hsp;refine ⟨rfl,by simp[ownP],by simp[inP],t,rowW w b k,b,k,?_,?_⟩
 ·simp only[rs,e1]
 ·have h2:V s=valOf (.ptr T t) (cv (V s)):=hsv.1 nofun;rw[h2];simp only[valOf,Ty.agg,Bool.false_eq_true,if_false];exact e1
theorem zE0a {α:Type} {Kk:α→St→Option R} {r:Nat} {k:RM α} (hS:SR e F w st V fp fl) (h:(ownR r k).run C st Kk=some res):k.run C st Kk=some res∧AlOk w st V r [.der] (V r):=by
 simp only[ownR,RM.run]at h;split at h
 ·rename_i T t m y hst;exact ⟨h,zzYa hS hst⟩
 ·simp[RM.run]at h
theorem zRXa {T:TypeId} (hE:EnvTy P env) (h:isPtr env T=true):∃U t,wt P (.ptr U t) T=true:=by
 unfold isPtr at h;split at h
 ·rename_i U t hT; exact ⟨U,t,hE.ty _ _ hT⟩
 ·cases h
theorem zv1a {T:TypeId} {x:Operand} {r:Nat} {p:List PE} (hS:SR e F w st V fp fl) (hA:AR env gh a V) (hx:(∃t,x = .tmp t∧t<env.n∧(.bx r p:SV)=st (env.b+t))∨(∃c,x = .const c∧(.bx r p:SV)=cst env T c)∨(∃f,x = .func f∧(.bx r p:SV) = .fn f [] [])):BxOk F w V r (a.eval x):=by
 rcases hx with ⟨s,rfl,hs,h3⟩|⟨c,rfl,h3⟩|⟨f',rfl,h3⟩
 ·have hev:a.eval (.tmp s)=V (env.b+s):=hA.tmps s hs;have hsv:=hS.sv (env.b+s);rw[←h3]at hsv;rw[hev];exact hsv
 ·unfold cst at h3; (repeat' split at h3)<;>cases h3
 ·cases h3
theorem zxXa {T:TypeId} {x:Operand} {r:Nat} (hE:EnvTy P env) (ho:o.op = .load T x) (hb:BxOk F w V r (a.eval x)) (hS:SR e F w st V fp none') (hA:AR env gh a V) (hN:Nxt env gh e K res next) (h:(zS0a env o T r).run C st K=some res) :
  ∃v,(∀w',(∀b,F b→Same w w' b)→(execOp a.eval o).run P w' = .ok (.value v) w')∧next (a.put o.dst v) w:=by
 unfold zS0a at h;split at h
 ·rename_i hT;obtain ⟨U,t,hw⟩:=zRXa hE hT;obtain ⟨h1,ha⟩:=zE0a hS h;obtain ⟨_,b,k,e1,e2,e3,e4⟩:=hb;obtain ⟨st',V',fp',k1,k2,k3⟩:=zbwa (v:=V r) (fq:=none') hS hA rfl h1 ha (fun _ hb=>hb);refine ⟨V r,fun w' hw'=>?_,hN _ _ _ _ _ _ k2 k3 k1⟩;have hsm:=hw' b e2;have e3':=(zAca hsm).2 e3;rw[←e4,←zRfa hsm];simp only[execOp,ho,e1,Instr.loadAt,Instr.sureAddr,Sem.run_bind,Sem.run_pure,Result.andThen_ok,pure_bind,zwta (t := .ptr U t) hw e3'];simp only[valOf,Ty.agg,Bool.false_eq_true,if_false]
 ·simp[RM.run]at h
theorem zPZa {T:TypeId} {x:Operand} (hE:EnvTy P env) (ho:o.op = .load T x) (hS:SR e F w st V fp none') (hA:AR env gh a V) (hN:Nxt env gh e K res next) (h:(evOp env o).run C st K=some res):wpw P o a w next:=by
 simp only[evOp,ho]at h;obtain ⟨sv,h,hx⟩:=zmfa h;split at h
 ·obtain ⟨v,v1,v2⟩:=zxXa hE ho (zv1a hS hA hx) hS hA hN h;exact ⟨v,v1 w (fun _ _=>rfl),v2⟩
 rcases zNRa hS hA h with ⟨r,p,h1,ha⟩|⟨t,y,b,k,h1,e1,e2,e3,e4⟩
 ·simp only[atP,RM.run]at h1;split at h1
  ·rename_i t0 m0 x0 hr;split at h1
   ·rename_i u mu y hg;obtain ⟨b,k,fold,e1,e2,e3,e4,P',e5,e6⟩:=zbka hS ha hr hg;split at h1
    ·rename_i hT;have hrun:(execOp a.eval o).run P w = .ok (.value (valOf u (rowW w b k))) w:=by
      simp only[execOp,ho,e1,Instr.loadAt,Instr.sureAddr,Sem.run_bind,Sem.run_pure,Result.andThen_ok,pure_bind,zwta (Env.is_ok hE hT) e6]
     split at h1
     ·have h1':u.agg=false→one (rowW w b k 0):=fun hag=>zJwa e5 nofun hag
      exact endVw hS hA hN h1 (fun _=>zOva h1') (rep_s (fp':=none') (zEaa (fun j hj=>(zPxa h1' j hj).symm) e5)) (fun _ hb=>hb) hrun
     ·simp[RM.run]at h1
     ·refine endOw (fq:=none') hS hA hN rfl h1 ?_ (fun _ hb=>hb) hrun;intro t1 m1 x1 h2;rw[hr]at h2;cases h2;exact ⟨e3,e4,u,_,_,e2,rfl⟩
    ·simp[RM.run]at h1
   ·simp[RM.run]at h1
  ·simp[RM.run]at h1
 ·split at h1
  ·rename_i hT;have h1':t.agg=false→one (rowW w b k 0):=fun hag=>zJwa e3 nofun hag
   refine endVw hS hA hN h1 (fun _=>zOva h1') (rep_s (fp':=none') (zEaa (fun j hj=>(zPxa h1' j hj).symm) e3)) (fun _ hb=>hb) ?_;simp only[execOp,ho,e1,Instr.loadAt,Instr.sureAddr,Sem.run_bind,Sem.run_pure,Result.andThen_ok,pure_bind,zwta (Env.is_ok hE hT) e2]
  ·simp[RM.run]at h1
end
end Go.Trm
namespace Go.Trm
theorem zPYa {t:Ty} {m:Md} {p:List PE} (h:rootB t p=true) (ho:ownP t m p):m ≠ .j:=by
 rintro rfl
 unfold rootB at h;split at h
 ·simp[ownP]at ho
 ·simp[ownP]at ho
 ·cases h
theorem ztPa {t:Ty} {p q:List PE} (h:rootB t p=true):rootB t (p++q)=true:=by
 unfold rootB at h;split at h
 ·rfl
 ·rfl
 ·cases h
section
variable {P:Program} {env:Env} {e:Entry} {F:Blks} {w:World} {st:St} {V:Nat→Value} {fp:Nat→Blks} {fl:Blks} {a:Act} {o:Oper} {R:Type} {K:Unit→St→Option R} {res:R} {C:Cx R} {gh:Nat→Value} {next:Act→World→Prop} {Q:Exit→Act→World→Prop}
theorem zHYa {r:Nat} {p:List PE} {w':World} {st2:St} {fp2:Nat→Blks} (hS2:SR e F w' st2 V fp2 none') (hA:AR env gh a V)
  (h:(match env.fs r,p with
   |true,[.der] => .get r fun w=>match w with
    | .v (.ptr T' t') (.o m') (some y')=>match m'.noJ with
     |true=>zDra (some (r,[])) (fin env o .un)
     |false => .fail
    |_ => .fail
   |_,_=>fin env o .un:RM Unit).run C st2 K=some res) :
  ∃F' st' V' fp',K () st'=some res∧SR e F' w' st' V' fp' (fun _=>False)∧AR env gh (a.put o.dst undef) V':=by
 split at h
 ·simp only[RM.run]at h;split at h
  ·rename_i T' t' m' y' hst;split at h
   ·have hsv:=hS2.sv r;rw[hst]at hsv;have hd:DataAt F w' st2 V (V r) (.ptr T' t') (.o m') (some y') (some (r,[])) :=
     ⟨nofun,_,_,_,hst,some y',by simp only[getP],by simp[ownP],by simp[inP],cv (V r),none,by simp[rs],by
      have h1:V r=valOf (.ptr T' t') (cv (V r)):=hsv.1 nofun;have h2:=PartOf.all (c':=cv (V r)) (.ptr T' t') (some y')
      rwa [←h1]at h2⟩
    obtain ⟨st1,fp1,F1,h2,hS1,hF1,_,_⟩:=zbua hS2 hd nofun h;obtain ⟨st',V',fp',k1,k2,k3⟩:=zbwa (v:=undef) (fq:=none') hS1 hA rfl h2 trivial (fun _ hb=>hb);exact ⟨F1,st',V',fp',k1,k2,k3⟩
   ·simp[RM.run]at h
  ·simp[RM.run]at h
 ·obtain ⟨st',V',fp',k1,k2,k3⟩:=zbwa (v:=undef) (fq:=none') hS2 hA rfl h trivial (fun _ hb=>hb);exact ⟨F,st',V',fp',k1,k2,k3⟩
theorem zF0a {T:TypeId} {ad x:Operand} (hE:EnvTy P env) (ho:o.op = .store T ad x) (hS:SR e F w st V fp none') (hA:AR env gh a V) (hN:Nxt env gh e K res next) (h:(evOp env o).run C st K=some res):o.wp P a w next Q:=by
 simp only[evOp,ho,rdT]at h;obtain ⟨t,m,y,src,h1,hd,_⟩:=zhja hS hA h;obtain ⟨st1,fp1,fq,h2,hS1,hv,hm,hrep,hfl,_⟩:=zAsa hS hd h1;have h1':t.agg=false→one (a.eval x):=fun ha=>by
  have:=zJwa hrep hm ha;have hv':a.eval x=valOf t (cv (a.eval x)):=hv;rw[hv'];simp only[valOf,ha,Bool.false_eq_true,if_false];exact this
 have hsz:=zRTa hv h1';split at h2
 ·rename_i hT;simp only[Bool.and_eq_true]at hT;rcases zNRa hS1 hA h2 with ⟨r,p,h3,hal⟩|⟨t',y',b,k,h3,_⟩
  ·obtain ⟨m,fq,F,fl1,h3,hS1,hrep,hfq,hnJ,_⟩:=zVYa hS1 hrep (fun b hb => .inr hb) hT.2 h3;simp only[setAt,RM.run]at h3;split at h3
   ·rename_i t0 m0 x0 hr;split at h3
    ·rename_i u mu y0 hg;split at h3
     ·rename_i y' hc;split at h3
      ·rename_i m' x' hset;simp only[RM.run]at h3;obtain ⟨eu,hy⟩:=zdca hc;subst eu;simp only at hy;subst hy;obtain ⟨b,k,fold,e1,e2,e3,e4,P',e5,e6⟩:=zbka hS1 hal hr hg;have hrb:=(hal t0 m0 x0 hr).1;have hl:∀c∈(a.eval x).cells.toList,c.oneCell'=true:=by
        intro c hc;obtain ⟨j,hj,rfl⟩:=List.getElem_of_mem hc;have:=zaUa hrep hnJ j (by simpa[hsz] using hj);simpa[cv,Array.getD_eq_getD_getElem?,show j<(a.eval x).cells.size by simpa using hj] using this
       obtain ⟨c1,c2,c3⟩:=zaKa (v:=a.eval x) e6 hsz;have hrun:(execOp a.eval o).run P w = .ok .skip (w.setCells b k (a.eval x).cells.toList):=by
        simp only[execOp,ho,e1,Instr.storeAt,Instr.sureAddr,Sem.run_bind,Sem.run_pure,Result.andThen_ok,pure_bind,zGKa (Env.is_ok hE hT.1) e6 hsz hl]
       have hb:=(P'.lies b k rfl).1;have hrep':rep F (w.setCells b k (a.eval x).cells.toList) t m y (rowW (w.setCells b k (a.eval x).cells.toList) b k) fq:=by
        refine zEaa (fun j hj=>(c3 j hj).symm) (zxaa (fun _ hb=>hb) (fun b' hb'=>c1.1 b' ?_) (fun b' hb'=>c1.1 b' ?_) hrep)
        ·rintro rfl; exact hS1.notF _ _ hb hb'
        ·rintro rfl; exact hS1.flD _ _ hb (hfq _ hb')
       have hS2:=hS1.place hr (zPYa hrb e3) P' e4 e3 e2 hset (fun _ hb=>hb) c2 (zJua _ _ _ _) c1 hrep' (fun b hb => .inr (hfq b hb)) (fl':=none') (fun _ hb=>hb.elim) (fun b hb => .inl hb);obtain ⟨F',st',V',fp',k1,k2,k3⟩:=zHYa hS2 hA h3;exact zsRa hrun (hN _ _ _ _ _ _ k2 k3 k1)
      ·simp[RM.run]at h3
     ·simp[RM.run]at h3
    ·simp[RM.run]at h3
   ·simp[RM.run]at h3
  ·simp[RM.run]at h3
 ·simp[RM.run]at h2
theorem al_lz {val:Value} {r:Nat} {p:List PE} {t0:Ty} {m0:Md} {x0:t0.I} {T:TypeId} {t:Ty} {m:Md} {y:t.I} (hS:SR e F w st V fp fl) (hsv:LzOk w st V r p val) (hr0:st r = .v t0 m0 x0) (hg:getP t0 m0 x0 p=some ⟨.ptr T t,.o m,some y⟩) (hrb:rootB t0 (p++[.der])=true) :
  AlOk w st V r (p++[.der]) val:=by
 intro t1 m1 x1 h2;rw[hr0]at h2;cases h2;obtain ⟨a1,a2,u1,c1,ad,a3,a4⟩:=hsv t0 m0 x0 hr0;have hrr:=hS.sv r;rw[hr0]at hrr;obtain ⟨c2,ad2,fp2,b1,b2,b3⟩:=zrEa (ad:=none) hrr.2 hg a2 nofun;rw[a3]at b1;simp only[Option.some.injEq,Prod.mk.injEq]at b1;obtain ⟨rfl,rfl,rfl⟩:=b1;simp only[rep]at b2;obtain ⟨A,e1,ad',rfl,hsp,e2,e3,f,e4,e5⟩:=b2;obtain ⟨b,k,sp⟩:=ad';simp only at hsp;subst hsp;refine ⟨hrb,zlGa hg a1 (by simp[ownP]),zNOa hg a2 (by simp[inP]),t,rowW w b k,b,k,?_,?_⟩
 ·rw[znWa a3];simp only[rs,e1]
 ·rw[a4];simp only[valOf,Ty.agg,Bool.false_eq_true,if_false];exact e1
theorem zF1a {val:Value} {r:Nat} {p:List PE} {t0:Ty} {m0:Md} {x0:t0.I} (h:AlOk w st V r p val) (hr0:st r = .v t0 m0 x0):∃b k,val = .pointer (some ⟨b,k,none⟩):=by
 obtain ⟨_,_,_,_,_,b,k,_,h⟩:=h t0 m0 x0 hr0;exact ⟨b,k,h⟩
theorem zGOa {x:Operand} (ho:o.op = .nilCheck x) (hS:SR e F w st V fp none') (hA:AR env gh a V) (hN:Nxt env gh e K res next) (h:(evOp env o).run C st K=some res):wpp P o a w next:=by
 have hrun:∀A,a.eval x = .pointer (some A)→∀w,(execOp a.eval o).run P w = .ok (.value (a.eval x)) w:=by
  intro A hx;simp[execOp,ho,hx]
 simp only[evOp,ho]at h;obtain ⟨sv,h1,hx⟩:=zmfa h;rcases hx with ⟨s,rfl,hs,rfl⟩|⟨c,rfl,rfl⟩|⟨f,rfl,rfl⟩
 ·have hev:a.eval (.tmp s)=V (env.b+s):=hA.tmps s hs;have hsv:=hS.sv (env.b+s);split at h1
  ·rename_i T t y hst;rw[hst]at hsv;cases y with
   |none=>simp[RM.run]at h1
   |some y =>
    have hv:V (env.b+s)=valOf (.ptr T t) (cv (V (env.b+s))):=hsv.1 nofun;have hr:=hsv.2;simp only[rep]at hr;obtain ⟨A,e1,ad,rfl,_⟩:=hr;have:V (env.b+s) = .pointer (some ad):=by
     rw[hv];simp only[valOf,Ty.agg,Bool.false_eq_true,if_false];exact e1
    simp only[RM.run,Option.isSome_some,cond_true]at h1;exact endVp hS hA hN h1 (fun _=>by rw[hev]; exact hv) (by rw[hev]; exact rep_s (fp':=none') hsv.2) (fun _ hb=>hb) (hrun ad (by rw[hev]; exact this))
  ·rename_i T t m y hst;simp only[self]at h1;have hal:=zzYa hS hst;obtain ⟨b,k,hb⟩:=zF1a hal hst;exact endOp hS hA hN rfl h1 (fq:=none') (by rw[hev]; exact hal) (fun _ hb=>hb) (hrun _ (by rw[hev]; exact hb))
  ·rename_i r p hst;rw[hst]at hsv;simp only[memP,RM.run]at h1;split at h1
   ·rename_i t0 m0 x0 hr;split at h1
    ·obtain ⟨b,k,hb⟩:=zF1a hsv hr;exact endOp hS hA hN rfl h1 (fq:=none') (by rw[hev]; exact hsv) (fun _ hb=>hb) (hrun _ (by rw[hev]; exact hb))
    ·simp[RM.run]at h1
   ·simp[RM.run]at h1
  ·rename_i r p hst;rw[hst]at hsv;simp only[atP,RM.run]at h1;split at h1
   ·rename_i t0 m0 x0 hr;split at h1
    ·rename_i u mu y hg;split at h1
     ·simp only[memP,RM.run,hr]at h1;split at h1
      ·rename_i hrb;have hal:=al_lz hS hsv hr hg hrb;obtain ⟨b,k,hb⟩:=zF1a hal hr;exact endOp hS hA hN rfl h1 (fq:=none') (by rw[hev]; exact hal) (fun _ hb=>hb) (hrun _ (by rw[hev]; exact hb))
      ·simp[RM.run]at h1
     ·simp[RM.run]at h1
    ·simp[RM.run]at h1
   ·simp[RM.run]at h1
  ·simp[RM.run]at h1
 ·cases hc:cst env 0 c with
  |v t m y =>
   rw[hc]at h1;unfold cst at hc
   (repeat' split at hc)<;>cases hc<;>simp[RM.run]at h1
  |al r p=>unfold cst at hc; (repeat' split at hc)<;>cases hc
  |lz r p=>unfold cst at hc; (repeat' split at hc)<;>cases hc
  |_=>rw[hc]at h1; simp[RM.run]at h1
 ·simp[RM.run]at h1
theorem zQKa {S:TypeId} {x:Operand} {i:Nat} (hE:EnvTy P env) (ho:o.op = .fieldAddr S x i) (hS:SR e F w st V fp none') (hA:AR env gh a V) (hN:Nxt env gh e K res next) (h:(evOp env o).run C st K=some res):wpp P o a w next:=by
 have hrun:∀ {t:Ty} {m:Md} {y:t.I} {u:Ty} {mu:Md} {z:u.I} {b k:Nat},env.is S t=true→getP t m y [.fld i]=some ⟨u,mu,z⟩→Nat.beq u.size 0=false→a.eval x = .pointer (some ⟨b,k,none⟩) →
   ∃k',fldT t i=some (u,k')∧k'+u.size≤t.size∧∀w,(execOp a.eval o).run P w = .ok (.value (.pointer (some ⟨b,k+k',none⟩))) w:=by
  intro t m y u mu z b k hT hg hz hx;obtain ⟨k',f1,f2⟩:=zeYa hg;obtain ⟨fs,f,g1,g2,g3,g4⟩:=zM1a (Env.is_ok hE hT) f1;refine ⟨k',f1,f2,?_⟩;have hne:u.size≠0:=fun hc=>by rw[hc]at hz; cases hz
  intro w;simp only[execOp,ho,hx,Instr.fieldAt,Sem.run_bind,run_underlying g1,Result.andThen_ok,g2,Instr.sureAddr,Sem.run_pure,fieldPlace,zNga g4,hne,if_false,g3,zSfa]
 simp only[evOp,ho]at h;rcases zNRa hS hA h with ⟨r,p,h1,ha⟩|⟨t,y,b,k,h1,e1,e2,e3,e4⟩
 ·simp only[atP,RM.run]at h1;split at h1
  ·rename_i t0 m0 x0 hr;split at h1
   ·rename_i t m y hg;split at h1
    ·rename_i u mu z hT hf;split at h1
     ·rename_i hz;obtain ⟨a1,a2,a3,u1,c1,b,k,a4,a5⟩:=ha t0 m0 x0 hr;obtain ⟨b',k',fold,e1,e2,e3,e4,P',e5,e6⟩:=zbka hS ha hr hg;obtain ⟨kk,f1,f2,hr2⟩:=hrun hT hf hz e1;refine endOp (fq:=none') hS hA hN rfl h1 ?_ (fun _ hb=>hb) hr2;intro t1 m1 x1 h2;rw[hr]at h2;cases h2;have hrf:=zv0a (w:=w) (c:=rowW w b' k') (ad:=some (b',k')) f1;refine ⟨ztPa a1,zlGa hg e3 (zfKa (q:=[.fld i]) rfl hrf),zNOa hg e4 (zwMa (q:=[.fld i]) rfl hrf),u,fun j=>rowW w b' k' (kk+j),b',k'+kk,(znWa e2).trans hrf,rfl⟩
     ·simp[RM.run]at h1
    ·simp[RM.run]at h1
   ·simp[RM.run]at h1
  ·simp[RM.run]at h1
 ·split at h1
  ·rename_i u z hT hf;split at h1
   ·rename_i hz;obtain ⟨kk,f1,f2,hr2⟩:=hrun hT hf hz e1;refine endVp (fq:=none') hS hA hN h1 (fun _=>?_) ?_ (fun _ hb=>hb) hr2
    ·simp only[isV,valOf,Ty.agg,Bool.false_eq_true,if_false]; rfl
    ·simp only[rep];refine ⟨some ⟨b,k+kk,none⟩,rfl,⟨b,k+kk,none⟩,rfl,rfl,e4,?_,?_⟩
     ·obtain ⟨cs,el,fz,q1,q2,q3⟩:=e2;exact ⟨cs,el,fz,q1,by show k+kk+u.size≤cs.size; omega,q3⟩
     ·have hrf:=zv0a (w:=w) (c:=rowW w b k) (ad:=none) f1;obtain ⟨c',ad',fp',k1,k2,k3⟩:=zrEa (ad:=none) e3 hf (zwMa (q:=[.fld i]) rfl hrf) nofun;rw[hrf]at k1;simp only[Option.some.injEq,Prod.mk.injEq,true_and]at k1;obtain ⟨rfl,_⟩:=k1;rw[zMha]at k2;exact rep_s k2
   ·simp[RM.run]at h1
  ·simp[RM.run]at h1
end
end Go.Trm
namespace Go.Trm
theorem zU1a (l:List UInt8) (i:Nat) (h:i<l.length):(⟨l.toArray⟩:ByteArray)[i]?=some (l.getD i 0):=by
 have hsz:i<(⟨l.toArray⟩:ByteArray).size:=by show i<l.toArray.size; simpa using h
 rw[getElem?_pos (⟨l.toArray⟩:ByteArray) i hsz]
 congr 1
 show (l.toArray)[i]=_;simp[List.getD,h]
theorem zI1a {P:Program} {t:Ty} {T:TypeId} (h:wt P t T=true):∃d,P.underlying T=some d:=by
 cases hd:P.underlying T with
 |some d=>exact ⟨d,rfl⟩
 |none=>cases t<;>simp[wt,hd]at h
section
variable {P:Program} {env:Env} {e:Entry} {F:Blks} {w:World} {st:St} {V:Nat→Value} {fp:Nat→Blks} {fl:Blks} {a:Act} {o:Oper} {R:Type} {K:Unit→St→Option R} {res:R} {C:Cx R} {gh:Nat→Value} {next:Act→World→Prop} {Q:Exit→Act→World→Prop}
theorem znSa {i:Int} {n:Nat} (h:inB i n=true):0≤i∧i<n:=by
 simpa[inB] using h
theorem zXXa {l h:Int} {n:Nat} (h1:inR l h n=true):0≤l∧l≤h∧h≤n:=by
 simpa[inR] using h1
theorem zyXa {T:TypeId} {x i:Operand} (hE:EnvTy P env) (ho:o.op = .index T x i) (hS:SR e F w st V fp none') (hA:AR env gh a V) (hN:Nxt env gh e K res next) (h:(evOp env o).run C st K=some res):wpp P o a w next:=by
 simp only[evOp,ho]at h;obtain ⟨kd,n,h1,e1,r1⟩:=zkma hS hA h;obtain ⟨t,m,y,src,h2,hd,_⟩:=zhja hS hA h1;obtain ⟨hv,hm,fq,hrep,_⟩:=hd.rep hS;cases t with
 |str =>
  dsimp only at h2;split at h2
  ·rename_i hT;simp only[RM.run]at h2;cases hb:inB n (List.length y) with
   |false=>rw[hb]at h2; cases h2
   |true =>
    rw[hb]at h2;have hb':=znSa hb;have e2:=(zxHa hv hm hrep).1;have hlt:n.toNat<List.length (y:List UInt8):=by omega
    refine endVp (v := .int .u8 (bt y n)) hS hA hN h2 (fun _=>rfl) (zora ?_) (fun _ hb=>hb) ?_
    ·have:((List.getD y n.toNat (0:UInt8)).toNat)<256:=UInt8.toNat_lt _;unfold bt;constructor
     ·show IntKind.u8.min≤_;have:IntKind.u8.min=0:=by decide
      omega
     ·show _≤IntKind.u8.max;have:IntKind.u8.max=255:=by decide
      omega
    ·have hget:=zU1a y n.toNat hlt;intro w;simp only[execOp,ho,e1,e2,Instr.index,asIntOf,Sem.run_bind,Sem.run_pure,Result.andThen_ok,run_underlying (zgPa (Env.is_ok hE hT)),hb'.1,if_true,hget,bt]
  ·simp[RM.run]at h2
 |arr n0 u =>
  cases m with
  |s =>
  dsimp only at h2;split at h2
  ·rename_i hT;simp only[RM.run]at h2;cases hb:inB n n0 with
   |false=>rw[hb]at h2; cases h2
   |true =>
    rw[hb]at h2;have hb':=znSa hb;obtain ⟨el,g1,g2⟩:=zCYa (Env.is_ok hE hT);obtain ⟨cs,c1,c2,c3⟩:=zAYa hv rfl;simp only[rep]at hrep;obtain ⟨hn,fs,_,_,r⟩:=hrep;have hlt:n.toNat<n0:=by omega
    have hri:=r n.toNat hlt;have h1':u.agg=false→one (cv (a.eval x) (n.toNat * u.size+0)):=fun ha=>zJwa hri nofun ha
    have hle:n.toNat * u.size+u.size≤cs.size:=by
     rw[c2];simp only[Ty.size]
     calc n.toNat * u.size+u.size=(n.toNat+1)*u.size:=by rw[Nat.add_mul,Nat.one_mul]
      _≤n0*u.size:=Nat.mul_le_mul_right _ hlt
    have hp:=fun w=>zXTa (P:=P) (w:=w) (cs:=cs) g2 hle
    simp only[c3]at hp;refine endVp (fq:=none') hS hA hN h2 (fun _=>zOva h1') (rep_s (zEaa (fun j hj=>(zPxa h1' j hj).symm) hri)) (fun _ hb=>hb) ?_;rw[c1]at hp;intro w;simp only[execOp,ho,e1,c1,Instr.index,asIntOf,Sem.run_bind,Sem.run_pure,Result.andThen_ok,run_underlying g1,hb',and_self,if_true,zNga g2,hp]
  ·simp[RM.run]at h2
  |_=>simp[RM.run]at h2
 |_=>simp[RM.run]at h2
theorem zUVa {T:TypeId} {x i:Operand} {kd:IntKind} {n:Int} {r:Nat} {p:List PE} (hE:EnvTy P env) (ho:o.op = .indexAddr T x i) (hS:SR e F w st V fp none') (hA:AR env gh a V) (hN:Nxt env gh e K res next) (e1:a.eval i = .int kd n) (hal:AlOk w st V r p (a.eval x)) (h2:(zgZa env o T n r p).run C st K=some res):wpp P o a w next:=by
 unfold zgZa at h2;simp only[atP,RM.run]at h2;split at h2
 ·rename_i t0 m0 x0 hr;split at h2
  ·rename_i t mu y hg;split at h2
   ·rename_i n0 u y;split at h2
    ·rename_i hT;simp only[Bool.and_eq_true,Bool.not_eq_true']at hT;simp only[RM.run]at h2;cases hb:inB n n0 with
     |false=>rw[hb]at h2; cases h2
     |true =>
      rw[hb]at h2;have hb':=znSa hb;obtain ⟨b',k',fold,f1,f2,f3,f4,P',f5,f6⟩:=zbka hS hal hr hg;obtain ⟨el,g1,g2⟩:=zCYa (Env.is_ok hE hT.1);have hlen:List.length (y:List u.I)=n0:=by
       cases mu with
       |j=>cases hT.2
       |_=>simp only[rep]at f5; exact f5.1
      refine endOp (fq:=none') (v := .pointer (some ⟨b',k'+n.toNat * u.size,none⟩)) hS hA hN rfl h2 ?_ (fun _ hb=>hb) ?_
      ·intro t1 m1 x1 h3;rw[hr]at h3;cases h3;refine ⟨ztPa (hal _ _ _ hr).1,zlGa hg f3 ?_,zNOa hg f4 ?_,u,fun j=>rowW w b' k' (n.toNat * u.size+j),b',k'+n.toNat * u.size,?_,rfl⟩
       ·simp only[ownP]; exact ⟨hT.2,trivial⟩
       ·simp only[inP]; exact ⟨by rw[hlen]; omega,trivial⟩
       ·rw[znWa f2];simp only[rs,Option.map_some]
      ·intro w;simp only[execOp,ho,e1,f1,Instr.indexAt,asIntOf,Instr.sureAddr,Sem.run_bind,Sem.run_pure,Result.andThen_ok,run_underlying g1,hb',and_self,if_true,zNga g2,zSfa]
    ·simp[RM.run]at h2
   ·simp[RM.run]at h2
  ·simp[RM.run]at h2
 ·simp[RM.run]at h2
theorem zPKa {T:TypeId} {x i:Operand} (hE:EnvTy P env) (ho:o.op = .indexAddr T x i) (hS:SR e F w st V fp none') (hA:AR env gh a V) (hN:Nxt env gh e K res next) (h:(evOp env o).run C st K=some res):wpp P o a w next:=by
 simp only[evOp,ho]at h;obtain ⟨kd,n,h1,e1,r1⟩:=zkma hS hA h;have hgen:∀ {u:Ty} {et:TypeId} {A:Addr} {len cap:Nat},env.is T (.sl et u)=true→a.eval x = .slice (some A) len cap→0≤n→n<len→∀w,(execOp a.eval o).run P w = .ok (.value (.pointer (some (A.add (n.toNat * u.size))))) w:=by
  intro u et A len cap hT hx h0 hn;obtain ⟨g1,g2⟩:=wt_sl (Env.is_ok hE hT);intro w;simp only[execOp,ho,e1,hx,Instr.indexAt,asIntOf,Sem.run_bind,Sem.run_pure,Result.andThen_ok,run_underlying g1,h0,hn,and_self,if_true,zNga g2]
 have hsl:∀ {t:Ty} {m:Md} {y:t.I} {src:Src},DataX F w st V (a.eval x) t m y src→(idxA env o T n t m y src).run C st K=some res→wpp P o a w next:=by
  intro t m y src hd h2;obtain ⟨hv,hm,fq,hrep,_⟩:=hd.rep hS;unfold idxA at h2;split at h2
  ·rename_i et u y;split at h2
   ·rename_i hT;simp only[Bool.and_eq_true,Bool.not_eq_true']at hT;simp only[RM.run]at h2;cases hb:inB n (List.length y) with
    |false=>rw[hb]at h2; cases h2
    |true =>
     rw[hb]at h2;have hb':=znSa hb;have hlt:n.toNat<List.length (y:List u.I):=by omega
     have hval:a.eval x=cv (a.eval x) 0:=by
      have h2:a.eval x=valOf (.sl et u) (cv (a.eval x)):=hv;simpa only[valOf,Ty.agg,Bool.false_eq_true,if_false] using h2
     simp only[rep]at hrep;obtain ⟨A,cap,q1,q2,q3,q4,q5⟩:=hrep;cases A with
     |none=>have:=q4 rfl; omega
     |some A =>
      obtain ⟨hsp,q6,q7⟩:=q5 A rfl
      replace hsp:=hsp (by omega)
      obtain ⟨b,k,sp⟩:=A;simp only at hsp;subst hsp;have hus:u.size≠0:=fun hc=>by rw[hc]at hT; cases hT.2
      rcases q6 with q6|⟨q6,q8⟩
      ·rcases Nat.mul_eq_zero.1 q6 with q6|q6
       ·omega
       ·exact absurd q6 hus
      ·have hr:=hgen hT.1 (hval.trans q1) hb'.1 hb'.2;rw[zSfa]at hr;refine endVp (fq:=none') hS hA hN h2 (fun _=>?_) ?_ (fun _ hb=>hb) hr
       ·simp only[isV,valOf,Ty.agg,Bool.false_eq_true,if_false]; rfl
       ·simp only[rep];refine ⟨_,rfl,_,rfl,rfl,q6,?_,?_⟩
        ·obtain ⟨cs,el,fz,p1,p2,p3⟩:=q8;refine ⟨cs,el,fz,p1,?_,p3⟩;have:(n.toNat+1)*u.size≤List.length y*u.size:=Nat.mul_le_mul_right _ hlt;rw[Nat.add_mul,Nat.one_mul]at this;show k+n.toNat * u.size+u.size≤cs.size;simp only at p2;omega
        ·exact q7 n.toNat hlt
   ·simp[RM.run]at h2
  ·rename_i et u m' y;split at h2
   ·rename_i r p hT _;simp only[RM.run]at h2;cases hb:inB n (List.length y) with
    |false=>rw[hb]at h2; cases h2
    |true =>
     rw[hb]at h2;have hb':=znSa hb;have hlt:n.toNat<List.length (y:List u.I):=by omega
     obtain ⟨_,t0,m0,x0,d1,d2,d3,d4,c',ad,d5,d6⟩:=hd;simp only[memP,RM.run,d1,cond_true]at h2;split at h2
     ·rename_i hrb;have hrr:=hS.sv r;rw[d1]at hrr;obtain ⟨c2,ad2,fp2,b1,b2,b3⟩:=zrEa (ad:=none) hrr.2 d2 d4 nofun;rw[d5]at b1;simp only[Option.some.injEq,Prod.mk.injEq,true_and]at b1;obtain ⟨rfl,rfl⟩:=b1;simp only[rep]at b2;obtain ⟨A,cap,q1,q2,q3,q4,q5⟩:=b2;cases A with
      |none=>have:=q4 rfl; omega
      |some A =>
       obtain ⟨hsp,q6,q7,fs,q8,q9,q10⟩:=q5 A rfl
       replace hsp:=hsp (by omega)
       obtain ⟨b,k,sp⟩:=A;simp only at hsp;subst hsp;have hval:a.eval x=c' 0:=by
        rw[d6];simp only[valOf,Ty.agg,Bool.false_eq_true,if_false]
       have hr:=hgen hT (hval.trans q1) hb'.1 hb'.2;rw[zSfa]at hr;refine endOp (fq:=none') hS hA hN rfl h2 ?_ (fun _ hb=>hb) hr;intro t1 m1 x1 h3;rw[d1]at h3;cases h3;refine ⟨hrb,zlGa d2 d3 (by simp[ownP]),zNOa d2 d4 (by simp only[inP]; exact ⟨hlt,trivial⟩),u,rowW w b (k+n.toNat * u.size),b,k+n.toNat * u.size,?_,rfl⟩;rw[znWa d5];simp only[rs,q1]
     ·simp[RM.run]at h2
   ·simp[RM.run]at h2
  ·simp[RM.run]at h2
 obtain ⟨sv,h2,hx⟩:=zmfa h1;have hder:∀sv,(zlRa sv (self env x) fun t m y src=>idxA env o T n t m y src).run C st K=some res→((∃t,x = .tmp t∧t<env.n∧sv=st (env.b+t))∨(∃c,x = .const c∧sv=cst env T c)∨(∃f,x = .func f∧sv = .fn f [] []))→wpp P o a w next:=by
  intro sv h2 hx;have h3:(rdX env T x fun t m y src=>idxA env o T n t m y src).run C st K=some res:=by
   unfold rdX rdO;rcases hx with ⟨s,rfl,hs,rfl⟩|⟨c,rfl,rfl⟩|⟨f,rfl,rfl⟩
   ·have:Nat.blt s env.n=true:=Nat.ble_eq_true_of_le hs;simp only[this];exact h2
   ·exact h2
   ·exact h2
  obtain ⟨t,m,y,src,h4,hd,_⟩:=zc2a hS hA h3;exact hsl hd h4
 split at h2
 ·rename_i r p;have hal:AlOk w st V r p (a.eval x):=by
   rcases hx with ⟨s,rfl,hs,h3⟩|⟨c,rfl,h3⟩|⟨f,rfl,h3⟩
   ·have hev:a.eval (.tmp s)=V (env.b+s):=hA.tmps s hs;have hsv:=hS.sv (env.b+s);rw[←h3]at hsv;rw[hev];exact hsv
   ·unfold cst at h3; (repeat' split at h3)<;>cases h3
   ·cases h3
  exact zUVa hE ho hS hA hN e1 hal h2
 ·rcases zNRa hS hA h2 with ⟨r,p,h3,hal⟩|⟨_,_,_,_,h3,_⟩
  ·exact zUVa hE ho hS hA hN e1 hal h3
  ·simp[RM.run]at h3
 ·exact hder _ h2 hx
end
end Go.Trm
