import Derived.Test.YtjjoacepbndhhaaGreatTrmVRun
import Derived.KernelRfl
import Derived.Test.YtjjoacepbndhhaaGreatTrmG1
import Derived.Test.YtjjoacepbndhhaaGreatTrmWA
import Derived.Test.YtjjoacepbndhhaaGreatTrmPlain
set_option linter.unusedVariables false
set_option linter.unusedSimpArgs false
namespace Go.Trm.V
open Go.Trm.G1
def TotP {α:Type} (f:(R:Type)→(α→Option R)→Option R) (φ:α→Prop):Prop:=∃a,φ a∧∀R K,f R K=K a
theorem TotP.ret {α:Type} {φ:α→Prop} (a:α) (h:φ a):TotP (fun R (K:α→Option R)=>K a) φ:=⟨a,h,fun _ _=>rfl⟩
theorem TotP.bind {α β:Type} {φ:α→Prop} {ψ:β→Prop} {f:(R:Type)→(α→Option R)→Option R} {g:α→(R:Type)→(β→Option R)→Option R} (h:TotP f φ) (k:∀a,φ a→TotP (g a) ψ):TotP (fun R K=>f R (fun a=>g a R K)) ψ:=by
 obtain ⟨a,ha,e⟩:=h;obtain ⟨b,hb,e2⟩:=k a ha;exact ⟨b,hb,fun R K=>(e R _).trans (e2 R K)⟩
theorem TotP.cond {α:Type} {φ:α→Prop} {f g:(R:Type)→(α→Option R)→Option R} {b:Bool} (h:b=true→TotP f φ) (k:b=false→TotP g φ):TotP (fun R K=>cond b (f R K) (g R K)) φ:=by
 cases b with
 |true=>exact h rfl
 |false=>exact k rfl
theorem TotP.mono {α:Type} {φ ψ:α→Prop} {f:(R:Type)→(α→Option R)→Option R} (h:TotP f φ) (k:∀a,φ a→ψ a):TotP f ψ:=by
 obtain ⟨a,ha,e⟩:=h;exact ⟨a,k a ha,e⟩
theorem zT2a (n:Int):∃t:Option (Int×Int×Bool),∀(R:Type) (K:Int→Int→Bool→Bool→Option R),zBea n K=match t with
 |some a=>K a.1 a.2.1 a.2.2 true
 |none=>K 0 0 false false:=by
 have:TotP (fun R (K:Int×Int×Bool×Bool→Option R)=>zBea n fun a b d e=>K (a,b,d,e)) (fun t=>t.2.2.2=false→t.1=0∧t.2.1=0∧t.2.2.1=false):=by
  unfold zBea zbya
  try dsimp only
  repeat first
   |exact ⟨_,(fun h=>by first|exact ⟨rfl,rfl,rfl⟩|cases h),fun _ _=>rfl⟩
   |refine TotP.cond (fun _=>?_) (fun _=>?_)
 obtain ⟨⟨a,b,d,z⟩,h2,e⟩:=this;cases z with
 |true=>exact ⟨some (a,b,d),fun R K=>e R (fun t=>K t.1 t.2.1 t.2.2.1 t.2.2.2)⟩
 |false =>
  obtain ⟨h3,h4,h5⟩:=h2 rfl;simp only at h3 h4 h5;subst h3 h4 h5;exact ⟨none,fun R K=>e R (fun t=>K t.1 t.2.1 t.2.2.1 t.2.2.2)⟩
noncomputable def accF (n:Int):Option (Int×Int×Bool):=Classical.choose (zT2a n)
theorem zd0a:AccOk accF:=fun R n K=>Classical.choose_spec (zT2a n) R K
theorem zi0a (n:Int):∃t:Option (List Int×Int),(∀u,t=some u→u.1.length≤2)∧∀(R:Type) (K:List Int→Int→Bool→Option R),zpea n K=match t with
 |some u=>K u.1 u.2 true
 |none=>K [] 0 false:=by
 have:TotP (fun R (K:List Int×Int×Bool→Option R)=>zpea n fun a b d=>K (a,b,d)) (fun t=>(t.2.2=true→t.1.length≤2)∧(t.2.2=false→t.1=[]∧t.2.1=0)):=by
  unfold zpea zvwa
  try dsimp only
  repeat first
   |exact ⟨_,⟨fun _=>by simp,fun h=>by first|exact ⟨rfl,rfl⟩|cases h⟩,fun _ _=>rfl⟩
   |refine TotP.cond (fun _=>?_) (fun _=>?_)
 obtain ⟨⟨a,b,d⟩,⟨h1,h2⟩,e⟩:=this;cases d with
 |true=>exact ⟨some (a,b),(fun u hu=>by cases hu; exact h1 rfl),fun R K=>e R (fun t=>K t.1 t.2.1 t.2.2)⟩
 |false =>
  obtain ⟨h3,h4⟩:=h2 rfl;simp only at h3 h4;subst h3 h4;exact ⟨none,(fun u hu=>by cases hu),fun R K=>e R (fun t=>K t.1 t.2.1 t.2.2)⟩
noncomputable def typF (n:Int):Option (List Int×Int):=Classical.choose (zi0a n)
theorem zEZa:TypOk typF:=⟨fun n=>(Classical.choose_spec (zi0a n)).1,fun R n K=>(Classical.choose_spec (zi0a n)).2 R K⟩
theorem zi1a (n:Int):TotP (fun R (K:Int→Option R)=>zmva n K) (fun _=>True):=by
 have hb:∀a b c:Int,TotP (fun R (K:Bool→Option R)=>zada a b c K) (fun _=>True):=by
  intro a b c;unfold zada
  try dsimp only
  exact TotP.cond (fun _=>⟨_,trivial,fun _ _=>rfl⟩) (fun _=>⟨_,trivial,fun _ _=>rfl⟩)
 have hacc:TotP (fun R (K:Option (Int×Int×Bool)→Option R)=>K (accF n)) (fun _=>True):=⟨_,trivial,fun _ _=>rfl⟩
 unfold zmva
 try dsimp only
 iterate 47 (refine TotP.cond (fun _=>⟨_,trivial,fun _ _=>rfl⟩) (fun _=>?_))
 have e1:∀(R:Type) (K:Int→Int→Bool→Bool→Option R),zBea n K=match accF n with
  |some a=>K a.1 a.2.1 a.2.2 true
  |none=>K 0 0 false false:=fun R K=>zd0a R n K
 have e2:∀(R:Type) (K:List Int→Int→Bool→Option R),zpea n K=match typF n with
  |some u=>K u.1 u.2 true
  |none=>K [] 0 false:=fun R K=>zEZa.2 R n K
 simp only[e1,e2];cases accF n with
 |some a=>exact ⟨5,trivial,fun _ _=>rfl⟩
 |none =>
  cases typF n with
  |some u=>exact ⟨1,trivial,fun _ _=>rfl⟩
  |none =>
   simp only[cond_false]
   iterate 5 (refine TotP.bind (hb _ _ _) fun _ _=>TotP.cond (fun _=>⟨_,trivial,fun _ _=>rfl⟩) (fun _=>?_))
   exact ⟨0,trivial,fun _ _=>rfl⟩
theorem zwYa (x:Ins) (a b d:Bool) (q:Bool) (h:q=true→x.2.2.2.2.1.length≤64):TotP (fun R (K:Bool→Option R)=>zZba x a b d q K) (fun r=>r=true→x.2.2.2.2.1.length≤64):=by
 unfold zZba
 try dsimp only
 have h0:((x.2.2.2.2.1.length:Int)==0)=true→x.2.2.2.2.1.length≤64:=by
  intro h;have:=eq_of_beq h;omega
 repeat first
  |exact ⟨_,h0,fun _ _=>rfl⟩
  |exact ⟨false,(fun h=>nomatch h),fun _ _=>rfl⟩
  |exact ⟨true,fun _=>h (by assumption),fun _ _=>rfl⟩
  |refine TotP.cond (fun _=>?_) (fun _=>?_)
theorem zqWa {R:Type} (ls:List Int) (hl:ls.length≤most) (kf:Int→Option R) (kr:Bool→Option R) (hk:∀i:Nat,kf i=kr false):∀n i m:Nat,i+n=ls.length→n≤m→loopN (ztca kf (kr true)) (m+1) ⟨ls,(ls.length:Int),(i:Int)⟩=kr ((ls.drop i).all fun a=>decide (0≤a∧a<4294967296)):=by
 have hm:most=4294967296:=rfl;have step:∀rec (i:Nat),i<ls.length→ztca kf (kr true) rec ⟨ls,(ls.length:Int),(i:Int)⟩=if 0≤ls.getD i 0∧ls.getD i 0<4294967296 then rec ⟨ls,(ls.length:Int),((i+1:Nat):Int)⟩ else kr false:=by
  intro rec i hi;unfold ztca zdqa;simp only[zDaa,zkda,Int.toNat_natCast,cond_true];rw[if_pos (by omega),if_pos (by omega),w_i64 (by omega),hk];by_cases q1:ls.getD i 0<0
  ·rw[if_pos q1,if_neg (by omega)]
  ·rw[if_neg q1];by_cases q2:ls.getD i 0≥4294967296
   ·rw[if_pos q2,if_neg (by omega)]
   ·rw[if_neg q2,if_pos (by omega)];rfl
 intro n
 induction n with
 |zero =>
  intro i m h1 h2;rw[zaaa];unfold ztca;simp only[zDaa];rw[if_neg (by omega),List.drop_of_length_le (by omega)];rfl
 |succ n ih =>
  intro i m h1 h2;obtain ⟨m,rfl⟩:∃k,m=k+1:=⟨m-1,by omega⟩
  have:=ih (i+1) m (by omega) (by omega);rw[zaaa,step _ _ (by omega),zhza ls i 0 (by omega),List.all_cons,this];by_cases q:0≤ls.getD i 0∧ls.getD i 0<4294967296
  ·rw[if_pos q,decide_eq_true q,Bool.true_and]
  ·rw[if_neg q,decide_eq_false q,Bool.false_and]
theorem zgya (ls:List Int) (hl:ls.length≤most):TotP (fun R (K:Bool→Option R)=>zNea ls K) (fun _=>True):=by
 have hm:most=4294967296:=rfl;refine ⟨ls.all fun a=>decide (0≤a∧a<4294967296),trivial,fun R K=>?_⟩;obtain ⟨m,hf⟩:=zZva (ls.length+1) (by omega);have e:zpaa=m+ls.length+1:=by omega
 unfold zNea;rw[e];exact zqWa ls hl (fun w2=>K (!decide (w2≥0))) K (fun i=>by rw[decide_eq_true (by omega)]; rfl) ls.length 0 (m+ls.length) (by omega) (by omega)
theorem zKYa {R:Type} (T:Int→List Int→Option R) (P:Option R) (hT:∀x o,o.length≤10→T x o=P):∀(n m:Nat) (x:Int) (out:List Int),-64≤x→x<64*128 ^ n→out.length+n≤10→n≤m→loopN (znha T) (m+1) ⟨x,out⟩=P:=by
 have hm:most=4294967296:=rfl;intro n
 induction n with
 |zero =>
  intro m x out h1 h2 h3 h4;rw[zaaa];unfold znha;simp only[zDaa];rw[if_neg (by omega),if_neg (by omega)];exact hT x out (by omega)
 |succ n ih =>
  intro m x out h1 h2 h3 h4;obtain ⟨m,rfl⟩:∃k,m=k+1:=⟨m-1,by omega⟩
  rw[zaaa];by_cases q:x>63
  ·have hs:shrI .i64 x 7=x/128:=by
    unfold shrI;rw[Int.fdiv_eq_ediv_of_nonneg _ (by decide)];rfl
   have step:∀rec,∃o:List Int,o.length=out.length+1∧znha T rec ⟨x,out⟩=rec ⟨x/128,o⟩:=by
    intro rec;refine ⟨out++List.set (List.replicate 1 (0:Int)) 0 (IntKind.u8.wrap ((BitVec.ofInt IntKind.u8.bits (IntKind.u8.wrap x) ||| BitVec.ofInt IntKind.u8.bits (128:Int)).toNat)),by simp only[List.length_append,List.length_set,List.length_replicate],?_⟩;unfold znha;simp only[zDaa,hs];rw[if_neg (by omega),if_pos q,if_pos (by simp only[List.length_set,List.length_replicate]; omega),if_pos (by omega)]
   obtain ⟨o,ho,e⟩:=step (loopN (znha T) (m+1));rw[e];refine ih m (x/128) o (by omega) ?_ (by omega) (by omega);rw[Int.pow_succ]at h2;omega
  ·unfold znha;simp only[zDaa];rw[if_neg (by omega),if_neg q];exact hT x out (by omega)
theorem zMKa {R:Type} (x:Int) (h1 : -64≤x) (h2:x<4294967296) (P:Option R):zcqa [] x (fun _=>P)=P:=by
 have hm:most=4294967296:=rfl;unfold zcqa;have e:∀K:List Int→Option R,zcka [] K=K []:=by
  intro K;unfold zcka;have e:(List.replicate 0 (0:Int))=[]:=rfl;simp only[e,List.length_nil,zDaa,List.nil_append];rw[if_pos (by omega)];simp[zKaa]
 rw[e];obtain ⟨m,hf⟩:=zZva 5 (by omega);rw[hf];refine zKYa _ P (fun y o ho=>?_) 4 (m+4) x [] h1 (by omega) (by simp) (by omega);simp only[zDaa];rw[if_pos (by simp; omega)]
theorem zzZa (x:Int):TotP (fun R (K:Int→Option R)=>zIea [] x (fun _ r=>K r)) (fun _=>True):=by
 unfold zIea zUza;simp only[zoIa,zDaa,znwa];by_cases q1:x = -64
 ·exact ⟨0,trivial,fun R K=>by dsimp only; rw[if_pos q1,zMKa x (by omega) (by omega)]⟩
 by_cases q2:x = -1
 ·exact ⟨0,trivial,fun R K=>by dsimp only; rw[if_neg q1,if_pos q2,zMKa x (by omega) (by omega)]⟩
 by_cases q3:x = -2
 ·exact ⟨0,trivial,fun R K=>by dsimp only; rw[if_neg q1,if_neg q2,if_pos q3,zMKa x (by omega) (by omega)]⟩
 by_cases q4:x≥0
 ·by_cases q5:x<4294967296
  ·exact ⟨0,trivial,fun R K=>by dsimp only; rw[if_neg q1,if_neg q2,if_neg q3,if_pos q4,if_pos q5,zMKa x (by omega) (by omega)]⟩
  ·exact ⟨2,trivial,fun R K=>by dsimp only; rw[if_neg q1,if_neg q2,if_neg q3,if_pos q4,if_neg q5]⟩
 ·exact ⟨2,trivial,fun R K=>by dsimp only; rw[if_neg q1,if_neg q2,if_neg q3,if_neg q4]; rfl⟩
theorem zvMa (x:Ins) (hl:x.2.2.2.2.1.length≤most):TotP (fun R (K:Bool→Option R)=>zOea x K) (fun r=>r=true→x.2.2.2.2.1.length≤64):=by
 have hm:most=4294967296:=rfl;have bt:=fun a b d=>zwYa x a b d false (fun h=>by cases h)
 have no:TotP (fun R (K:Bool→Option R)=>K false) (fun r=>r=true→x.2.2.2.2.1.length≤64):=⟨false,(fun h=>nomatch h),fun _ _=>rfl⟩
 unfold zOea;refine TotP.bind (zi1a x.1) fun r _=>?_
 try dsimp only
 refine TotP.cond (fun _=>bt _ _ _) (fun _=>?_);refine TotP.cond (fun _=>bt _ _ _) (fun _=>?_);refine TotP.cond (fun _=>bt _ _ _) (fun _=>?_);refine TotP.cond (fun _=>TotP.bind (zzZa x.2.1) fun r _=>TotP.cond (fun _=>bt _ _ _) (fun _=>no)) (fun _=>?_);refine TotP.cond (fun _=>TotP.bind (zgya _ (by simp; omega)) fun r _=>TotP.cond (fun _=>bt _ _ _) (fun _=>no)) (fun _=>?_);refine TotP.cond (fun _=>TotP.bind (zgya _ (by simp; omega)) fun r _=>TotP.cond (fun _=>bt _ _ _) (fun _=>no)) (fun _=>?_);refine TotP.cond (fun _=>TotP.bind (zgya _ (by simp; omega)) fun r _=>TotP.cond (fun _=>TotP.bind (zgya _ hl) fun r _=>TotP.cond (fun _=>TotP.cond (fun h=>zwYa x _ _ _ true (fun _=>?_)) (fun _=>no)) (fun _=>no)) (fun _=>no)) (fun _=>?_)
 ·have:=of_decide_eq_true h;omega
 refine TotP.cond (fun _=>TotP.bind (zgya _ (by simp; omega)) fun r _=>TotP.cond (fun _=>bt _ _ _) (fun _=>no)) (fun _=>?_);refine TotP.cond (fun _=>TotP.cond (fun _=>TotP.cond (fun _=>bt _ _ _) (fun _=>no)) (fun _=>no)) (fun _=>?_);exact TotP.cond (fun _=>bt _ _ _) (fun _=>no)
end Go.Trm.V
namespace Go.Trm.V
open Go.Trm.G1
noncomputable def zCaa (x:Ins):Bool:=if h:x.2.2.2.2.1.length≤most then Classical.choose (zvMa x h) else false
theorem zZya (x:Ins) (h:zCaa x=true):x.2.2.2.2.1.length≤64:=by
 unfold zCaa at h;split at h
 ·rename_i hl;exact (Classical.choose_spec (zvMa x hl)).1 h
 ·cases h
theorem zYVa {R:Type} (x:Ins) (h:x.2.2.2.2.1.length≤most) (K:Bool→Option R):zOea x K=K (zCaa x):=by
 have:=(Classical.choose_spec (zvMa x h)).2 R K;unfold zCaa;rw[dif_pos h];exact this
section
variable {R:Type}
theorem zk2a (n:List Bool) (hn:n.length≤64) (x:Ins) (K:Bool→Int→(List Bool×Unit)→Option R):match nest n x with
  | .bad=>∃e s,e≠0∧zica (n.reverse,()) x K=K false e s
  | .over=>zica (n.reverse,()) x K=K true 0 (n.reverse,())
  | .go n'=>zica (n.reverse,()) x K=K false 0 (n'.reverse,()):=by
 have hm:most=4294967296:=rfl;have hw:IntKind.i64.wrap ((n.length:Int)-1)=(n.length:Int)-1:=w_i64 (by omega);have hun:zica (n.reverse,()) x K=if x.1=2∨x.1=3∨x.1=4 then (if (n.length:Int)≥64 then K false 4 (n.reverse,()) else K false 0 ((decide (x.1=4)::n).reverse,())) else if x.1=5 then (zrda (fun w26 w27 w28=>K w26 w27 w28) (fun w29 w30=>cond (inB w29 (List.length w30.1)) (K false 0 ((List.set w30.1 w29.toNat false),w30.2)) none) ⟨(n.length:Int)-1,(n.reverse,())⟩) else if x.1=11 then (if (n.length:Int)-1<0 then K true 0 (n.reverse,()) else if 0≤(0:Int)∧0≤(n.length:Int)-1∧(n.length:Int)-1≤n.length then K false 0 (rng n.reverse 0 ((n.length:Int)-1),()) else none) else K false 0 (n.reverse,()):=by
  unfold zica zqda;have e4:(x.1==4)=decide (x.1=4):=rfl;have e5:∀b:Bool,n.reverse++List.set (List.replicate 1 false) 0 b=(b::n).reverse:=fun b=>by simp[List.replicate]
  simp only[znCa,zDaa,znza,List.length_reverse,hw,List.length_set,List.length_replicate,e4,e5];by_cases h2:x.1=2
  ·rw[if_pos h2,if_pos (Or.inl h2)];by_cases h:(n.length:Int)≥64
   ·rw[if_pos h,if_pos h]
   ·rw[if_neg h,if_neg h,if_pos (by omega)]
  rw[if_neg h2];by_cases h3:x.1=3
  ·rw[if_pos h3,if_pos (Or.inr (Or.inl h3))];by_cases h:(n.length:Int)≥64
   ·rw[if_pos h,if_pos h]
   ·rw[if_neg h,if_neg h,if_pos (by omega)]
  rw[if_neg h3];by_cases h4:x.1=4
  ·rw[if_pos h4,if_pos (Or.inr (Or.inr h4))];by_cases h:(n.length:Int)≥64
   ·rw[if_pos h,if_pos h]
   ·rw[if_neg h,if_neg h,if_pos (by omega)]
  rw[if_neg h4,if_neg (show ¬(x.1=2∨x.1=3∨x.1=4) by omega)]
 rw[hun];unfold nest;by_cases h2:x.1=2∨x.1=3∨x.1=4
 ·rw[if_pos h2,if_pos h2];by_cases h:64≤n.length
  ·rw[if_pos h];exact ⟨4,(n.reverse,()),by omega,by rw[if_pos (by omega)]⟩
  ·rw[if_neg h];dsimp only;rw[if_neg (by omega)]
 rw[if_neg h2,if_neg h2];by_cases h5:x.1=5
 ·rw[if_pos h5,if_pos h5];unfold zrda;simp only[zDaa,zkda,znwa];cases n with
  |nil =>
   dsimp only;exact ⟨2,([].reverse,()),by omega,by rw[if_pos (by simp)]⟩
  |cons b n =>
   have e1:(((b::n).length:Nat):Int)-1=(n.length:Int):=by simp
   have e2:(b::n).reverse.getD n.length false=b:=by
    rw[List.reverse_cons,List.getD_eq_getElem?_getD,List.getElem?_append_right (by simp)];simp
   have e3:List.set (b::n).reverse n.length false=(false::n).reverse:=by
    rw[List.reverse_cons,List.set_append_right _ _ (by simp)];simp
   have e4:(0:Int)≤(n.length:Int)∧(n.length:Int)<(((b::n).reverse.length:Nat):Int):=by simp; omega
   rw[e1];simp only[Int.toNat_natCast,e2,e3,if_pos e4];cases b with
   |true =>
    dsimp only;rw[if_neg (by omega)];rfl
   |false =>
    dsimp only;exact ⟨2,((false::n).reverse,()),by omega,by rw[if_neg (by omega)]; rfl⟩
 rw[if_neg h5,if_neg h5];by_cases h11:x.1=11
 ·rw[if_pos h11,if_pos h11];cases n with
  |nil =>
   dsimp only;rw[if_pos (by simp)]
  |cons b n =>
   dsimp only;have e1:(((b::n).length:Nat):Int)-1=(n.length:Int):=by simp
   rw[e1,if_neg (by omega),if_pos (by simp; omega),zkXa]
 ·rw[if_neg h11,if_neg h11]
theorem zVWa (ls:List Ins) (hl:ls.length≤2000) (hx:∀x∈ls,x.2.2.2.2.1.length≤most) (K:Bool→Option R):∀(rest:List Ins) (i m:Nat) (n:List Bool),ls.drop i=rest→i+rest.length=ls.length→rest.length≤m→n.length≤64→loopN (zsda (fun w4=>K w4) (K false)) (m+1) ⟨ls,(n.reverse,()),ls,(ls.length:Int),(i:Int)⟩=K (zBba zCaa rest n):=by
 have hm:most=4294967296:=rfl;intro rest
 induction rest with
 |nil =>
  intro i m n hd hi h hn;simp only[List.length_nil]at hi;rw[zaaa];unfold zsda;simp only[zDaa];rw[if_neg (by omega)];rfl
 |cons x xs ih =>
  intro i m n hd hi h hn;simp only[List.length_cons]at hi h;obtain ⟨m,rfl⟩:∃k,m=k+1:=⟨m-1,by omega⟩
  have hg:ls.getD i (0,0,0,0,[],())=x∧ls.drop (i+1)=xs:=by
   rw[zhza ls i (0,0,0,0,[],()) (by omega)]at hd
   injection hd with a b
   exact ⟨a,b⟩
  have hmem:x∈ls:=by
   have:x∈ls.drop i:=by rw[hd]; exact List.mem_cons_self ..
   exact List.mem_of_mem_drop this
  have step:∀rec,zsda (fun w4=>K w4) (K false) rec ⟨ls,(n.reverse,()),ls,(ls.length:Int),(i:Int)⟩=if zCaa x=true then zica (n.reverse,()) x (fun r5 r6 b7=>if r6=0 then (cond r5 (K ((i:Int)==(ls.length:Int)-1)) (rec ⟨ls,b7,ls,(ls.length:Int),((i+1:Nat):Int)⟩)) else K false) else K false:=by
   intro rec;unfold zsda;simp only[zDaa,zkda,znwa,zoIa,Int.toNat_natCast];rw[if_pos (by omega),if_pos (by omega),hg.1,zYVa x (hx x hmem),w_i64 (n:=(i:Int)+1) (by omega),w_i64 (n:=(ls.length:Int)-1) (by omega)];cases zCaa x with
   |true=>rfl
   |false=>rfl
  rw[zaaa,step];show _=K (if zCaa x=true then _ else false);by_cases hf:zCaa x=true
  ·rw[if_pos hf,if_pos hf];have hne:=zk2a n hn x (fun r5 r6 b7=>if r6=0 then (cond r5 (K ((i:Int)==(ls.length:Int)-1)) (loopN (zsda (fun w4=>K w4) (K false)) (m+1) ⟨ls,b7,ls,(ls.length:Int),((i+1:Nat):Int)⟩)) else K false);cases hn2:nest n x with
   |bad =>
    rw[hn2]at hne;obtain ⟨e,s,he,hh⟩:=hne;rw[hh,if_neg he]
   |over =>
    rw[hn2]at hne;dsimp only at hne ⊢;rw[hne,if_pos rfl,cond_true]
    congr 1
    rw[Bool.eq_iff_iff];simp only[beq_iff_eq,List.isEmpty_iff];constructor
    ·intro hq; exact List.eq_nil_of_length_eq_zero (by omega)
    ·intro hq; rw[hq]at hi; simp at hi; omega
   |go n' =>
    rw[hn2]at hne;dsimp only at hne ⊢;rw[hne,if_pos rfl,cond_false];refine ih (i+1) m n' hg.2 (by omega) (by omega) ?_;unfold nest at hn2;split at hn2
    ·split at hn2
     ·cases hn2
     ·injection hn2 with hn2
      rw[←hn2]; simp; omega
    ·split at hn2
     ·split at hn2
      ·injection hn2 with hn2
       rw[←hn2]; simpa using hn
      ·cases hn2
     ·split at hn2
      ·split at hn2
       ·cases hn2
       ·injection hn2 with hn2
        rw[←hn2]; simp at hn; omega
      ·injection hn2 with hn2
       rw[←hn2]; exact hn
  ·rw[if_neg hf,if_neg hf]
theorem zuZa (ls:List Ins) (hx:∀x∈ls,x.2.2.2.2.1.length≤most) (K:Bool→Option R):zMoa ls K=K (zFra zCaa ls):=by
 unfold zMoa zFra;simp only[zDaa];by_cases h:ls.length≤2000
 ·rw[if_neg (by omega),decide_eq_true h,Bool.true_and];obtain ⟨m,hf⟩:=zZva (ls.length+1) (by omega);have e:zpaa=m+ls.length+1:=by omega
  rw[e];exact zVWa ls h hx K ls 0 (m+ls.length) [] rfl (by omega) (by omega) (by simp)
 ·rw[if_pos (by omega),decide_eq_false h,Bool.false_and]
structure Fits (B:Nat) (c:Ctx) (f:Int×List Int×List Ins×Unit):Prop where
 one:1≤B
 ctx:CtxOk B c
 room:2*B+2000*G B≤most
 loc:f.2.1.length+B≤most
 lab:∀x∈f.2.2.1,x.2.2.2.2.1.length≤most
theorem zpza {B:Nat} {c:Ctx} {f:Int×List Int×List Ins×Unit} (h:Fits B c f) (K:Int→Option R):zXaa c f K=K (V.body zCaa accF typF c f):=by
 have hm:most=4294967296:=rfl;have hroom:=h.room;have hB:B≤most:=by omega
 unfold zXaa V.body;simp only[zDaa];by_cases h1:f.1<0
 ·rw[if_pos h1,if_pos (Or.inl h1)]
 rw[if_neg h1];by_cases h2:f.1≥(c.1.length:Int)
 ·rw[if_pos h2,if_pos (Or.inr h2)]
 rw[if_neg h2,if_neg (by omega),zuZa _ h.lab];simp only[znwa];by_cases h3':zFra zCaa f.2.2.1=false
 ·rw[h3',cond_false,if_neg (by simp)]
 have h3:zFra zCaa f.2.2.1=true:=by simpa using h3'
 rw[if_pos h3,h3,cond_true,zkda,if_pos (by omega)];have hg:=zQwa h.ctx f.1.toNat;have hv:List.set (List.set (List.replicate 2 ([]:List Int)) 0 (c.1.getD f.1.toNat ([],[],())).1) 1 f.2.1=[(c.1.getD f.1.toNat ([],[],())).1,f.2.1]:=rfl;have hl:=h.loc;rw[hv,ztZa _ _ (by omega)];have he:=zvVa (R:=R) (c:=c) (l:=(c.1.getD f.1.toNat ([],[],())).1++f.2.1) ([],[]) 2 [] (c.1.getD f.1.toNat ([],[],())).2.1 (by simp) (by simp; omega);have e0:(c,((c.1.getD f.1.toNat ([],[],())).1++f.2.1,(([]:List Int),(([]:List Blk),()))))=emb c ((c.1.getD f.1.toNat ([],[],())).1++f.2.1) ([],[]):=rfl;rw[e0,he];unfold zFra at h3;rw[Bool.and_eq_true]at h3;have hlen:=of_decide_eq_true h3.1;have:=zR0a (c:=c) (l:=(c.1.getD f.1.toNat ([],[],())).1++f.2.1) (0,0,0,0,[],()) (zxwa (fun y12 (_:Int)=>K y12) (fun _=>K (0:Int))) (fun i s=>⟨(0:Int),s,f.2.2.1,(f.2.2.1.length:Int),i⟩) (fun x s K Kp=>zSaa s x K Kp) (instr accF typF c ((c.1.getD f.1.toNat ([],[],())).1++f.2.1)) (run accF typF c ((c.1.getD f.1.toNat ([],[],())).1++f.2.1)) rfl (fun _ _=>rfl)
  (fun y _=>K y) (fun _=>K 0) f.2.2.1 (by omega) (fun rec i s=>rfl) (Rest B zCaa)
  (fun x rest v hr=>by
   obtain ⟨r1,⟨S,r2,r3⟩,r4⟩:=Rest.step (l:=(c.1.getD f.1.toNat ([],[],())).1++f.2.1) zZya (acc:=accF) (typ:=typF) h.one h.ctx hr;exact ⟨zj3a zd0a zEZa h.one h.ctx hB x r1 S v r2 r3,r4⟩)
  ([],[(2,[],(c.1.getD f.1.toNat ([],[],())).2.1,0,false,())])
  (Or.inr ⟨[],0,h3.2,rfl,by simp,⟨⟨by simp,by simp,trivial⟩,by simp,by
   intro b hb;rw[List.mem_singleton]at hb;subst hb;exact ⟨by simp,hg.2⟩⟩,by
   have:f.2.2.1.length*G B≤2000*G B:=Nat.mul_le_mul_right _ hlen;omega⟩)
 dsimp only at this ⊢;cases hr:run accF typF c ((c.1.getD f.1.toNat ([],[],())).1++f.2.1) f.2.2.1 ([],[(2,[],(c.1.getD f.1.toNat ([],[],())).2.1,0,false,())]) with
 |ok q=>rw[hr]at this; exact this
 |error e =>
  rw[hr]at this;obtain ⟨k,this⟩:=this;exact this
end
end Go.Trm.V
namespace Go.Trm.V
def ble (b b':Blk):Prop:=b'.1=b.1∧b'.2.1=b.2.1∧b'.2.2.1=b.2.2.1∧b'.2.2.2.1=b.2.2.2.1∧(b.2.2.2.2.1=true→b'.2.2.2.2.1=true)
def le2:List Blk→List Blk→Prop
 |[],[]=>True
 |b::o,b'::o'=>ble b b'∧le2 o o'
 |_,_=>False
theorem zLXa:∀ {o o':List Blk},le2 o o'→o'.length=o.length
 |[],[],_=>rfl
 |_::_,_::_,h=>by simp only[List.length_cons]; rw[zLXa h.2]
 |[],_::_,h=>h.elim
 |_::_,[],h=>h.elim
def bot (res:List Int):List Blk→Prop
 |[]=>True
 |[b]=>b.1≠4∧b.2.2.1=res∧b.2.2.2.1=0
 |_::b::o=>bot res (b::o)
theorem zyVa {res:List Int} {b:Blk} {o:List Blk} (h:bot res o) (hb:o=[]→b.1≠4∧b.2.2.1=res∧b.2.2.2.1=0):bot res (b::o):=by
 cases o with
 |nil=>exact hb rfl
 |cons=>exact h
theorem zrYa {res:List Int} {b:Blk} {o:List Blk} (h:bot res (b::o)):bot res o∧(o=[]→b.1≠4∧b.2.2.1=res∧b.2.2.2.1=0):=by
 cases o with
 |nil=>exact ⟨trivial,fun _=>h⟩
 |cons=>exact ⟨h,fun e=>by cases e⟩
structure Rel0 (e:List Blk) (res:List Int) (v v':VS):Prop where
 st:v'.1=v.1
 bl:∃o',v'.2=o'++e∧le2 v.2 o'
 bot:bot res v.2
structure Rel (e:List Blk) (res:List Int) (v v':VS):Prop extends Rel0 e res v v' where
 ne:v.2≠[]
def SR (e:List Blk) (res:List Int) {α:Type} (f f':M α) (ρ:α→α→Prop):Prop:=∀v v' a w,Rel e res v v'→f v = .ok (a,w)→∃a' w',f' v' = .ok (a',w')∧ρ a a'∧Rel e res w w'
section
variable {e:List Blk} {res:List Int}
theorem SR.ret {α:Type} {ρ:α→α→Prop} {a a':α} (h:ρ a a'):SR e res (ret a) (V.ret a') ρ:=by
 intro v v' b w hr hf;cases hf;exact ⟨a',v',rfl,h,hr⟩
theorem SR.bind {α β:Type} {ρ:α→α→Prop} {σ:β→β→Prop} {f f':M α} {g g':α→M β} (h:SR e res f f' ρ) (k:∀a a',ρ a a'→SR e res (g a) (g' a') σ):SR e res (V.bind f g) (V.bind f' g') σ:=by
 intro v v' b w hr hf;obtain ⟨a,v1,e1,e2⟩:=znga hf;obtain ⟨a',w1,e3,h3,r3⟩:=h v v' a v1 hr e1;obtain ⟨b',w2,e4,h4,r4⟩:=k a a' h3 v1 w1 b w r3 e2;refine ⟨b',w2,?_,h4,r4⟩;unfold V.bind;rw[e3];exact e4
theorem SR.want {b b':Bool} {n:Int} (h:b=true→b'=true):SR e res (want b n) (V.want b' n) Eq:=by
 intro v v' u w hr hf;unfold V.want at hf ⊢;split at hf
 ·rename_i hb;cases hf;exact ⟨(),v',by rw[if_pos (h hb)],rfl,hr⟩
 ·cases hf
theorem SR.has {n m m':Int} (h:m≤m'):SR e res (has n m) (V.has n m') Eq:=SR.want fun hb=>decide_eq_true (by have:=of_decide_eq_true hb; omega)
theorem SR.fails {α:Type} {n:Int} {f:M α} {ρ:α→α→Prop}:SR e res (fails n) f ρ:=fun _ _ _ _ _ h=>by cases h
theorem Rel.top {s:List Int} {b:Blk} {o:List Blk} {v':VS} (h:Rel e res (s,b::o) v'):∃b' o',v'=(s,b'::(o'++e))∧ble b b'∧le2 o o':=by
 obtain ⟨⟨h1,⟨o',h2,h3⟩,h4⟩,h5⟩:=h;cases o' with
 |nil=>exact h3.elim
 |cons b' o'=>exact ⟨b',o',Prod.ext h1 h2,h3.1,h3.2⟩
theorem SR.pop (t:Int):SR e res (pop t) (V.pop t) Eq:=by
 intro v v' a w hr hf;obtain ⟨s,o⟩:=v;cases o with
 |nil=>exact absurd rfl hr.ne
 |cons b o =>
  obtain ⟨b',o',rfl,hb,ho⟩:=hr.top;unfold V.pop at hf ⊢;dsimp only at hf ⊢;rw[hb.2.2.2.1];split at hf
  ·rename_i h1;split at hf
   ·rename_i h2;cases hf;exact ⟨0,(s,b'::(o'++e)),by rw[if_pos h1,if_pos (hb.2.2.2.2 h2)],rfl,hr⟩
   ·cases hf
  ·rename_i h1;cases s with
   |nil=>cases hf
   |cons x s =>
    dsimp only at hf ⊢;split at hf
    ·rename_i h2;cases hf;exact ⟨_,(s,b'::(o'++e)),by rw[if_neg h1,if_pos h2],rfl,⟨⟨rfl,⟨b'::o',rfl,hb,ho⟩,hr.bot⟩,by simp⟩⟩
    ·cases hf
theorem SR.popsR:∀l:List Int,SR e res (popsR l) (V.popsR l) Eq
 |[]=>SR.ret rfl
 |t::ts=>(SR.pop t).bind fun x x' hx=>(SR.popsR ts).bind fun y y' hy=>by subst hx hy; exact SR.ret rfl
theorem SR.pops (l:List Int):SR e res (pops l) (V.pops l) Eq:=(SR.popsR _).bind fun x x' hx=>by subst hx; exact SR.ret rfl
theorem SR.push (l:List Int):SR e res (push l) (V.push l) Eq:=by
 intro v v' a w hr hf;cases hf;obtain ⟨⟨h1,h2,h3⟩,h4⟩:=hr;exact ⟨(),_,rfl,rfl,⟨⟨by dsimp only; rw[h1],h2,h3⟩,h4⟩⟩
theorem SR.does (l r:List Int):SR e res (does l r) (V.does l r) Eq:=(SR.pops l).bind fun _ _ _=>SR.push r
theorem SR.enter (op:Int) (l r:List Int):SR e res (enter op l r) (V.enter op l r) Eq:=by
 intro v v' a w hr hf;cases hf;obtain ⟨⟨h1,⟨o',h2,h3⟩,h4⟩,h5⟩:=hr;refine ⟨(),_,rfl,rfl,⟨⟨by dsimp only; rw[h1],⟨(op,l,r,(v'.1.length:Int),false,())::o',by dsimp only; rw[h2]; rfl,⟨rfl,rfl,rfl,by dsimp only; rw[h1],id⟩,h3⟩,?_⟩,by simp⟩⟩;dsimp only;exact zyVa h4 fun hc=>absurd hc h5
theorem SR.dead:SR e res dead V.dead Eq:=by
 intro v v' a w hr hf;obtain ⟨s,o⟩:=v;cases o with
 |nil=>exact absurd rfl hr.ne
 |cons b o =>
  obtain ⟨b',o',rfl,hb,ho⟩:=hr.top;unfold V.dead at hf ⊢;dsimp only at hf ⊢;cases hf;have hbot:=zrYa hr.bot;refine ⟨(),_,rfl,rfl,⟨⟨by dsimp only; rw[hb.2.2.2.1],⟨(b'.1,b'.2.1,b'.2.2.1,b'.2.2.2.1,true,())::o',rfl,⟨hb.1,hb.2.1,hb.2.2.1,hb.2.2.2.1,fun _=>rfl⟩,ho⟩,?_⟩,by simp⟩⟩;exact zyVa hbot.1 hbot.2
theorem zA2a {b b':Blk} (h:ble b b'):lab b'=lab b:=by
 unfold lab;rw[h.1,h.2.1,h.2.2.1]
theorem zTZa:∀ {o o':List Blk},le2 o o'→∀(n:Nat) (d:Blk) (e:List Blk),n<o.length→ble (o.getD n d) ((o'++e).getD n d)
 |[],[],_,n,_,_,h=>absurd h (Nat.not_lt_zero _)
 |b::o,b'::o',hl,0,d,e,h=>hl.1
 |b::o,b'::o',hl,n+1,d,e,h=>by
  have:=zTZa hl.2 n d e (by simpa using h);simpa using this
 |[],_::_,h,_,_,_,_=>h.elim
 |_::_,[],h,_,_,_,_=>h.elim
theorem SR.label (n:Int):SR e res (label n) (V.label n) Eq:=by
 intro v v' a w hr hf;unfold V.label at hf ⊢;split at hf
 ·rename_i h;cases hf;obtain ⟨o',h2,h3⟩:=hr.bl;have hl:=zLXa h3;refine ⟨_,v',by rw[if_pos ⟨h.1,by rw[h2,List.length_append]; omega⟩],?_,hr⟩;rw[h2];exact (zA2a (zTZa h3 _ _ _ (by omega))).symm
 ·cases hf
theorem SR.labelsEach:∀l:List Int,SR e res (zMba l) (V.zMba l) Eq
 |[]=>SR.ret rfl
 |n::l=>(SR.label n).bind fun _ _ _=>SR.labelsEach l
theorem SR.popsEach (k:Nat):∀l:List Int,SR e res (zoea k l) (V.zoea k l) Eq
 |[]=>SR.ret rfl
 |n::l=>(SR.label n).bind fun t t' ht=>by
  subst ht;exact (SR.want id).bind fun _ _ _=>(SR.pops t).bind fun r r' hr=>by
   subst hr;exact (SR.push r).bind fun _ _ _=>SR.popsEach k l
theorem SR.table (x:Ins):SR e res (table x) (V.table x) Eq:=(SR.label _).bind fun a a' ha=>by
 subst ha;exact (SR.labelsEach _).bind fun _ _ _=>(SR.pop 127).bind fun _ _ _=>(SR.popsEach _ _).bind fun _ _ _=>(SR.pops a).bind fun _ _ _=>SR.dead
def Below (res:List Int) (e:List Blk):Prop:=∀b,e.getLast?=some b→b.2.2.1=res
theorem zsYa {res:List Int}:∀ {o:List Blk} {b:Blk},bot res o→o.getLast?=some b→b.2.2.1=res
 |[],_,_,h=>by cases h
 |[b],c,hb,h=>by cases h; exact hb.2.1
 |_::b::o,c,hb,h=>zsYa (o:=b::o) hb (by rw[List.getLast?_cons_cons]at h; exact h)
theorem zMXa:∀ {o o':List Blk},le2 o o'→∀b',o'.getLast?=some b'→∃b,o.getLast?=some b∧ble b b'
 |[],[],_,_,h=>by cases h
 |[b],[b'],hl,c,h=>by cases h; exact ⟨b,rfl,hl.1⟩
 |b::b2::o,b'::b2'::o',hl,c,h=>by
  rw[List.getLast?_cons_cons]at h ⊢;exact zMXa hl.2 c h
 |[b],b'::b2'::o',hl,_,_=>hl.2.elim
 |b::b2::o,[b'],hl,_,_=>hl.2.elim
 |[],_::_,h,_,_=>h.elim
 |_::_,[],h,_,_=>h.elim
theorem SR.retn (hb:Below res e):SR e res retn V.retn Eq:=by
 intro v v' a w hr hf;unfold V.retn at hf;split at hf
 ·cases hf
 ·rename_i b hbl;obtain ⟨o',h2,h3⟩:=hr.bl;have hres:=zsYa hr.bot hbl;have:∃b',v'.2.getLast?=some b'∧b'.2.2.1=res:=by
   rw[h2];cases he:e.getLast? with
   |some c=>exact ⟨c,by rw[List.getLast?_append,he]; rfl,hb c he⟩
   |none =>
    have hen:e=[]:=List.getLast?_eq_none_iff.mp he;subst hen;rw[List.append_nil];cases ho:o'.getLast? with
    |none =>
     have:=List.getLast?_eq_none_iff.mp ho;subst this;have hl:=zLXa h3;exact absurd (List.eq_nil_of_length_eq_zero hl.symm) hr.ne
    |some c =>
     obtain ⟨d,hd,hdc⟩:=zMXa h3 c ho;rw[hbl]at hd;cases hd;exact ⟨c,rfl,by rw[hdc.2.2.1,hres]⟩
  obtain ⟨b',e1,e2⟩:=this;unfold V.retn;rw[e1];dsimp only;rw[e2];rw[hres]at hf;exact ((SR.pops res).bind fun _ _ _=>SR.dead) v v' a w hr hf
end
end Go.Trm.V
namespace Go.Trm.V
structure Ext (c c':Ctx):Prop where
 fn:c.1.length≤c'.1.length
 fnG:∀i d,i<c.1.length→c'.1.getD i d=c.1.getD i d
 ty:c.2.1.length≤c'.2.1.length
 tyG:∀i d,i<c.2.1.length→c'.2.1.getD i d=c.2.1.getD i d
 gl:c.2.2.1.length≤c'.2.2.1.length
 glG:∀i d,i<c.2.2.1.length→c'.2.2.1.getD i d=c.2.2.1.getD i d
 tab:c.2.2.2.1.length≤c'.2.2.2.1.length
 mem:c.2.2.2.2.1.length≤c'.2.2.2.2.1.length
 el:c.2.2.2.2.2.2.2.1≤c'.2.2.2.2.2.2.2.1
 da:c.2.2.2.2.2.2.2.2.1≤c'.2.2.2.2.2.2.2.2.1
 fl:c.2.2.2.2.2.2.2.2.2.1=true→c'.2.2.2.2.2.2.2.2.2.1=true
theorem Ext.refl (c:Ctx):Ext c c:=⟨Nat.le_refl _,fun _ _ _=>rfl,Nat.le_refl _,fun _ _ _=>rfl,Nat.le_refl _,fun _ _ _=>rfl,Nat.le_refl _,Nat.le_refl _,Int.le_refl _,Int.le_refl _,id⟩
theorem Ext.block {c c':Ctx} (h:Ext c c') {t:Int} {u:FT} (e:zrHa c t=some u):zrHa c' t=some u:=by
 unfold zrHa at e ⊢;split at e
 ·rename_i q; rw[if_pos q]; exact e
 rename_i q1;rw[if_neg q1];split at e
 ·rename_i q; rw[if_pos q]; exact e
 rename_i q2;rw[if_neg q2];split at e
 ·rename_i q; rw[if_pos q]; exact e
 rename_i q3;rw[if_neg q3];split at e
 ·rename_i q;have:=h.fn;rw[if_pos ⟨q.1,by omega⟩,h.fnG _ _ (by omega)];exact e
 ·cases e
theorem Ext.typ {c c':Ctx} (h:Ext c c') {f:Int} {u:FT} (e:typeT c f=some u):typeT c' f=some u:=by
 unfold typeT at e ⊢;have h1:=h.fn;have h2:=h.ty;split at e
 ·rename_i q;rw[if_pos ⟨q.1,by omega⟩,h.tyG _ _ (by omega)];split at e
  ·rename_i q2;rw[if_pos ⟨q2.1,by omega⟩,h.fnG _ _ (by omega)];exact e
  ·cases e
 ·cases e
section
variable {e:List Blk} {res:List Int} {c c':Ctx}
theorem SR.hasB {α:Type} {ρ:α→α→Prop} {n m m':Int} {g g':M α} (h:m≤m') (k:0≤n∧n<m→SR e res g g' ρ):SR e res (V.bind (V.has n m) fun _=>g) (V.bind (V.has n m') fun _=>g') ρ:=by
 intro v v' a w hr hf;obtain ⟨u,v1,e1,e2⟩:=znga hf;unfold V.has V.want at e1;split at e1
 ·rename_i hb;cases e1;have hb':=of_decide_eq_true hb;obtain ⟨a',w',e3,e4,e5⟩:=k hb' v v' a w hr e2;refine ⟨a',w',?_,e4,e5⟩;unfold V.bind V.has V.want;rw[if_pos (decide_eq_true (show 0≤n∧n<m' by omega))];exact e3
 ·cases e1
theorem SR.wantB {α:Type} {ρ:α→α→Prop} {b b':Bool} {n:Int} {g g':M α} (h:b=true→b'=true) (k:SR e res g g' ρ):SR e res (V.bind (V.want b n) fun _=>g) (V.bind (V.want b' n) fun _=>g') ρ:=(SR.want h).bind fun _ _ _=>k
theorem SR.block (hE:Ext c c') (x:Ins):SR e res (V.block c x) (V.block c' x) Eq:=by
 unfold V.block;cases h:zrHa c x.2.1 with
 |none=>exact SR.fails
 |some t =>
  rw[hE.block h];dsimp only;refine SR.bind (ρ:=Eq) ?_ fun _ _ _=>(SR.pops t.1).bind fun _ _ _=>SR.enter _ _ _
  split
  ·exact (SR.pop 127).bind fun _ _ _=>SR.ret rfl
  ·exact SR.ret rfl
end
end Go.Trm.V
namespace Go.Trm.V
def NZ {α:Type} (f:M α):Prop:=∀v e,f v = .error e→e≠0
theorem NZ.ret {α:Type} (a:α):NZ (V.ret a):=fun _ _ h=>by cases h
theorem NZ.bind {α β:Type} {f:M α} {g:α→M β} (h:NZ f) (k:∀a,NZ (g a)):NZ (V.bind f g):=by
 intro v e he;unfold V.bind at he;cases hf:f v with
 |error x=>rw[hf]at he; cases he; exact h v _ hf
 |ok q=>rw[hf]at he; exact k q.1 q.2 e he
theorem NZ.want {b:Bool} {n:Int} (h:n≠0):NZ (V.want b n):=by
 intro v e he;unfold V.want at he;split at he
 ·cases he
 ·cases he; exact h
theorem NZ.has {n m:Int}:NZ (V.has n m):=NZ.want (by omega)
theorem NZ.fails {α:Type} {n:Int} (h:n≠0):NZ (V.fails n:M α):=fun _ _ he=>by cases he; exact h
theorem NZ.pop (t:Int):NZ (V.pop t):=by
 intro v e he;unfold V.pop at he;split at he
 ·cases he; omega
 ·split at he
  ·split at he
   ·cases he
   ·cases he; omega
  ·split at he
   ·cases he; omega
   ·split at he
    ·cases he
    ·cases he; omega
theorem NZ.popsR:∀l:List Int,NZ (V.popsR l)
 |[]=>NZ.ret _
 |t::ts=>(NZ.pop t).bind fun _=>(NZ.popsR ts).bind fun _=>NZ.ret _
theorem NZ.pops (l:List Int):NZ (V.pops l):=(NZ.popsR _).bind fun _=>NZ.ret _
theorem NZ.push (l:List Int):NZ (V.push l):=fun _ _ h=>by cases h
theorem NZ.does (l r:List Int):NZ (V.does l r):=(NZ.pops l).bind fun _=>NZ.push r
theorem NZ.enter (op:Int) (l r:List Int):NZ (V.enter op l r):=fun _ _ h=>by cases h
theorem NZ.leave:NZ V.leave:=by
 intro v e he;unfold V.leave at he;split at he
 ·cases he; omega
 ·rename_i b o ho;refine NZ.bind (NZ.pops b.2.2.1) (fun _ v e he=>?_) v e he;split at he
  ·cases he
  ·cases he; omega
theorem NZ.dead:NZ V.dead:=by
 intro v e he;unfold V.dead at he;split at he
 ·cases he; omega
 ·cases he
theorem NZ.label (n:Int):NZ (V.label n):=by
 intro v e he;unfold V.label at he;split at he
 ·cases he
 ·cases he; omega
theorem NZ.labelsEach:∀l:List Int,NZ (V.zMba l)
 |[]=>NZ.ret _
 |n::l=>(NZ.label n).bind fun _=>NZ.labelsEach l
theorem NZ.popsEach (k:Nat):∀l:List Int,NZ (V.zoea k l)
 |[]=>NZ.ret _
 |n::l=>(NZ.label n).bind fun t=>(NZ.want (by omega)).bind fun _=>(NZ.pops t).bind fun r=>(NZ.push r).bind fun _=>NZ.popsEach k l
theorem NZ.table (x:Ins):NZ (V.table x):=(NZ.label _).bind fun a=>(NZ.labelsEach _).bind fun _=>(NZ.pop 127).bind fun _=>(NZ.popsEach _ _).bind fun _=>(NZ.pops a).bind fun _=>NZ.dead
theorem NZ.block (c:Ctx) (x:Ins):NZ (V.block c x):=by
 unfold V.block;split
 ·exact NZ.fails (by omega)
 ·refine NZ.bind ?_ fun _=>(NZ.pops _).bind fun _=>NZ.enter _ _ _
  split
  ·exact (NZ.pop 127).bind fun _=>NZ.ret _
  ·exact NZ.ret _
theorem NZ.retn:NZ V.retn:=by
 intro v e he;unfold V.retn at he;split at he
 ·cases he; omega
 ·exact ((NZ.pops _).bind fun _=>NZ.dead) v e he
theorem NZ.pop3:NZ (V.bind (V.pops three) fun _=>V.ret ()):=(NZ.pops three).bind fun _=>NZ.ret _
theorem NZ.segment (c:Ctx) (n:Int):NZ (V.zRxa c n):=(NZ.want (by omega)).bind fun _=>NZ.has
theorem NZ.instr {acc:Int→Option (Int×Int×Bool)} {typ:Int→Option (List Int×Int)} {c:Ctx} {l:List Int} (x:Ins):NZ (V.instr acc typ c l x):=by
 unfold V.instr;split
 ·rename_i m hm;unfold ctl at hm;by_cases h:x.1=0
  ·rw[if_pos h]at hm; cases hm;exact NZ.dead
  rw[if_neg h]at hm;clear h;by_cases h:x.1=1
  ·rw[if_pos h]at hm; cases hm;exact NZ.ret _
  rw[if_neg h]at hm;clear h;by_cases h:x.1=2∨x.1=3∨x.1=4
  ·rw[if_pos h]at hm; cases hm;exact NZ.block c x
  rw[if_neg h]at hm;clear h;by_cases h:x.1=5
  ·rw[if_pos h]at hm; cases hm;exact NZ.leave.bind fun _=>NZ.enter _ _ _
  rw[if_neg h]at hm;clear h;by_cases h:x.1=11
  ·rw[if_pos h]at hm; cases hm;exact NZ.leave.bind fun _=>(NZ.want (by omega)).bind fun _=>NZ.push _
  rw[if_neg h]at hm;clear h;by_cases h:x.1=12
  ·rw[if_pos h]at hm; cases hm;exact (NZ.label _).bind fun _=>(NZ.pops _).bind fun _=>NZ.dead
  rw[if_neg h]at hm;clear h;by_cases h:x.1=13
  ·rw[if_pos h]at hm; cases hm;exact (NZ.label _).bind fun _=>(NZ.pop _).bind fun _=>NZ.does _ _
  rw[if_neg h]at hm;clear h;by_cases h:x.1=14
  ·rw[if_pos h]at hm; cases hm;exact NZ.table x
  rw[if_neg h]at hm;clear h;by_cases h:x.1=15
  ·rw[if_pos h]at hm; cases hm;exact NZ.retn
  rw[if_neg h]at hm;clear h;by_cases h:x.1=16
  ·rw[if_pos h]at hm; cases hm;split
   ·exact NZ.fails (by omega)
   ·exact NZ.does _ _
  rw[if_neg h]at hm;clear h;by_cases h:x.1=17
  ·rw[if_pos h]at hm; cases hm;exact NZ.has.bind fun _=>NZ.has.bind fun _=>(NZ.pop _).bind fun _=>NZ.does _ _
  rw[if_neg h]at hm;clear h;cases hm
 ·split
  ·rename_i m hm;unfold vari at hm;split at hm
   ·cases hm; exact (NZ.pop _).bind fun _=>NZ.ret _
   split at hm
   ·cases hm; exact (NZ.pop _).bind fun _=>(NZ.pop _).bind fun _=>(NZ.pop _).bind fun _=>NZ.push _
   split at hm
   ·cases hm; exact NZ.has.bind fun _=>NZ.push _
   split at hm
   ·cases hm; exact NZ.has.bind fun _=>(NZ.pop _).bind fun _=>NZ.ret _
   split at hm
   ·cases hm; exact NZ.has.bind fun _=>(NZ.pop _).bind fun _=>NZ.push _
   split at hm
   ·cases hm; exact NZ.has.bind fun _=>NZ.push _
   split at hm
   ·cases hm; exact NZ.has.bind fun _=>(NZ.want (by omega)).bind fun _=>(NZ.pop _).bind fun _=>NZ.ret _
   split at hm
   ·cases hm; exact NZ.push _
   split at hm
   ·cases hm; exact NZ.push _
   ·cases hm
  ·split
   ·rename_i m hm;unfold memo at hm;split at hm
    ·cases hm;refine NZ.has.bind fun _=>(NZ.want (by omega)).bind fun _=>?_
     split
     ·exact NZ.does _ _
     ·exact NZ.does _ _
    ·split at hm
     ·cases hm; exact NZ.has.bind fun _=>NZ.push _
     split at hm
     ·cases hm; exact NZ.has.bind fun _=>NZ.does _ _
     split at hm
     ·cases hm; exact NZ.has.bind fun _=>(NZ.segment c _).bind fun _=>NZ.pop3
     split at hm
     ·cases hm; exact NZ.has.bind fun _=>NZ.pop3
     split at hm
     ·cases hm; exact NZ.has.bind fun _=>NZ.pop3
     split at hm
     ·cases hm; exact NZ.segment c _
     split at hm
     ·cases hm; exact NZ.has.bind fun _=>NZ.has.bind fun _=>NZ.pop3
     split at hm
     ·cases hm; exact NZ.has.bind fun _=>NZ.has.bind fun _=>NZ.pop3
     split at hm
     ·cases hm; exact NZ.has
     ·cases hm
   ·split
    ·exact NZ.does _ _
    ·exact NZ.fails (by omega)
theorem NZ.run {acc:Int→Option (Int×Int×Bool)} {typ:Int→Option (List Int×Int)} {c:Ctx} {l:List Int}:∀xs:List Ins,NZ (V.run acc typ c l xs)
 |[]=>NZ.ret _
 |x::xs=>(NZ.instr x).bind fun _=>NZ.run xs
theorem zZxa {acc:Int→Option (Int×Int×Bool)} {typ:Int→Option (List Int×Int)} {c:Ctx} {l:List Int}:∀(xs ys:List Ins),run acc typ c l (xs++ys)=V.bind (run acc typ c l xs) fun _=>run acc typ c l ys
 |[],ys=>rfl
 |x::xs,ys=>by
  funext v
  show V.bind (instr acc typ c l x) (fun _=>run acc typ c l (xs++ys)) v=V.bind (V.bind (instr acc typ c l x) fun _=>run acc typ c l xs) (fun _=>run acc typ c l ys) v;rw[zZxa xs ys];unfold V.bind;cases instr acc typ c l x v<;>rfl
abbrev st0 (res:List Int):VS:=([],[(2,[],res,0,false,())])
section
variable {zCaa:Ins→Bool} {acc:Int→Option (Int×Int×Bool)} {typ:Int→Option (List Int×Int)} {c c':Ctx}
abbrev nopI:Ins:=(1,0,0,0,[],())
theorem zvTa (hn:zCaa nopI=true) (b:List Ins) (hb:b≠[]):∀(a:List Ins) (n:List Bool),zBba zCaa (a++nopI::b) n=zBba zCaa (a++b) n
 |[],n=>by
  show zBba zCaa (nopI::b) n=zBba zCaa b n;rw[zBba,if_pos hn];rfl
 |x::a,n=>by
  show zBba zCaa (x::(a++nopI::b)) n=zBba zCaa (x::(a++b)) n;rw[zBba,zBba];by_cases hx:zCaa x=true
  ·rw[if_pos hx,if_pos hx];cases nest n x with
   |bad=>rfl
   |over =>
    dsimp only;have e1:(a++nopI::b).isEmpty=false:=by cases a<;>rfl
    have e2:(a++b).isEmpty=false:=by
     cases a with
     |nil=>cases b with
      |nil=>exact absurd rfl hb
      |cons=>rfl
     |cons=>rfl
    rw[e1,e2]
   |go n'=>exact zvTa hn b hb a n'
  ·rw[if_neg hx,if_neg hx]
theorem zx1a (hn:zCaa nopI=true) (t:Int) (lo:List Int) (a b:List Ins) (hb:b≠[]) (hl:(a++b).length<2000):V.body zCaa acc typ c (t,lo,a++b,())=V.body zCaa acc typ c (t,lo,a++nopI::b,()):=by
 unfold V.body;dsimp only;have e1:zFra zCaa (a++nopI::b)=zFra zCaa (a++b):=by
  unfold zFra;rw[zvTa hn b hb];rw[decide_eq_true (by simp at hl ⊢; omega),decide_eq_true (by omega)]
 have e2:∀l,run acc typ c l (a++nopI::b)=run acc typ c l (a++b):=by
  intro l;rw[zZxa,zZxa];rfl
 rw[e1];split
 ·rfl
 ·split
  ·rw[e2]
  ·rfl
end
end Go.Trm.V
namespace Go.Trm.V
abbrev endI:Ins:=(11,0,0,0,[],())
abbrev deadI:Ins:=(0,0,0,0,[],())
section
variable {zCaa:Ins→Bool} {acc:Int→Option (Int×Int×Bool)} {typ:Int→Option (List Int×Int)} {c c':Ctx}
end
end Go.Trm.V
namespace Go.Trm.V
open Go.Trm.G1
theorem zaAa {x:Ins} {b:Bool} (hl:x.2.2.2.2.1.length≤most) (h:zOea (R:=Bool) x some=some b):zCaa x=b:=by
 have:=zYVa x hl (some:Bool→Option Bool);rw[h]at this;exact (Option.some.inj this).symm
theorem f_end:zCaa endI=true:=zaAa (Nat.zero_le _) (by kernel_rfl)
theorem f_nop:zCaa nopI=true:=zaAa (Nat.zero_le _) (by kernel_rfl)
theorem zL2a:zCaa deadI=true:=zaAa (Nat.zero_le _) (by kernel_rfl)
abbrev i65:Ins:=(65,0,0,1,[],())
theorem f_65:zCaa i65=true:=zaAa (Nat.zero_le _) (by kernel_rfl)
abbrev c0:Ctx:=([([],[127],())],[],[],[],[],0,0,0,0,false,())
theorem fits0 (code:List Ins) (h:∀x∈code,x.2.2.2.2.1.length≤most):Fits 1 c0 (0,[],code,()):=⟨Nat.le_refl _,by
 intro t ht;simp only[List.mem_singleton]at ht;subst ht;simp,by decide,(by decide:0+1≤most),h⟩
theorem b1:V.body zCaa accF typF c0 (0,[],[i65,endI],())=0:=by
 have hc:zFra zCaa [i65,endI]=true:=by
  unfold zFra;simp only[zBba,f_65,f_end,if_true]
  decide
 unfold V.body;rw[if_neg (by decide)];dsimp only;rw[if_pos hc];rfl
theorem b2:V.body zCaa accF typF c0 (0,[],[endI],())=6:=by
 have hc:zFra zCaa [endI]=true:=by
  unfold zFra;simp only[zBba,f_end,if_true]
  decide
 unfold V.body;rw[if_neg (by decide)];dsimp only;rw[if_pos hc];rfl
theorem b3:V.body zCaa accF typF c0 (0,[],[deadI,endI],())=0:=by
 have hc:zFra zCaa [deadI,endI]=true:=by
  unfold zFra;simp only[zBba,zL2a,f_end,if_true]
  decide
 unfold V.body;rw[if_neg (by decide)];dsimp only;rw[if_pos hc];rfl
theorem zAVa {R:Type} (K:Bool→Option R):zmja K=K true:=by
 have e1:=zpza (R:=R) (fits0 [i65,endI] (by intro x hx; simp only[List.mem_cons,List.not_mem_nil,or_false]at hx; rcases hx with rfl|rfl<;>exact Nat.zero_le _));have e2:=zpza (R:=R) (fits0 [endI] (by intro x hx; simp only[List.mem_cons,List.not_mem_nil,or_false]at hx; subst hx; exact Nat.zero_le _));have e3:=zpza (R:=R) (fits0 [deadI,endI] (by intro x hx; simp only[List.mem_cons,List.not_mem_nil,or_false]at hx; rcases hx with rfl|rfl<;>exact Nat.zero_le _));have h:zmja K=zXaa c0 (0,[],[i65,endI],()) fun r4=>zXaa c0 (0,[],[endI],()) fun r6=>zXaa c0 (0,[],[deadI,endI],()) fun r8=>cond (r4==0) (cond (r6==6) (K (r8==0)) (K false)) (K false):=by kernel_rfl
 rw[h,e1,b1,e2,b2,e3,b3];rfl
end Go.Trm.V
namespace Go.Trm.V
open Go.Trm.G1
section
variable {R:Type}
end
end Go.Trm.V
namespace Go.Trm.V
open Go.Trm.G1
section
variable {R:Type}
theorem zsZa (ls:List Ins) (hl:ls.length≤most) (hx:∀x∈ls,x.2.2.2.2.1.length≤most) (kx:List Ins→Option R):∀(rest:List Ins) (i m:Nat) (out:List Ins),ls.drop i=rest→i+rest.length=ls.length→out.length=i→rest.length≤m→loopN (zEha kx) (m+1) ⟨ls,out,(i:Int)⟩=kx (out++rest):=by
 have hm:most=4294967296:=rfl;intro rest
 induction rest with
 |nil =>
  intro i m out hd hi ho h;simp only[List.length_nil]at hi;rw[zaaa];unfold zEha;simp only[zDaa];rw[if_neg (by omega),List.append_nil]
 |cons x xs ih =>
  intro i m out hd hi ho h;simp only[List.length_cons]at hi h;obtain ⟨m,rfl⟩:∃k,m=k+1:=⟨m-1,by omega⟩
  have hg:ls.getD i (0,0,0,0,[],())=x∧ls.drop (i+1)=xs:=by
   rw[zhza ls i (0,0,0,0,[],()) (by omega)]at hd
   injection hd with a b
   exact ⟨a,b⟩
  have hmem:x∈ls:=by
   have:x∈ls.drop i:=by rw[hd]; exact List.mem_cons_self ..
   exact List.mem_of_mem_drop this
  have hxl:=hx x hmem;have step:∀rec,zEha kx rec ⟨ls,out,(i:Int)⟩=rec ⟨ls,out++[x],((i+1:Nat):Int)⟩:=by
   intro rec;have hin:0≤(i:Int)∧(i:Int)<(ls.length:Int):=by omega
   unfold zEha;simp only[zDaa,zkda,Int.toNat_natCast,hg.1,if_pos hin];rw[if_pos (by omega),if_pos (by simp only[List.length_replicate]; omega),if_pos (by simp only[List.length_set,List.length_replicate]; omega),w_i64 (by omega)];rfl
  rw[zaaa,step];refine (ih (i+1) m (out++[x]) hg.2 (by omega) (by simp; omega) (by omega)).trans ?_;rw[List.append_assoc];rfl
theorem zeWa (ls:List Ins) (hl:ls.length≤most) (hx:∀x∈ls,x.2.2.2.2.1.length≤most) (K:List Ins→Option R):zOga ls K=K ls:=by
 have hm:most=4294967296:=rfl;unfold zOga;obtain ⟨m,hf⟩:=zZva (ls.length+1) (by omega);have e:zpaa=m+ls.length+1:=by omega
 rw[e];exact zsZa ls hl hx K ls 0 (m+ls.length) [] rfl (by omega) rfl (by omega)
end
end Go.Trm.V
namespace Go.Trm.V
open Go.Trm.G1
structure Good (B:Nat) (m:It21) (c:Ctx):Prop where
 len:m.2.2.1.length≤4294967295
 fit:∀f∈m.2.2.1,Fits B c f
 code:∀f∈m.2.2.1,f.2.2.1.length≤4294960000
 types:c.1.length≤1000000
 fns:c.2.1.length≤1000000
 gls:c.2.2.1.length≤1000000
 el:0≤c.2.2.2.2.2.2.2.1∧c.2.2.2.2.2.2.2.1≤1000000
 da:0≤c.2.2.2.2.2.2.2.2.1∧c.2.2.2.2.2.2.2.2.1≤1000000
def zBZa (m:It21):Prop:=∀ {R:Type} (Φ:Option R→Prop) {K:Ctx→Bool→Option R},(∀(c:Ctx) (ok:Bool) (B:Nat),(ok=true→Good B m c)→Φ (K c ok))→Φ (zZda m K)
section
variable {R:Type}
theorem getF {m:It21} {i:Int} (h:0≤i∧i<m.2.2.1.length):m.2.2.1.getD i.toNat (0,[],[],())∈m.2.2.1:=by
 rw[List.getD_eq_getElem?_getD,List.getElem?_eq_getElem (by omega)];exact List.getElem_mem _
theorem zM0a (m:It21) (i k:Int) (h:zBZa m) (K:Bool→Option R):znfa m i k K=K true:=by
 have hm:most=4294967296:=rfl;unfold znfa;rw[zAVa];rw[show (!true)=false from rfl,cond_false];refine h (fun z=>z=K true) fun c ok B hg=>?_
 unfold zHka;simp only[znwa,zDaa,zkda,znza];cases ok with
 |false=>rfl
 |true =>
  have g:=hg rfl;rw[cond_true];by_cases h1:i<0
  ·rw[if_pos h1]
  rw[if_neg h1];by_cases h2:i≥(m.2.2.1.length:Int)
  ·rw[if_pos h2]
  rw[if_neg h2];by_cases h3:k<0
  ·rw[if_pos h3]
  rw[if_neg h3];have hin:0≤i∧i<(m.2.2.1.length:Int):=by omega
  have hf:=getF hin;simp only[if_pos hin];generalize hF:m.2.2.1.getD i.toNat (0,[],[],())=f at hf ⊢;obtain ⟨t,lo,code,u⟩:=f;have fit:=g.fit _ hf;have hcl:=g.code _ hf;dsimp only at hcl ⊢;by_cases h4:k≥(code.length:Int)
  ·rw[if_pos h4]
  rw[if_neg h4];by_cases h5:(code.length:Int)≥2000
  ·rw[if_pos h5]
  rw[if_neg h5,zeWa code (by omega) fit.lab];have ea:rng code 0 k=code.take k.toNat:=by unfold rng; simp
  have eb:rng code k (code.length:Int)=code.drop k.toNat:=by unfold rng; simp
  have e0:∀x:Ins,List.replicate 0 x=[]:=fun _=>rfl
  have e1:∀x y:Ins,List.set (List.replicate 1 x) 0 y=[y]:=fun _ _=>rfl
  have hk:k.toNat<code.length:=by omega
  have l1:(code.take k.toNat).length=k.toNat:=by rw[List.length_take]; omega
  have l2:(code.drop k.toNat).length=code.length-k.toNat:=List.length_drop;simp only[zKaa,ea,eb,e0,e1,List.length_nil,List.nil_append,List.length_append,List.length_cons,l1,l2];rw[if_pos (by omega),if_pos (by omega),if_pos (by omega),if_pos (by omega),if_pos (by omega)];rw[zpza fit];have fit2:Fits B c (t,lo,code.take k.toNat++[nopI]++code.drop k.toNat,u):=⟨fit.one,fit.ctx,fit.room,fit.loc,by
   intro x hx;dsimp only at hx;rw[List.mem_append,List.mem_append]at hx;rcases hx with (hx|hx)|hx
   ·exact fit.lab x (List.mem_of_mem_take hx)
   ·rw[List.mem_singleton]at hx; subst hx; exact Nat.zero_le _
   ·exact fit.lab x (List.mem_of_mem_drop hx)⟩
  rw[zpza fit2];have hne:code.drop k.toNat≠[]:=fun h=>by rw[h]at l2; simp at l2; omega
  have key:=zx1a (acc:=accF) (typ:=typF) (c:=c) f_nop t lo (code.take k.toNat) (code.drop k.toNat) hne (by rw[List.take_append_drop]; omega);rw[List.take_append_drop]at key;rw[key,List.append_assoc];have e:∀z:Int,(z==z)=true:=fun z=>by simp
  exact congrArg K (e _)
end
end Go.Trm.V
namespace Go.Trm.V
open Go.Trm.G1
theorem cv63 {n:Nat} (h:n≤2 ^ 63-1):n≤9223372036854775807:=by omega
theorem zfZa {l:List InsT} (h:∀y∈l,okI (.pair (.int .i64) (.pair (.int .i64) (.pair (.int .i64) (.pair (.int .i64) (.pair (.sl 3 (.int .i64)) .unit))))) y):∀x∈l,InsOk x:=fun x hx=>by
 have h1:(-9223372036854775808:Int)≤x.2.1∧x.2.1≤9223372036854775807:=(h x hx).2.1;have h2:(-9223372036854775808:Int)≤x.2.2.2.1∧x.2.2.2.1≤9223372036854775807:=(h x hx).2.2.2.1;exact ⟨h1,h2⟩
theorem zd3a {m:It21} (h:okI Ty32 m):RawOk m where
 rows:=⟨cv63 h.1.1,cv63 h.2.1.1,cv63 h.2.2.1.1,cv63 h.2.2.2.1.1,cv63 h.2.2.2.2.1.1,cv63 h.2.2.2.2.2.1.1,cv63 h.2.2.2.2.2.2.1.1,cv63 h.2.2.2.2.2.2.2.1.1,cv63 h.2.2.2.2.2.2.2.2.1.1,cv63 h.2.2.2.2.2.2.2.2.2.1.1,cv63 h.2.2.2.2.2.2.2.2.2.2.1.1,cv63 h.2.2.2.2.2.2.2.2.2.2.2.1.1⟩
 fn:=fun y hy=>zfZa (h.2.2.1.2 y hy).2.2.1.2
 gl:=fun y hy=>zfZa (h.2.2.2.2.2.1.2 y hy).2.2.1.2
 el:=fun y hy=>zfZa (h.2.2.2.2.2.2.2.2.1.2 y hy).2.1.2
 da:=fun y hy=>zfZa (h.2.2.2.2.2.2.2.2.2.2.1.2 y hy).2.1.2
theorem znYa {m:It21} (h:okI Ty32 m):zBZa m:=fun Φ _ hk=>zeNa (zd3a h) fun c ok hp=>hk c ok 3000 fun e=>by
 have hm:most=4294967296:=rfl;obtain ⟨s,ty,n⟩:=hp e;have z:=s.rows;have code:∀f∈m.2.2.1,f.2.2.1.length+lsz f.2.2.1≤3000:=fun f hf=>(s.fn f hf).2.sz
 refine ⟨by omega,fun f hf=>⟨by decide,ty,by decide,?_,fun x hx=>?_⟩,fun f hf=>?_,by omega,by omega,by omega,by omega,by omega⟩
 ·have:=(s.fn f hf).1;omega
 ·have:=zJXa hx;have:=code f hf;omega
 ·have:=code f hf;omega
theorem pure_nops (m:Ty32.I) (i k:Int) (h:okI Ty32 m):znfa m i k Yes=some ():=zM0a m i k (znYa h) Yes
end Go.Trm.V
