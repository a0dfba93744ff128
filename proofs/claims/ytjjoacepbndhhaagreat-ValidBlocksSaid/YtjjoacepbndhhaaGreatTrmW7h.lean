import Derived.Test.YtjjoacepbndhhaaGreatTrmPlain
import Derived.Test.YtjjoacepbndhhaaGreatTrmG1
set_option linter.unusedVariables false
set_option linter.unusedSimpArgs false
namespace Go.Trm
section
variable {R:Type} {Φ:Option R→Prop} {a b:Option R}
theorem kL {p:Prop} [Decidable p] (h1:p→Φ a) (h2:¬p→Φ b):Φ (cond (decide p) a b):=by
 by_cases h:p
 ·rw[decide_eq_true h]; exact h1 h
 ·rw[decide_eq_false h]; exact h2 h
theorem kM {α:Type} [BEq α] [LawfulBEq α] {u v:α} (h1:u=v→Φ a) (h2:u≠v→Φ b):Φ (cond (u==v) a b):=by
 cases h:u==v
 ·exact h2 (by intro hc; subst hc; rw[BEq.rfl]at h; cases h)
 ·exact h1 (by simpa using h)
theorem kN {α:Type} [BEq α] [LawfulBEq α] {u v:α} (h1:u≠v→Φ a) (h2:u=v→Φ b):Φ (cond (u != v) a b):=by
 cases h:u != v
 ·exact h2 (by simpa using h)
 ·exact h1 (by intro hc; subst hc; simp at h)
theorem kO {c:Bool} (h1:c=true→Φ a) (h2:c=false→Φ b):Φ (cond c a b):=by
 cases c
 ·exact h2 rfl
 ·exact h1 rfl
theorem kU {c:Bool} (h:Φ (cond c b a)):Φ (cond (!c) a b):=by cases c<;>exact h
theorem kP {i:Int} {n:Nat} (h:0≤i∧i<n) (h1:(0≤i∧i<n)→Φ a):Φ (cond (inB i n) a none):=by
 rw[zkda,if_pos h]; exact h1 h
theorem kQ {l u:Int} {n:Nat} (h:0≤l∧l≤u∧u≤n) (h1:(0≤l∧l≤u∧u≤n)→Φ a):Φ (cond (inR l u n) a none):=by
 rw[znza,if_pos h]; exact h1 h
theorem kR {p:Prop} [Decidable p] (h:p) (h1:p→Φ a):Φ (cond (decide p) a none):=by
 rw[decide_eq_true h]; exact h1 h
theorem kS {c:Bool} (h:c=true) (h1:Φ a):Φ (cond c a none):=by rw[h]; exact h1
theorem kY {n:Nat} (h:n≤4294967296) (k:Φ a):Φ (cond (decide (n≤most)) a none):=kR (p:=n≤most) h λ_=>k
end
theorem zuaa (n:Int):0≤IntKind.u64.wrap n∧IntKind.u64.wrap n<18446744073709551616:=by
 have:IntKind.u64.wrap n=n%18446744073709551616:=rfl;omega
theorem kW {R:Type} {Φ:Option R→Prop} {a:Option R} {n:Int} (h:Φ a):Φ (cond (decide (0≤IntKind.u64.wrap n)) a none):=kR (zuaa n).1 λ_=>h
end Go.Trm
namespace Go.Trm.G1
theorem zGZa {α:Type} (l:List α) (a b:Int):(rng l a b).length=min b.toNat l.length-a.toNat:=by simp[rng]
theorem zeXa (l:List Int):(u8s l).length=l.length:=by simp[u8s]
theorem kA {n:Int} (h : -9223372036854775808≤n∧n≤9223372036854775807):IntKind.i64.wrap n=n:=w_i64 h
theorem kB {n:Int} (h:0≤n∧n≤18446744073709551615):IntKind.u64.wrap n=n:=w_u64 h
theorem kC {n:Int} (h:0≤n∧n≤255):IntKind.u8.wrap n=n:=w_u8 h
theorem kD {α:Type} (a b:List α):(a++b).length=a.length+b.length:=List.length_append
theorem kE {α:Type} (a:List α) (i:Nat) (x:α):(a.set i x).length=a.length:=List.length_set
theorem kF {α:Type} (n:Nat) (x:α):(List.replicate n x).length=n:=List.length_replicate
theorem kG {α:Type} (a:α) (l:List α):(a::l).length=l.length+1:=rfl
theorem kH {α:Type}:([]:List α).length=0:=rfl
theorem kI {α:Type} (l:List α) (a b:Int):(rng l a b).length=min b.toNat l.length-a.toNat:=zGZa l a b
theorem kJ (l:List Int):(u8s l).length=l.length:=zeXa l
theorem kK (l:List UInt8):(nums l).length=l.length:=zL0a l
abbrev Cu (c:Tc):Prop:=0≤c.2.1∧c.2.1≤c.1.length∧c.1.length≤1000000
theorem zX2a {w:Int} (h:w=32∨w=64):(IntKind.u64.wrap w != 0)=true:=by rcases h with h|h<;>subst h<;>decide
theorem shl_b {i:Int} (h:0≤i) (h2:i<32):0≤shlI .u64 1 (IntKind.u64.wrap i)∧shlI .u64 1 (IntKind.u64.wrap i)≤2147483648:=by
 rw[w_u64 (by omega)];obtain ⟨k,rfl⟩:∃k:Nat,i=k:=⟨i.toNat,by omega⟩
 have hk:k<32:=by omega
 have:∀k:Fin 32,0≤shlI .u64 1 ((k:Nat):Int)∧shlI .u64 1 ((k:Nat):Int)≤2147483648:=by decide
 exact this ⟨k,hk⟩
theorem shl_o (i:Int):(0≤shlI .u64 1 i∧shlI .u64 1 i≤2147483648)∨i<0∨32≤i:=by
 by_cases h:0≤i
 ·by_cases h2:i<32
  ·have:=shl_b h h2;rw[w_u64 (by omega)]at this;exact .inl this
  ·omega
 ·omega
def lim:Nat→Int
 |0=>18446744073709551616
 |1=>144115188075855872
 |2=>1125899906842624
 |3=>8796093022208
 |4=>68719476736
 |5=>536870912
 |6=>4194304
 |7=>32768
 |8=>256
 |9=>2
 |_=>0
theorem zg3a (k:Nat):lim k≤18446744073709551616:=by unfold lim; split<;>omega
theorem zT0a {n:Int} {k:Nat} (h0:0≤n) (h1:k≤9) (h:n<lim k):IntKind.u64.wrap (Int.tdiv n 128)≠0→k+1≤9∧IntKind.u64.wrap (Int.tdiv n 128)<lim (k+1)∧0≤IntKind.u64.wrap (Int.tdiv n 128)∧IntKind.u64.wrap (Int.tdiv n 128)<n:=by
 have:=zg3a k;rw[Int.tdiv_eq_ediv_of_nonneg h0,w_u64 (by omega)];intro h2;have:k=0∨k=1∨k=2∨k=3∨k=4∨k=5∨k=6∨k=7∨k=8∨k=9:=by omega
 rcases this with h|h|h|h|h|h|h|h|h|h<;>subst h<;>simp only[lim]at * <;> omega
end Go.Trm.G1
namespace Go.Trm.G1
variable {R:Type} {Φ:Option R→Prop}
theorem zlEa {f0:Int} {f65:List Tl} {f66:Int} {k_ret:Tb→Option R} {k_exit_1:Int→Option R}:∀ {n:Nat} {f67:Int},(f66=(f65.length:Int))→(0≤f67)→(f65.length≤1000000000)→(f67≤f66)→(f66-f67).toNat<n→(∀(w0:Tb),(w0.length≤2)→Φ (k_ret w0))→(Φ (k_exit_1 f0))→Φ (loopN (zDha k_ret k_exit_1) n ⟨f0,f65,f66,f67⟩):=by
 intro n; induction n; intros; omega; rename_i n ih; intro f67 i0 i1 i2 i3 hm q0 q1;rw[zaaa];unfold zDha
 try dsimp only
 refine kL (λ_=>kP ?_ λ_=>kP ?_ λ_=>kL (λ_=>kP ?_ λ_=>kL (λ_=>q0 _ ?_) λ_=>ih ?_ ?_ ?_ ?_ ?_ q0 q1) λ_=>ih ?_ ?_ ?_ ?_ ?_ q0 q1) λ_=>q1
 all_goals first|omega|assumption|(simp (disch:=omega) only[kA,kB,kC,kD,kE,kF,kG,kH,kI,kJ,kK]<;>omega)
theorem zDRa {f0:Int} {f2:Int×Int×Int×Bool×Bool×Unit} {f4:List (Int×Int×Int×Bool×Bool×Unit)} {k_ret:Int×Int×Int×Bool×Bool×Unit→Bool→Option R} {k_exit_0:Int×Int×Int×Bool×Bool×Unit→Option R}:∀ {n:Nat} {f5:Int},(0≤f5)→(f4.length≤1000000000)→(f5≤f4.length)→((f4.length:Int)-f5).toNat<n→(∀(w0:Int×Int×Int×Bool×Bool×Unit) (w1:Bool),Φ (k_ret w0 w1))→(Φ (k_exit_0 f2))→Φ (loopN (zywa k_ret k_exit_0) n ⟨f0,f2,f4,f5⟩):=by
 intro n; induction n; intros; omega; rename_i n ih; intro f5 i0 i1 i2 hm q0 q1;rw[zaaa];unfold zywa
 try dsimp only
 refine kL (λ_=>kP ?_ λ_=>kM (λ_=>kP ?_ λ_=>q0 _ _) λ_=>ih ?_ ?_ ?_ ?_ q0 q1) λ_=>q1
 all_goals first|omega|assumption|(simp (disch:=omega) only[kA,kB,kC,kD,kE,kF,kG,kH,kI,kJ,kK]<;>omega)
theorem zbXa {a0:Int} {K:Int×Int×Int×Bool×Bool×Unit→Bool→Option R} (hk:∀(r0:Int×Int×Int×Bool×Bool×Unit) (r1:Bool),Φ (K r0 r1)):Φ (zuEa a0 K):=by
 unfold zuEa
 try dsimp only
 refine zDRa ?_ ?_ ?_ (zdaa ?_) (λ_ _=>hk _ _) (hk _ _)
 all_goals first|omega|assumption|(simp (disch:=omega) only[kA,kB,kC,kD,kE,kF,kG,kH,kI,kJ,kK]<;>omega)
theorem zlPa {a0:Int} {K:Int→Option R} (hk:∀(r0:Int),Φ (K r0)):Φ (zKoa a0 K):=by
 unfold zKoa
 try dsimp only
 exact kL (λ_=>kL (λ_=>hk _) λ_=>kL (λ_=>kL (λ_=>hk _) λ_=>kM (λ_=>hk _) λ_=>kL (λ_=>kL (λ_=>hk _) λ_=>hk _) λ_=>hk _) λ_=>kM (λ_=>hk _) λ_=>kL (λ_=>kL (λ_=>hk _) λ_=>hk _) λ_=>hk _) λ_=>kL (λ_=>kL (λ_=>hk _) λ_=>kM (λ_=>hk _) λ_=>kL (λ_=>kL (λ_=>hk _) λ_=>hk _) λ_=>hk _) λ_=>kM (λ_=>hk _) λ_=>kL (λ_=>kL (λ_=>hk _) λ_=>hk _) λ_=>hk _
theorem ziba {a0 a1:Int} {K:Int→Option R} (p0:a1=32∨a1=64) (hk:∀(r0:Int),Φ (K r0)):Φ (zcda a0 a1 K):=by
 unfold zcda;rcases p0 with rfl|rfl
 ·exact kL (λ_=>hk _) λ_=>kR (by decide) λ_=>kS (by decide)<|hk _
 ·exact kL (λ_=>hk _) λh=>(h (by decide)).elim
theorem zpba {a0:Bool} {K:Int→Option R} (hk:∀(r0:Int),Φ (K r0)):Φ (zbda a0 K):=by
 unfold zbda
 try dsimp only
 exact kO (λ_=>hk _) λ_=>hk _
theorem zCda {a0 a1:Int} {K:Int→Option R} (hk:∀(r0:Int),Φ (K r0)):Φ (zpca a0 a1 K):=by
 unfold zpca
 try dsimp only
 exact kW<|kS rfl<|hk _
theorem zwca {f7:Int} {k_exit_1:Int→Option R}:∀ {n:Nat} {f8 f9:Int},(f9≤1000000000)→(f9+1).toNat<n→(∀(w0:Int),Φ (k_exit_1 w0))→Φ (loopN (zfna k_exit_1) n ⟨f7,f8,f9⟩):=by
 intro n; induction n; intros; omega; rename_i n ih; intro f8 f9 i0 hm q0;rw[zaaa];unfold zfna
 try dsimp only
 refine kL (λ_=>zCda λ_=>kM (λ_=>ih ?_ ?_ q0) λ_=>q0 _) λ_=>q0 _
 all_goals first|omega|assumption|(simp (disch:=omega) only[kA,kB,kC,kD,kE,kF,kG,kH,kI,kJ,kK]<;>omega)
theorem zvca {f6 f7:Int} {k_exit_3:Int→Option R}:∀ {n:Nat} {f8 f10:Int},(0≤f10)→(f6≤1000000000)→(f6-f10).toNat<n→(∀(w0:Int),Φ (k_exit_3 w0))→Φ (loopN (zena k_exit_3) n ⟨f6,f7,f8,f10⟩):=by
 intro n; induction n; intros; omega; rename_i n ih; intro f8 f10 i0 i1 hm q0;rw[zaaa];unfold zena
 try dsimp only
 refine kL (λ_=>zCda λ_=>kM (λ_=>ih ?_ ?_ ?_ q0) λ_=>q0 _) λ_=>q0 _
 all_goals first|omega|assumption|(simp (disch:=omega) only[kA,kB,kC,kD,kE,kF,kG,kH,kI,kJ,kK]<;>omega)
theorem zuca {f6 f7:Int} {k_exit_5:Int→Option R}:∀ {n:Nat} {f8 f11:Int},(0≤f11)→(f6≤1000000000)→(f6-f11).toNat<n→(∀(w0:Int),Φ (k_exit_5 w0))→Φ (loopN (zdna k_exit_5) n ⟨f6,f7,f8,f11⟩):=by
 intro n; induction n; intros; omega; rename_i n ih; intro f8 f11 i0 i1 hm q0;rw[zaaa];unfold zdna
 try dsimp only
 refine kL (λ_=>zCda λ_=>ih ?_ ?_ ?_ q0) λ_=>q0 _
 all_goals first|omega|assumption|(simp (disch:=omega) only[kA,kB,kC,kD,kE,kF,kG,kH,kI,kJ,kK]<;>omega)
theorem zNIa {f0 f1:Int} {k_exit_0:Int→Option R}:∀ {n:Nat} {f7 f8:Int},(f8≤1000000000)→(f8+1).toNat<n→(∀(w0:Int),Φ (k_exit_0 w0))→Φ (loopN (zdla k_exit_0) n ⟨f0,f1,f7,f8⟩):=by
 intro n; induction n; intros; omega; rename_i n ih; intro f7 f8 i0 hm q0;rw[zaaa];unfold zdla
 try dsimp only
 refine kL (λ_=>kL (λ_=>zCda λ_=>ih ?_ ?_ q0) λ_=>zCda λ_=>ih ?_ ?_ q0) λ_=>q0 _
 all_goals first|omega|assumption|(simp (disch:=omega) only[kA,kB,kC,kD,kE,kF,kG,kH,kI,kJ,kK]<;>omega)
theorem zqaa {a0 a1 a2:Int} {K:Int→Option R} (p0:a2=32∨a2=64) (hk:∀(r0:Int),Φ (K r0)):Φ (zXca a0 a1 a2 K):=by
 unfold zXca
 try dsimp only
 refine zNIa ?_ (zdaa ?_) (λ_=>hk _)
 all_goals first|omega|assumption|(simp (disch:=omega) only[kA,kB,kC,kD,kE,kF,kG,kH,kI,kJ,kK]<;>omega)
theorem zcXa {a0 a1:Int} {K:Int→Bool→Option R} (hk:∀(r0:Int) (r1:Bool),Φ (K r0 r1)):Φ (zvEa a0 a1 K):=by
 unfold zvEa
 try dsimp only
 refine kL (λ_=>kL (λ_=>ziba ?_ λ_=>kM (λ_=>zpba λ_=>hk _ _) λ_=>kM (λ_=>zpba λ_=>hk _ _) λ_=>kM (λ_=>zwca ?_ (zdaa ?_) (λ_=>hk _ _)) λ_=>kM (λ_=>zwca ?_ (zdaa ?_) (λ_=>hk _ _)) λ_=>kM (λ_=>zvca ?_ ?_ (zdaa ?_) (λ_=>hk _ _)) λ_=>kM (λ_=>zvca ?_ ?_ (zdaa ?_) (λ_=>hk _ _)) λ_=>kM (λ_=>zuca ?_ ?_ (zdaa ?_) (λ_=>hk _ _)) λ_=>kM (λ_=>zuca ?_ ?_ (zdaa ?_) (λ_=>hk _ _)) λ_=>kM (λ_=>ziba ?_ λ_=>hk _ _) λ_=>kM (λ_=>ziba ?_ λ_=>hk _ _) λ_=>kM (λ_=>zqaa ?_ λ_=>hk _ _) λ_=>kM (λ_=>zqaa ?_ λ_=>hk _ _) λ_=>kM (λ_=>zqaa ?_ λ_=>hk _ _) λ_=>kM (λ_=>zqaa ?_ λ_=>hk _ _) λ_=>kM (λ_=>zqaa ?_ λ_=>hk _ _) λ_=>kM (λ_=>zqaa ?_ λ_=>hk _ _) λ_=>hk _ _) λ_=>kM (λ_=>ziba ?_ λ_=>kM (λ_=>zpba λ_=>hk _ _) λ_=>kM (λ_=>zpba λ_=>hk _ _) λ_=>kM (λ_=>zwca ?_ (zdaa ?_) (λ_=>hk _ _)) λ_=>kM (λ_=>zwca ?_ (zdaa ?_) (λ_=>hk _ _)) λ_=>kM (λ_=>zvca ?_ ?_ (zdaa ?_) (λ_=>hk _ _)) λ_=>kM (λ_=>zvca ?_ ?_ (zdaa ?_) (λ_=>hk _ _)) λ_=>kM (λ_=>zuca ?_ ?_ (zdaa ?_) (λ_=>hk _ _)) λ_=>kM (λ_=>zuca ?_ ?_ (zdaa ?_) (λ_=>hk _ _)) λ_=>kM (λ_=>ziba ?_ λ_=>hk _ _) λ_=>kM (λ_=>ziba ?_ λ_=>hk _ _) λ_=>kM (λ_=>zqaa ?_ λ_=>hk _ _) λ_=>kM (λ_=>zqaa ?_ λ_=>hk _ _) λ_=>kM (λ_=>zqaa ?_ λ_=>hk _ _) λ_=>kM (λ_=>zqaa ?_ λ_=>hk _ _) λ_=>kM (λ_=>zqaa ?_ λ_=>hk _ _) λ_=>kM (λ_=>zqaa ?_ λ_=>hk _ _) λ_=>hk _ _) λ_=>ziba ?_ λ_=>kM (λ_=>zpba λ_=>hk _ _) λ_=>kM (λ_=>zpba λ_=>hk _ _) λ_=>kM (λ_=>zwca ?_ (zdaa ?_) (λ_=>hk _ _)) λ_=>kM (λ_=>zwca ?_ (zdaa ?_) (λ_=>hk _ _)) λ_=>kM (λ_=>zvca ?_ ?_ (zdaa ?_) (λ_=>hk _ _)) λ_=>kM (λ_=>zvca ?_ ?_ (zdaa ?_) (λ_=>hk _ _)) λ_=>kM (λ_=>zuca ?_ ?_ (zdaa ?_) (λ_=>hk _ _)) λ_=>kM (λ_=>zuca ?_ ?_ (zdaa ?_) (λ_=>hk _ _)) λ_=>kM (λ_=>ziba ?_ λ_=>hk _ _) λ_=>kM (λ_=>ziba ?_ λ_=>hk _ _) λ_=>kM (λ_=>zqaa ?_ λ_=>hk _ _) λ_=>kM (λ_=>zqaa ?_ λ_=>hk _ _) λ_=>kM (λ_=>zqaa ?_ λ_=>hk _ _) λ_=>kM (λ_=>zqaa ?_ λ_=>hk _ _) λ_=>kM (λ_=>zqaa ?_ λ_=>hk _ _) λ_=>kM (λ_=>zqaa ?_ λ_=>hk _ _) λ_=>hk _ _) λ_=>kM (λ_=>ziba ?_ λ_=>kM (λ_=>zpba λ_=>hk _ _) λ_=>kM (λ_=>zpba λ_=>hk _ _) λ_=>kM (λ_=>zwca ?_ (zdaa ?_) (λ_=>hk _ _)) λ_=>kM (λ_=>zwca ?_ (zdaa ?_) (λ_=>hk _ _)) λ_=>kM (λ_=>zvca ?_ ?_ (zdaa ?_) (λ_=>hk _ _)) λ_=>kM (λ_=>zvca ?_ ?_ (zdaa ?_) (λ_=>hk _ _)) λ_=>kM (λ_=>zuca ?_ ?_ (zdaa ?_) (λ_=>hk _ _)) λ_=>kM (λ_=>zuca ?_ ?_ (zdaa ?_) (λ_=>hk _ _)) λ_=>kM (λ_=>ziba ?_ λ_=>hk _ _) λ_=>kM (λ_=>ziba ?_ λ_=>hk _ _) λ_=>kM (λ_=>zqaa ?_ λ_=>hk _ _) λ_=>kM (λ_=>zqaa ?_ λ_=>hk _ _) λ_=>kM (λ_=>zqaa ?_ λ_=>hk _ _) λ_=>kM (λ_=>zqaa ?_ λ_=>hk _ _) λ_=>kM (λ_=>zqaa ?_ λ_=>hk _ _) λ_=>kM (λ_=>zqaa ?_ λ_=>hk _ _) λ_=>hk _ _) λ_=>ziba ?_ λ_=>kM (λ_=>zpba λ_=>hk _ _) λ_=>kM (λ_=>zpba λ_=>hk _ _) λ_=>kM (λ_=>zwca ?_ (zdaa ?_) (λ_=>hk _ _)) λ_=>kM (λ_=>zwca ?_ (zdaa ?_) (λ_=>hk _ _)) λ_=>kM (λ_=>zvca ?_ ?_ (zdaa ?_) (λ_=>hk _ _)) λ_=>kM (λ_=>zvca ?_ ?_ (zdaa ?_) (λ_=>hk _ _)) λ_=>kM (λ_=>zuca ?_ ?_ (zdaa ?_) (λ_=>hk _ _)) λ_=>kM (λ_=>zuca ?_ ?_ (zdaa ?_) (λ_=>hk _ _)) λ_=>kM (λ_=>ziba ?_ λ_=>hk _ _) λ_=>kM (λ_=>ziba ?_ λ_=>hk _ _) λ_=>kM (λ_=>zqaa ?_ λ_=>hk _ _) λ_=>kM (λ_=>zqaa ?_ λ_=>hk _ _) λ_=>kM (λ_=>zqaa ?_ λ_=>hk _ _) λ_=>kM (λ_=>zqaa ?_ λ_=>hk _ _) λ_=>kM (λ_=>zqaa ?_ λ_=>hk _ _) λ_=>kM (λ_=>zqaa ?_ λ_=>hk _ _) λ_=>hk _ _
 all_goals first|omega|assumption|(simp (disch:=omega) only[kA,kB,kC,kD,kE,kF,kG,kH,kI,kJ,kK]<;>omega)
theorem zhNa {f0 f1 f2:Int} {k_normal:Int→Int→Int→Int→Option R} {k_ret:Int→Int→Bool→Option R} (q0:(∀(w2 w3:Int),(w2=32∨w2=64)→Φ (k_normal f1 f2 w2 w3))) (q1:(∀(w0 w1:Int) (w2:Bool),Φ (k_ret w0 w1 w2))):Φ (zepa k_normal k_ret ⟨f0,f1,f2⟩):=by
 unfold zepa
 try dsimp only
 refine kL (λ_=>kL (λ_=>q0 _ _ ?_) λ_=>kL (λ_=>kL (λ_=>q0 _ _ ?_) λ_=>kL (λ_=>kL (λ_=>q0 _ _ ?_) λ_=>kL (λ_=>kL (λ_=>q0 _ _ ?_) λ_=>q1 _ _ _) λ_=>q1 _ _ _) λ_=>kL (λ_=>kL (λ_=>q0 _ _ ?_) λ_=>q1 _ _ _) λ_=>q1 _ _ _) λ_=>kL (λ_=>kL (λ_=>q0 _ _ ?_) λ_=>kL (λ_=>kL (λ_=>q0 _ _ ?_) λ_=>q1 _ _ _) λ_=>q1 _ _ _) λ_=>kL (λ_=>kL (λ_=>q0 _ _ ?_) λ_=>q1 _ _ _) λ_=>q1 _ _ _) λ_=>kL (λ_=>kL (λ_=>q0 _ _ ?_) λ_=>kL (λ_=>kL (λ_=>q0 _ _ ?_) λ_=>kL (λ_=>kL (λ_=>q0 _ _ ?_) λ_=>q1 _ _ _) λ_=>q1 _ _ _) λ_=>kL (λ_=>kL (λ_=>q0 _ _ ?_) λ_=>q1 _ _ _) λ_=>q1 _ _ _) λ_=>kL (λ_=>kL (λ_=>q0 _ _ ?_) λ_=>kL (λ_=>kL (λ_=>q0 _ _ ?_) λ_=>q1 _ _ _) λ_=>q1 _ _ _) λ_=>kL (λ_=>kL (λ_=>q0 _ _ ?_) λ_=>q1 _ _ _) λ_=>q1 _ _ _
 all_goals omega
theorem zCga {a0 a1 a2:Int} {a3:Bool} {K:Bool→Option R} (hk:∀(r0:Bool),Φ (K r0)):Φ (zTia a0 a1 a2 a3 K):=by
 unfold zTia
 try dsimp only
 exact kO (λ_=>kW<|hk _) λ_=>hk _
theorem zlba {a0 a1:Int} {K:Int→Option R} (p0:a1=32∨a1=64) (hk:∀(r0:Int),Φ (K r0)):Φ (zPaa a0 a1 K):=by
 unfold zPaa
 try dsimp only
 refine ziba ?_ λ_=>hk _
 all_goals omega
theorem znNa {f1 f2 f9:Int} {k_exit_2:Int→Int→Option R}:∀ {n:Nat} {f12 f13:Int},(0≤f13)→(f9≤1000000000)→(f9-f13).toNat<n→(∀(w1:Int),Φ (k_exit_2 f9 w1))→Φ (loopN (zmpa k_exit_2) n ⟨f1,f2,f9,f12,f13⟩):=by
 intro n; induction n; intros; omega; rename_i n ih; intro f12 f13 i0 i1 hm q0;rw[zaaa];unfold zmpa zuwa
 try dsimp only
 refine kL (λ_=>zCda λ_=>kM (λ_=>kW<|ih ?_ ?_ ?_ q0) λ_=>ih ?_ ?_ ?_ q0) λ_=>q0 _
 all_goals first|omega|assumption|(simp (disch:=omega) only[kA,kB,kC,kD,kE,kF,kG,kH,kI,kJ,kK]<;>omega)
theorem zOIa {f0 f1:Int} {k_exit_0:Int→Int→Option R}:∀ {n:Nat} {f6 f7 f8:Int},(f8≤1000000000)→(f8+1).toNat<n→(∀(w0 w1:Int),Φ (k_exit_0 w0 w1))→Φ (loopN (zela k_exit_0) n ⟨f0,f1,f6,f7,f8⟩):=by
 intro n; induction n; intros; omega; rename_i n ih; intro f6 f7 f8 i0 hm q0;rw[zaaa];unfold zela
 try dsimp only
 refine kL (λ_=>kR ?_ λ_=>zCda λ_=>kM (λ_=>ih ?_ ?_ q0) λ_=>kL (λ_=>ih ?_ ?_ q0) λ_=>ih ?_ ?_ q0) λ_=>q0 _ _
 all_goals first|omega|assumption|(simp (disch:=omega) only[kA,kB,kC,kD,kE,kF,kG,kH,kI,kJ,kK]<;>omega)
theorem zDja {a0 a1:Int} {K:Int→Int→Option R} (hk:∀(r0 r1:Int),Φ (K r0 r1)):Φ (zJda a0 a1 K):=by
 unfold zJda
 try dsimp only
 refine zOIa ?_ (zdaa ?_) (λ_ _=>hk _ _)
 all_goals omega
theorem zCja {a0 a1 a2:Int} {a3:Bool} {K:Int→Int→Int→Int→Option R} (p0:a2=32∨a2=64) (hk:∀(r0 r1 r2 r3:Int),Φ (K r0 r1 r2 r3)):Φ (zida a0 a1 a2 a3 K):=by
 unfold zida
 try dsimp only
 refine kM (λ_=>hk _ _ _ _) λ_=>kW<|kU (kO (λ_=>kL (λ_=>zlba ?_ λ_=>kL (λ_=>zlba ?_ λ_=>zDja λ_ _=>kL (λ_=>zlba ?_ λ_=>kU (kM (λ_=>kL (λ_=>hk _ _ _ _) λ_=>hk _ _ _ _) λ_=>zlba ?_ λ_=>hk _ _ _ _)) λ_=>kU (kM (λ_=>kL (λ_=>hk _ _ _ _) λ_=>hk _ _ _ _) λ_=>zlba ?_ λ_=>hk _ _ _ _)) λ_=>zDja λ_ _=>kL (λ_=>zlba ?_ λ_=>kU (kM (λ_=>kL (λ_=>hk _ _ _ _) λ_=>hk _ _ _ _) λ_=>zlba ?_ λ_=>hk _ _ _ _)) λ_=>kU (kM (λ_=>kL (λ_=>hk _ _ _ _) λ_=>hk _ _ _ _) λ_=>zlba ?_ λ_=>hk _ _ _ _)) λ_=>kL (λ_=>zlba ?_ λ_=>zDja λ_ _=>kL (λ_=>zlba ?_ λ_=>kU (kM (λ_=>kL (λ_=>hk _ _ _ _) λ_=>hk _ _ _ _) λ_=>zlba ?_ λ_=>hk _ _ _ _)) λ_=>kU (kM (λ_=>kL (λ_=>hk _ _ _ _) λ_=>hk _ _ _ _) λ_=>zlba ?_ λ_=>hk _ _ _ _)) λ_=>zDja λ_ _=>kL (λ_=>zlba ?_ λ_=>kU (kM (λ_=>kL (λ_=>hk _ _ _ _) λ_=>hk _ _ _ _) λ_=>zlba ?_ λ_=>hk _ _ _ _)) λ_=>kU (kM (λ_=>kL (λ_=>hk _ _ _ _) λ_=>hk _ _ _ _) λ_=>zlba ?_ λ_=>hk _ _ _ _)) λ_=>zDja λ_ _=>hk _ _ _ _)
 all_goals omega
theorem zmNa {f0 f1 f2:Int} {k_exit_0:Int→Option R}:∀ {n:Nat} {f7 f8:Int},(f8≤1000000000)→(f8+1).toNat<n→(∀(w0:Int),Φ (k_exit_0 w0))→Φ (loopN (zlpa k_exit_0) n ⟨f0,f1,f2,f7,f8⟩):=by
 intro n; induction n; intros; omega; rename_i n ih; intro f7 f8 i0 hm q0;rw[zaaa];unfold zlpa
 try dsimp only
 refine kL (λ_=>zCda λ_=>zCda λ_=>kM (λ_=>kM (λ_=>ih ?_ ?_ q0) λ_=>kM (λ_=>kL (λ_=>ih ?_ ?_ q0) λ_=>kM (λ_=>kM (λ_=>ih ?_ ?_ q0) λ_=>ih ?_ ?_ q0) λ_=>ih ?_ ?_ q0) λ_=>kM (λ_=>kM (λ_=>ih ?_ ?_ q0) λ_=>ih ?_ ?_ q0) λ_=>ih ?_ ?_ q0) λ_=>kM (λ_=>kL (λ_=>ih ?_ ?_ q0) λ_=>kM (λ_=>kM (λ_=>ih ?_ ?_ q0) λ_=>ih ?_ ?_ q0) λ_=>ih ?_ ?_ q0) λ_=>kM (λ_=>kM (λ_=>ih ?_ ?_ q0) λ_=>ih ?_ ?_ q0) λ_=>ih ?_ ?_ q0) λ_=>q0 _
 all_goals first|omega|assumption|(simp (disch:=omega) only[kA,kB,kC,kD,kE,kF,kG,kH,kI,kJ,kK]<;>omega)
theorem zMCa {a0 a1 a2:Int} {K:Int→Option R} (hk:∀(r0:Int),Φ (K r0)):Φ (zhva a0 a1 a2 K):=by
 unfold zhva
 try dsimp only
 refine zmNa ?_ (zdaa ?_) (λ_=>hk _)
 all_goals omega
theorem zwKa {f0 f1 f2 f3:Int} {k_exit_0:Int→Option R}:∀ {n:Nat} {f9 f10:Int},(f10≤1000000000)→(f10+1).toNat<n→(∀(w0:Int),Φ (k_exit_0 w0))→Φ (loopN (zxma k_exit_0) n ⟨f0,f1,f2,f3,f9,f10⟩):=by
 intro n; induction n; intros; omega; rename_i n ih; intro f9 f10 i0 hm q0;rw[zaaa];unfold zxma
 try dsimp only
 refine kL (λ_=>kL (λ_=>kL (λ_=>zCda λ_=>kL (λ_=>ih ?_ ?_ q0) λ_=>ih ?_ ?_ q0) λ_=>kL (λ_=>ih ?_ ?_ q0) λ_=>ih ?_ ?_ q0) λ_=>kL (λ_=>ih ?_ ?_ q0) λ_=>ih ?_ ?_ q0) λ_=>q0 _
 all_goals first|omega|assumption|(simp (disch:=omega) only[kA,kB,kC,kD,kE,kF,kG,kH,kI,kJ,kK]<;>omega)
theorem zDxa {a0 a1 a2 a3:Int} {K:Int→Option R} (p0:a2=32∨a2=64) (hk:∀(r0:Int),Φ (K r0)):Φ (zlja a0 a1 a2 a3 K):=by
 unfold zlja
 try dsimp only
 refine zwKa ?_ (zdaa ?_) (λ_=>hk _)
 all_goals first|omega|assumption|(simp (disch:=omega) only[kA,kB,kC,kD,kE,kF,kG,kH,kI,kJ,kK]<;>omega)
theorem zMIa {f0 f1 f2:Int} {k_exit_0:Int→Option R}:∀ {n:Nat} {f7 f8:Int},(f8≤1000000000)→(f2=32∨f2=64)→(f8+1).toNat<n→(∀(w0:Int),Φ (k_exit_0 w0))→Φ (loopN (zcla k_exit_0) n ⟨f0,f1,f2,f7,f8⟩):=by
 intro n; induction n; intros; omega; rename_i n ih; intro f7 f8 i0 i1 hm q0;rw[zaaa];unfold zcla
 try dsimp only
 refine kL (λ_=>kS ?_<|kS ?_<|zCda λ_=>ih ?_ ?_ ?_ q0) λ_=>q0 _
 all_goals first|(rcases i1 with h|h<;>subst h<;>rfl)|with_reducible assumption|omega|with_reducible exact (zuaa _).1|with_reducible exact (zuaa _).2|rfl|(simp (disch:=omega) only[kA,kB,kC,kD,kE,kF,kG,kH,kI,kJ,kK]<;>omega)|((iterate 2 (try simp (disch:=omega) only[kA,kB,kC,kD,kE,kF,kG,kH,kI,kJ,kK]at *))<;>omega)
theorem zhEa {a0 a1 a2:Int} {K:Int→Option R} (p0:a2=32∨a2=64) (hk:∀(r0:Int),Φ (K r0)):Φ (zdka a0 a1 a2 K):=by
 unfold zdka
 try dsimp only
 refine zMIa ?_ ?_ (zdaa ?_) (λ_=>hk _)
 all_goals first|omega|assumption|(simp (disch:=omega) only[kA,kB,kC,kD,kE,kF,kG,kH,kI,kJ,kK]<;>omega)
theorem zgNa {f1 f2 f9 f10 f11:Int} {k_ret:Int→Int→Bool→Option R} {k_normal:Int→Int→Int→Option R} (p0:f9=32∨f9=64) (q0:(∀(w0 w1:Int) (w2:Bool),Φ (k_ret w0 w1 w2))) (q1:(Φ (k_normal f1 f9 f11))):Φ (zdpa k_ret k_normal ⟨f1,f2,f9,f10,f11⟩):=by
 unfold zdpa
 try dsimp only
 refine kM (λ_=>zpba λ_=>q0 _ _ _) λ_=>kM (λ_=>zpba λ_=>q0 _ _ _) λ_=>kM (λ_=>zCga λ_=>zpba λ_=>q0 _ _ _) λ_=>kM (λ_=>zCga λ_=>zpba λ_=>q0 _ _ _) λ_=>kM (λ_=>zCga λ_=>zpba λ_=>q0 _ _ _) λ_=>kM (λ_=>zCga λ_=>zpba λ_=>q0 _ _ _) λ_=>kM (λ_=>zCga λ_=>zpba λ_=>q0 _ _ _) λ_=>kM (λ_=>zCga λ_=>zpba λ_=>q0 _ _ _) λ_=>kM (λ_=>zCga λ_=>zpba λ_=>q0 _ _ _) λ_=>kM (λ_=>zCga λ_=>zpba λ_=>q0 _ _ _) λ_=>kM (λ_=>ziba ?_ λ_=>q0 _ _ _) λ_=>kM (λ_=>zlba ?_ λ_=>ziba ?_ λ_=>q0 _ _ _) λ_=>kM (λ_=>znNa ?_ ?_ (zdaa ?_) (λ_=>ziba ?_ λ_=>q0 _ _ _)) λ_=>kM (λ_=>zCja ?_ λ_ _ _ _=>q0 _ _ _) λ_=>kM (λ_=>zCja ?_ λ_ _ _ _=>q0 _ _ _) λ_=>kM (λ_=>zCja ?_ λ_ _ _ _=>q0 _ _ _) λ_=>kM (λ_=>zCja ?_ λ_ _ _ _=>q0 _ _ _) λ_=>kM (λ_=>zMCa λ_=>q0 _ _ _) λ_=>kM (λ_=>zMCa λ_=>q0 _ _ _) λ_=>kM (λ_=>zMCa λ_=>q0 _ _ _) λ_=>kM (λ_=>zDxa ?_ λ_=>q0 _ _ _) λ_=>kM (λ_=>zCda λ_=>zDxa ?_ λ_=>q0 _ _ _) λ_=>kM (λ_=>zDxa ?_ λ_=>q0 _ _ _) λ_=>kM (λ_=>zhEa ?_ λ_=>q0 _ _ _) λ_=>q1
 all_goals omega
theorem zjWa {a0 a1 a2:Int} {K:Int→Int→Bool→Option R} (hk:∀(r0 r1:Int) (r2:Bool),Φ (K r0 r1 r2)):Φ (zVza a0 a1 a2 K):=by
 unfold zVza
 try dsimp only
 refine zhNa (λ_ _ _=>ziba ?_ λ_=>ziba ?_ λ_=>kS ?_<|zgNa ?_ (λ_ _ _=>hk _ _ _) (zhEa ?_ λ_=>hk _ _ _)) (λ_ _ _=>hk _ _ _)
 all_goals first|exact zX2a (by assumption)|with_reducible assumption|omega|with_reducible exact (zuaa _).1|with_reducible exact (zuaa _).2|rfl|(simp (disch:=omega) only[kA,kB,kC,kD,kE,kF,kG,kH,kI,kJ,kK]<;>omega)|((iterate 2 (try simp (disch:=omega) only[kA,kB,kC,kD,kE,kF,kG,kH,kI,kJ,kK]at *))<;>omega)
theorem zzRa {a0:Int} {K:Tl→Int→Bool→Option R} (hk:∀(r0:Tl) (r1:Int) (r2:Bool),Φ (K r0 r1 r2)):Φ (zPra a0 K):=by
 unfold zPra
 try dsimp only
 exact zlPa λ_=>zcXa λ_ _=>kO (λ_=>kL (λ_=>kL (λ_=>hk _ _ _) λ_=>kM (λ_=>hk _ _ _) λ_=>kM (λ_=>hk _ _ _) λ_=>kL (λ_=>hk _ _ _) λ_=>hk _ _ _) λ_=>kM (λ_=>hk _ _ _) λ_=>kM (λ_=>hk _ _ _) λ_=>kL (λ_=>hk _ _ _) λ_=>hk _ _ _) λ_=>zjWa λ_ _ _=>kO (λ_=>kL (λ_=>hk _ _ _) λ_=>hk _ _ _) λ_=>hk _ _ _
theorem zSha {a0:Int} {K:Tb→Option R} (hk:∀(r0:Tb),(r0.length≤2)→Φ (K r0)):Φ (zYda a0 K):=by
 unfold zYda
 try dsimp only
 refine kM (λ_=>hk _ ?_) λ_=>kM (λ_=>hk _ ?_) λ_=>kM (λ_=>hk _ ?_) λ_=>kM (λ_=>hk _ ?_) λ_=>kM (λ_=>hk _ ?_) λ_=>kM (λ_=>hk _ ?_) λ_=>kM (λ_=>hk _ ?_) λ_=>kM (λ_=>hk _ ?_) λ_=>kM (λ_=>hk _ ?_) λ_=>kM (λ_=>hk _ ?_) λ_=>kM (λ_=>hk _ ?_) λ_=>kM (λ_=>hk _ ?_) λ_=>kM (λ_=>hk _ ?_) λ_=>kM (λ_=>hk _ ?_) λ_=>kM (λ_=>hk _ ?_) λ_=>kM (λ_=>hk _ ?_) λ_=>kM (λ_=>hk _ ?_) λ_=>kM (λ_=>hk _ ?_) λ_=>kM (λ_=>hk _ ?_) λ_=>kM (λ_=>hk _ ?_) λ_=>kM (λ_=>hk _ ?_) λ_=>kM (λ_=>hk _ ?_) λ_=>kM (λ_=>hk _ ?_) λ_=>kM (λ_=>hk _ ?_) λ_=>kM (λ_=>hk _ ?_) λ_=>kM (λ_=>hk _ ?_) λ_=>kM (λ_=>hk _ ?_) λ_=>kM (λ_=>hk _ ?_) λ_=>kM (λ_=>hk _ ?_) λ_=>kM (λ_=>hk _ ?_) λ_=>kM (λ_=>hk _ ?_) λ_=>zlEa ?_ ?_ ?_ ?_ (zdaa ?_) (λ_ _=>hk _ ?_) (zbXa λ_ _=>kO (λ_=>hk _ ?_) λ_=>zzRa λ_ _ _=>kO (λ_=>hk _ ?_) λ_=>hk _ ?_)
 all_goals first|omega|assumption|(simp (disch:=omega) only[kA,kB,kC,kD,kE,kF,kG,kH,kI,kJ,kK]<;>omega)
theorem zrNa  {k_ret:Tl→Option R}:∀ {n:Nat} {f0:Int} {f3:Tl},(0≤f0)→(f3.length≤9)→(f0<lim f3.length)→f0.toNat<n→(∀(w0:Tl),(w0.length≤10)→Φ (k_ret w0))→Φ (loopN (zppa k_ret) n ⟨f0,f3⟩):=by
 intro n; induction n; intros; omega; rename_i n ih; intro f0 f3 i0 i1 i2 hm q0;have g:=zT0a i0 i1 i2;rw[zaaa];unfold zppa
 try dsimp only
 refine kS rfl<|kS rfl<|kM (λ_=>kY ?_<|q0 _ ?_) λ_=>kY ?_<|ih ?_ ?_ ?_ ?_ q0
 all_goals first|omega|assumption|(simp (disch:=omega) only[kA,kB,kC,kD,kE,kF,kG,kH,kI,kJ,kK]<;>omega)
theorem zoNa {f0:Int} {k_exit_0:Int→Option R}:∀ {n:Nat} {f3:Int},(1≤f0)→(f0≤64)→(0≤f3)→(7*f3≤f0+6)→(100-f3).toNat<n→(∀(w0:Int),(0≤w0)→(7*w0≤f0+6)→(f0≤7*w0)→Φ (k_exit_0 w0))→Φ (loopN (znpa k_exit_0) n ⟨f0,f3⟩):=by
 intro n; induction n; intros; omega; rename_i n ih; intro f3 i0 i1 i2 i3 hm q0;rw[zaaa];unfold znpa
 try dsimp only
 refine kL (λ_=>ih ?_ ?_ ?_ ?_ ?_ q0) λ_=>q0 _ ?_ ?_ ?_
 all_goals first|with_reducible assumption|omega|with_reducible exact (zuaa _).1|with_reducible exact (zuaa _).2|rfl|(simp (disch:=omega) only[kA,kB,kC,kD,kE,kF,kG,kH,kI,kJ,kK]<;>omega)|((iterate 2 (try simp (disch:=omega) only[kA,kB,kC,kD,kE,kF,kG,kH,kI,kJ,kK]at *))<;>omega)
theorem zmKa {a0:Int} {K:Int→Option R} (p0:1≤a0) (p1:a0≤64) (hk:∀(r0:Int),(0≤r0)→(7*r0≤a0+6)→(a0≤7*r0)→Φ (K r0)):Φ (zkva a0 K):=by
 unfold zkva
 try dsimp only
 refine zoNa ?_ ?_ ?_ ?_ (zdaa ?_) (λ_ _ _ _=>hk _ ?_ ?_ ?_)
 all_goals omega
theorem zAKa {N:Nat} {f0:Tl} {f1 f8:Int} {k_exit_2:Tl→Int→List Bool→Int→Option R}:∀ {n:Nat} {f7:List Bool} {f9:Int},(0≤f8)→(f8<f0.length)→(0≤f9)→(f9≤7)→(N≤63)→((f7.length:Int)=N+f9)→(7-f9).toNat<n→(∀(w2:List Bool),(w2.length=N+7)→Φ (k_exit_2 f0 f1 w2 f8))→Φ (loopN (zJfa k_exit_2) n ⟨f0,f1,f7,f8,f9⟩):=by
 intro n; induction n; intros; omega; rename_i n ih; intro f7 f9 i0 i1 i2 i3 i4 i5 hm q0;rw[zaaa];unfold zJfa
 try dsimp only
 refine kL (λ_=>kP ?_ λ_=>kW<|kS rfl<|kY ?_<|ih ?_ ?_ ?_ ?_ ?_ ?_ ?_ q0) λ_=>q0 _ ?_
 all_goals first|omega|assumption|(simp (disch:=omega) only[kA,kB,kC,kD,kE,kF,kG,kH,kI,kJ,kK]<;>omega)
theorem zqNa {f0:Tl} {f1:Int} {k_ret:List Bool→Int→Int→Option R} {k_exit_0:Option R}:∀ {n:Nat} {f7:List Bool} {f8:Int},(1≤f1)→(f1≤64)→(0≤f8)→(f8≤10)→((f7.length:Int)=7*f8)→(f8≤f0.length)→(f0.length≤1000000000)→(11-f8).toNat<n→(∀(w0:List Bool) (w1 w2:Int),(0≤w1)→(w1≤f0.length)→(w0.length≤70)→(w2=0→7≤w0.length)→Φ (k_ret w0 w1 w2))→(Φ (k_exit_0))→Φ (loopN (zGha k_ret k_exit_0) n ⟨f0,f1,f7,f8⟩):=by
 intro n; induction n; intros; omega; rename_i n ih; intro f7 f8 i0 i1 i2 i3 i4 i5 i6 hm q0 q1;rw[zaaa];unfold zGha
 try dsimp only
 refine zmKa ?_ ?_ λ_ _ _ _=>kL (λ_=>kL (λ_=>q0 _ _ _ ?_ ?_ ?_ ?_) λ_=>zAKa (N:=f7.length) ?_ ?_ ?_ ?_ ?_ ?_ (zdaa ?_) (λ_ _=>kP ?_ λ_=>kL (λ_=>q0 _ _ _ ?_ ?_ ?_ ?_) λ_=>ih ?_ ?_ ?_ ?_ ?_ ?_ ?_ ?_ q0 q1)) λ_=>q1
 all_goals first|omega|assumption|(simp (disch:=omega) only[kA,kB,kC,kD,kE,kF,kG,kH,kI,kJ,kK]<;>omega)
theorem znKa {a0:Tl} {a1:Int} {K:List Bool→Int→Int→Option R} (p0:1≤a1) (p1:a1≤64) (p2:a0.length≤1000000000) (hk:∀(r0:List Bool) (r1 r2:Int),(0≤r1)→(r1≤a0.length)→(r0.length≤70)→(r2=0→7≤r0.length)→Φ (K r0 r1 r2)):Φ (zUia a0 a1 K):=by
 unfold zUia
 try dsimp only
 refine kL (λ_=>hk _ _ _ ?_ ?_ ?_ ?_) λ_=>kL (λ_=>hk _ _ _ ?_ ?_ ?_ ?_) λ_=>zqNa ?_ ?_ ?_ ?_ ?_ ?_ ?_ (zdaa ?_) (λ_ _ _ _ _ _ _=>hk _ _ _ ?_ ?_ ?_ ?_) (hk _ _ _ ?_ ?_ ?_ ?_)
 all_goals first|omega|assumption|(simp (disch:=omega) only[kA,kB,kC,kD,kE,kF,kG,kH,kI,kJ,kK]<;>omega)
theorem zNTa {f1:Int} {f7:List Bool} {f8:Int} {k_ret:Int→Int→Int→Option R} {k_exit_0:Int→Int→Option R}:∀ {n:Nat} {f10 f11:Int},(0≤f11)→(f7.length≤1000000000)→(f11≤f7.length)→(f1=32)→(f7.length≤70)→(0≤f10)→(f10≤2147483648*f11)→((f7.length:Int)-f11).toNat<n→(∀(w0 w1 w2:Int),(w0=0)→(w1=0)→Φ (k_ret w0 w1 w2))→(∀(w1:Int),(0≤w1)→(w1≤200000000000)→Φ (k_exit_0 f8 w1))→Φ (loopN (zdAa k_ret k_exit_0) n ⟨f1,f7,f8,f10,f11⟩):=by
 intro n; induction n; intros; omega; rename_i n ih; intro f10 f11 i0 i1 i2 i3 i4 i5 i6 hm q0 q1;have g:=shl_o f11;rw[zaaa];unfold zdAa
 try dsimp only
 refine kL (λ_=>kP ?_ λ_=>kU (kO (λ_=>kL (λ_=>q0 _ _ _ ?_ ?_) λ_=>kW<|ih ?_ ?_ ?_ ?_ ?_ ?_ ?_ ?_ q0 q1) λ_=>ih ?_ ?_ ?_ ?_ ?_ ?_ ?_ ?_ q0 q1)) λ_=>q1 _ ?_ ?_
 all_goals first|omega|assumption|(simp (disch:=omega) only[kA,kB,kC,kD,kE,kF,kG,kH,kI,kJ,kK]<;>omega)
theorem zEja {a0:Tl} {a1:Int} {K:Int→Int→Int→Option R} (p0:a1=32) (p1:a0.length≤1000000000) (hk:∀(r0 r1 r2:Int),(0≤r0)→(r0≤200000000000)→(0≤r1)→(r1≤a0.length)→Φ (K r0 r1 r2)):Φ (zeka a0 a1 K):=by
 unfold zeka
 try dsimp only
 refine znKa ?_ ?_ ?_ λ_ _ _ _ _ _ _=>kN (λ_=>hk _ _ _ ?_ ?_ ?_ ?_) λ_=>zNTa ?_ ?_ ?_ ?_ ?_ ?_ ?_ (zdaa ?_) (λ_ _ _ _ _=>hk _ _ _ ?_ ?_ ?_ ?_) (λ_ _ _=>hk _ _ _ ?_ ?_ ?_ ?_)
 all_goals omega
theorem zOTa {f1:Int} {f7:List Bool} {f8:Int} {k_ret:Int→Int→Int→Option R} {k_exit_0:List Bool→Int→Option R}:∀ {n:Nat} {f10:Int},(0≤f10)→(f7.length≤1000000000)→(1≤f1)→(f1≤f10)→((f7.length:Int)-f10).toNat<n→(∀(w0 w1 w2:Int),(w1=0)→Φ (k_ret w0 w1 w2))→(Φ (k_exit_0 f7 f8))→Φ (loopN (ztpa k_ret k_exit_0) n ⟨f1,f7,f8,f10⟩):=by
 intro n; induction n; intros; omega; rename_i n ih; intro f10 i0 i1 i2 i3 hm q0 q1;rw[zaaa];unfold ztpa
 try dsimp only
 refine kL (λ_=>kP ?_ λ_=>kP ?_ λ_=>kU (kM (λ_=>ih ?_ ?_ ?_ ?_ ?_ q0 q1) λ_=>q0 _ _ _ ?_)) λ_=>q1
 all_goals first|omega|assumption|(simp (disch:=omega) only[kA,kB,kC,kD,kE,kF,kG,kH,kI,kJ,kK]<;>omega)
theorem zFRa {f7:List Bool} {f8:Int} {k_exit_2:Int→Int→Option R}:∀ {n:Nat} {f11 f12:Int},(f12≤1000000000)→(1≤f7.length)→(f7.length≤100)→(f12+1).toNat<n→(∀(w1:Int),Φ (k_exit_2 f8 w1))→Φ (loopN (zema k_exit_2) n ⟨f7,f8,f11,f12⟩):=by
 intro n; induction n; intros; omega; rename_i n ih; intro f11 f12 i0 i1 i2 hm q0;rw[zaaa];unfold zema
 try dsimp only
 refine kL (λ_=>kP ?_ λ_=>kL (λ_=>kP ?_ λ_=>kO (λ_=>ih ?_ ?_ ?_ ?_ q0) λ_=>ih ?_ ?_ ?_ ?_ q0) λ_=>kO (λ_=>ih ?_ ?_ ?_ ?_ q0) λ_=>ih ?_ ?_ ?_ ?_ q0) λ_=>q0 _
 all_goals first|omega|assumption|(simp (disch:=omega) only[kA,kB,kC,kD,kE,kF,kG,kH,kI,kJ,kK]<;>omega)
theorem zYJa {a0:Tl} {a1:Int} {K:Int→Int→Int→Option R} (p0:1≤a1) (p1:a1≤64) (p2:a0.length≤1000000000) (hk:∀(r0 r1 r2:Int),(0≤r1)→(r1≤a0.length)→Φ (K r0 r1 r2)):Φ (zLoa a0 a1 K):=by
 unfold zLoa
 try dsimp only
 refine znKa ?_ ?_ ?_ λ_ _ _ _ _ _ _=>kN (λ_=>hk _ _ _ ?_ ?_) λ_=>zOTa ?_ ?_ ?_ ?_ (zdaa ?_) (λ_ _ _ _=>hk _ _ _ ?_ ?_) (zFRa ?_ ?_ ?_ (zdaa ?_) (λ_=>hk _ _ _ ?_ ?_))
 all_goals omega
end Go.Trm.G1
namespace Go.Trm.G1
theorem zfda {R:Type} {Φ:Option R→Prop} {v:Int} {K:List Int→Option R} (hk:∀r:List Int,r.length≤10→Φ (K r)):Φ (zYba (IntKind.u64.wrap v) K):=by
 have h:=zuaa v;unfold zYba;exact zrNa h.1 (Nat.zero_le _) h.2 (zdaa (by omega)) hk
def dig (n s:Int) (j:Nat):Int:=n/2 ^ (7*j)%128+if (j:Int)<s-1 then 128 else 0
theorem zmYa (n s:Int) (j:Nat):0≤n/2 ^ (7*j)%128∧n/2 ^ (7*j)%128<128:=by omega
theorem zWVa {α:Type} (l:List α) (a d:α) (j:Nat):(l++[a]).getD j d=if j<l.length then l.getD j d else if j=l.length then a else d:=by
 rw[List.getD_eq_getElem?_getD];by_cases h:j<l.length
 ·rw[if_pos h,List.getElem?_append_left h,List.getD_eq_getElem?_getD]
 ·rw[if_neg h,List.getElem?_append_right (by omega)];by_cases h2:j=l.length
  ·rw[if_pos h2,h2]; simp
  ·rw[if_neg h2,List.getElem?_eq_none (by simp; omega)]; rfl
theorem dig_x {n i:Int} (h:0≤i) (h2:i<10) (hn : -9223372036854775808≤n∧n≤9223372036854775807):IntKind.u8.wrap (Int.tmod (IntKind.u64.wrap (shrI .i64 n (IntKind.u64.wrap (IntKind.i64.wrap (7*i))))) 128)=n/2 ^ (7*i.toNat)%128:=by
 rw[w_i64 (by omega),w_u64 (n:=7*i) (by omega)];have hb:n/2 ^ (7*i.toNat)%128=IntKind.u64.wrap (shrI .i64 n (7*i))%128:=by
  have e:shrI .i64 n (7*i)=n/2 ^ (7*i.toNat):=by
   unfold shrI;rw[Int.fdiv_eq_ediv_of_nonneg _ (by exact Int.le_of_lt (Int.pow_pos (by decide)))];have:min (7*i).toNat IntKind.i64.bits=7*i.toNat:=by
    have:IntKind.i64.bits=64:=rfl;omega
   rw[this]
  rw[e];have:∀x:Int,IntKind.u64.wrap x=x%18446744073709551616:=λ_=>rfl
  rw[this];omega
 have h0:=zuaa (shrI .i64 n (7*i));rw[Int.tmod_eq_emod_of_nonneg h0.1,w_u8 (by omega),hb]
theorem zZZa {n s i X:Int} {l:List Int} (hl:(l.length:Int)=i) (h:∀j:Nat,(j:Int)<i→l.getD j 0=dig n s j) (hi:i<10) (hx:X=dig n s i.toNat):∀j:Nat,(j:Int)<IntKind.i64.wrap (i+1)→(l++List.set (List.replicate 1 0) 0 X).getD j 0=dig n s j:=by
 intro j hj;rw[w_i64 (by omega)]at hj;show (l++[X]).getD j 0=_;rw[zWVa];by_cases hc:j<l.length
 ·rw[if_pos hc,h j (by omega)]
 ·rw[if_neg hc,if_pos (by omega),hx]
  congr 1
  omega
theorem dig_a {n s i:Int} (h:0≤i) (h2:i<10) (hs:s≤10) (hn : -9223372036854775808≤n∧n≤9223372036854775807) (h1:1≤s) (hc:i<IntKind.i64.wrap (s-1)):IntKind.u8.wrap (IntKind.u8.wrap (Int.tmod (IntKind.u64.wrap (shrI .i64 n (IntKind.u64.wrap (IntKind.i64.wrap (7*i))))) 128)+128)=dig n s i.toNat:=by
 rw[w_i64 (by omega)]at hc;rw[dig_x h h2 hn];have:=zmYa n s i.toNat;unfold dig;rw[if_pos (by omega),w_u8 (by omega)]
theorem dig_b {n s i:Int} (h:0≤i) (h2:i<10) (hs:s≤10) (hn : -9223372036854775808≤n∧n≤9223372036854775807) (h1:1≤s) (hc:¬i<IntKind.i64.wrap (s-1)):IntKind.u8.wrap (Int.tmod (IntKind.u64.wrap (shrI .i64 n (IntKind.u64.wrap (IntKind.i64.wrap (7*i))))) 128)=dig n s i.toNat:=by
 rw[w_i64 (by omega)]at hc;rw[dig_x h h2 hn];unfold dig;rw[if_neg (by omega)];omega
def bitB (b:List Int) (j:Nat):Bool:=decide (b.getD (j/7) 0/2 ^ (j%7)%2=1)
theorem zR2a {b:List Int} {l:List Bool} {i k:Int} (hi:0≤i) (hk:0≤k) (hk7:k<7) (hl:(l.length:Int)=7*i+k) (hb:0≤b.getD i.toNat 0) (h:∀j:Nat,j<l.length→l.getD j false=bitB b j) :
  ∀j:Nat,j<(l++List.set (List.replicate 1 false) 0 (Int.tmod (shrI .u8 (b.getD i.toNat 0) (IntKind.u64.wrap k)) 2==1)).length→(l++List.set (List.replicate 1 false) 0 (Int.tmod (shrI .u8 (b.getD i.toNat 0) (IntKind.u64.wrap k)) 2==1)).getD j false=bitB b j:=by
 intro j hj;have e:∀x:Bool,List.set (List.replicate 1 false) 0 x=[x]:=λ_=>rfl
 rw[e]at hj ⊢;rw[List.length_append,List.length_cons,List.length_nil]at hj;rw[zWVa];by_cases hc:j<l.length
 ·rw[if_pos hc,h j hc]
 ·rw[if_neg hc,if_pos (by omega)];have e1:j/7=i.toNat:=by omega
  have e2:j%7=k.toNat:=by omega
  unfold bitB;rw[e1,e2,w_u64 (by omega)];have e3:shrI .u8 (b.getD i.toNat 0) k=b.getD i.toNat 0/2 ^ k.toNat:=by
   unfold shrI;rw[Int.fdiv_eq_ediv_of_nonneg _ (by exact Int.le_of_lt (Int.pow_pos (by decide)))];have:min k.toNat IntKind.u8.bits=k.toNat:=by
    have:IntKind.u8.bits=8:=rfl;omega
   rw[this]
  have e4:0≤b.getD i.toNat 0/2 ^ k.toNat:=Int.ediv_nonneg hb (Int.le_of_lt (Int.pow_pos (by decide)));rw[e3,Int.tmod_eq_emod_of_nonneg e4];exact Bool.eq_iff_iff.2 (by simp)
theorem zQ2a {n:Int} {b:List Int} (h:∀j:Nat,(j:Int)<10→b.getD j 0=dig n 10 j) {j:Nat} (hj:j<70):bitB b j=decide (n/2 ^ j%2=1):=by
 unfold bitB;rw[h _ (by omega)];have h7:j%7<7:=Nat.mod_lt _ (by omega);have e1:n/2 ^ j=n/2 ^ (7*(j/7))/2 ^ (j%7):=by
  rw[Int.ediv_ediv_of_nonneg (Int.le_of_lt (Int.pow_pos (by decide))),←Int.pow_add]
  congr 2
  omega
 rw[e1];unfold dig;generalize n/2 ^ (7*(j/7))=x;generalize hk:j%7=k at h7;have:k=0∨k=1∨k=2∨k=3∨k=4∨k=5∨k=6:=by omega
 congr 1
 split<;>rcases this with h|h|h|h|h|h|h<;>subst h<;>(refine propext ?_; omega)
theorem zb0a {n:Int} (hn : -9223372036854775808≤n∧n≤9223372036854775807) {j:Nat} (hj:63≤j):n/2 ^ j=if n<0 then -1 else 0:=by
 have hp:(9223372036854775808:Int)≤2 ^ j:=by
  obtain ⟨k,rfl⟩:∃k,j=63+k:=⟨j-63,by omega⟩
  rw[Int.pow_add];have:(0:Int)<2 ^ k:=Int.pow_pos (by decide);have e:(2:Int) ^ 63=9223372036854775808:=by decide
  rw[e];omega
 generalize (2:Int) ^ j=p at hp;by_cases h:n<0
 ·rw[if_pos h];have h1:(n+p)/p=0:=Int.ediv_eq_zero_of_lt (by omega) (by omega);have h2:(n+1*p)/p=n/p+1:=Int.add_mul_ediv_right n 1 (by omega);rw[Int.one_mul]at h2;omega
 ·rw[if_neg h];exact Int.ediv_eq_zero_of_lt (by omega) (by omega)
theorem zE2a {n a b:Int} {k:Nat} (h:(18446744073709551616:Int)∣(a-n/2 ^ (k+1))*2 ^ (k+1)) (hb:n/2 ^ k%2=b):(18446744073709551616:Int)∣(IntKind.i64.wrap (IntKind.i64.wrap (a*2)+b)-n/2 ^ k)*2 ^ k:=by
 have e1:n/2 ^ (k+1)=n/2 ^ k/2:=by rw[Int.pow_succ,Int.ediv_ediv_of_nonneg (Int.le_of_lt (Int.pow_pos (by decide)))]
 rw[e1,Int.pow_succ]at h;generalize n/2 ^ k=q at h hb ⊢;have hw:∀x:Int,∃t:Int,IntKind.i64.wrap x=x+18446744073709551616*t:=by
  intro x;rw[IntKind.wrap_i64];exact ⟨-((x+9223372036854775808)/18446744073709551616),by omega⟩
 obtain ⟨t1,e2⟩:=hw (a*2);obtain ⟨t2,e3⟩:=hw (IntKind.i64.wrap (a*2)+b);rw[e3,e2];obtain ⟨c,hc⟩:=h;have hq:q=2*(q/2)+b:=by omega
 generalize q/2=r at hq hc;subst hq;generalize (2:Int) ^ k=p at hc ⊢;refine ⟨c+(t1+t2)*p,?_⟩;have:(a*2+18446744073709551616*t1+b+18446744073709551616*t2-(2*r+b))*p=(a-r)*(p*2)+18446744073709551616*((t1+t2)*p):=by grind
 rw[this,hc,Int.mul_add]
theorem zXZa (n:Int) : -9223372036854775808≤IntKind.i64.wrap n∧IntKind.i64.wrap n≤9223372036854775807:=by rw[IntKind.wrap_i64]; omega
theorem zA1a {l:List Bool} {N i f1:Int} (h:∀j:Nat,j<70→l.getD j false=decide (N/2 ^ j%2=1)) (hn : -9223372036854775808≤N∧N≤9223372036854775807) (h1:f1=64) (hi:64≤i) (h2:i<70):l.getD i.toNat false=l.getD (IntKind.i64.wrap (f1-1)).toNat false:=by
 subst h1;have e:(IntKind.i64.wrap (64-1)).toNat=63:=by decide
 rw[e,h _ (by omega),h _ (by omega),zb0a hn (by omega),zb0a hn (by omega)]
theorem horn1 {l:List Bool} {N a i:Int} (h:∀j:Nat,j<70→l.getD j false=decide (N/2 ^ j%2=1)) (hi:0≤i) (h2:i≤63) (hd:(18446744073709551616:Int)∣(a-N/2 ^ (i+1).toNat)*2 ^ (i+1).toNat) (hb:l.getD i.toNat false=true):(18446744073709551616:Int)∣(IntKind.i64.wrap (IntKind.i64.wrap (a*2)+1)-N/2 ^ (IntKind.i64.wrap (i-1)+1).toNat)*2 ^ (IntKind.i64.wrap (i-1)+1).toNat:=by
 have e:(IntKind.i64.wrap (i-1)+1).toNat=i.toNat:=by rw[w_i64 (by omega)]; omega
 have e2:(i+1).toNat=i.toNat+1:=by omega
 rw[e];rw[e2]at hd;rw[h _ (by omega)]at hb;exact zE2a hd (of_decide_eq_true hb)
theorem horn0 {l:List Bool} {N a i:Int} (h:∀j:Nat,j<70→l.getD j false=decide (N/2 ^ j%2=1)) (hi:0≤i) (h2:i≤63) (hd:(18446744073709551616:Int)∣(a-N/2 ^ (i+1).toNat)*2 ^ (i+1).toNat) (hb:l.getD i.toNat false=false):(18446744073709551616:Int)∣(IntKind.i64.wrap (a*2)-N/2 ^ (IntKind.i64.wrap (i-1)+1).toNat)*2 ^ (IntKind.i64.wrap (i-1)+1).toNat:=by
 have e:(IntKind.i64.wrap (i-1)+1).toNat=i.toNat:=by rw[w_i64 (by omega)]; omega
 have e2:(i+1).toNat=i.toNat+1:=by omega
 rw[e];rw[e2]at hd;rw[h _ (by omega)]at hb;have:=of_decide_eq_false hb;have k:=zE2a hd (b:=0) (by omega);rw[Int.add_zero,w_i64 (zXZa _)]at k;exact k
theorem zW0a {N a i:Int} (hn : -9223372036854775808≤N∧N≤9223372036854775807) (ha : -9223372036854775808≤a∧a≤9223372036854775807) (hd:(18446744073709551616:Int)∣(a-N/2 ^ (i+1).toNat)*2 ^ (i+1).toNat) (hi:i = -1):a=N:=by
 subst hi;have e:((-1:Int)+1).toNat=0:=by decide
 rw[e]at hd;simp only[Int.pow_zero,Int.ediv_one,Int.mul_one]at hd;omega
end Go.Trm.G1
namespace Go.Trm.G1
variable {R:Type} {Φ:Option R→Prop}
theorem zsNa {f0 f3:Int} {k_exit_2:Int→Int→Tl→Option R}:∀ {n:Nat} {f4:Tl} {f5:Int},(0≤f5)→(f3≤1000000000)→(1≤f3)→(f3≤10)→(f5≤f3)→((f4.length:Int)=f5)→(∀j:Nat,(j:Int)<f5→f4.getD j 0=dig f0 f3 j)→(-9223372036854775808≤f0∧f0≤9223372036854775807)→(f3-f5).toNat<n→(∀(w2:Tl),((w2.length:Int)=f3)→(∀j:Nat,(j:Int)<f3→w2.getD j 0=dig f0 f3 j)→Φ (k_exit_2 f0 f3 w2))→Φ (loopN (zqpa k_exit_2) n ⟨f0,f3,f4,f5⟩):=by
 intro n; induction n; intros; omega; rename_i n ih; intro f4 f5 i0 i1 i2 i3 i4 i5 i6 i7 hm q0;rw[zaaa];unfold zqpa
 try dsimp only
 refine kL (λ_=>kW<|kS rfl<|kL (λ_=>kY ?_<|ih ?_ ?_ ?_ ?_ ?_ ?_ ?_ ?_ ?_ q0) λ_=>kY ?_<|ih ?_ ?_ ?_ ?_ ?_ ?_ ?_ ?_ ?_ q0) λ_=>q0 _ ?_ ?_
 all_goals first|with_reducible assumption|omega|with_reducible exact (zuaa _).1|with_reducible exact (zuaa _).2|rfl|(simp (disch:=omega) only[kA,kB,kC,kD,kE,kF,kG,kH,kI,kJ,kK]<;>omega)|((iterate 2 (try simp (disch:=omega) only[kA,kB,kC,kD,kE,kF,kG,kH,kI,kJ,kK]at *))<;>omega)|with_reducible exact zZZa (by assumption) (by assumption) (by omega) (dig_a (by omega) (by omega) (by omega) (by assumption) (by omega) (by assumption))|with_reducible exact zZZa (by assumption) (by assumption) (by omega) (dig_b (by omega) (by omega) (by omega) (by assumption) (by omega) (by assumption))|exact λj hj=>i6 j (by omega)
theorem zPIa {f0:Tl} {f1 f8:Int} {k_exit_2:Tl→Int→List Bool→Int→Option R}:∀ {n:Nat} {f7:List Bool} {f9:Int},(0≤f8)→(f8<10)→(f0.length=10)→(0≤f0.getD f8.toNat 0)→(0≤f9)→(f9≤7)→((f7.length:Int)=7*f8+f9)→(∀j:Nat,j<f7.length→f7.getD j false=bitB f0 j)→(7-f9).toNat<n→(∀(w2:List Bool),((w2.length:Int)=7*f8+7)→(∀j:Nat,j<w2.length→w2.getD j false=bitB f0 j)→Φ (k_exit_2 f0 f1 w2 f8))→Φ (loopN (zJfa k_exit_2) n ⟨f0,f1,f7,f8,f9⟩):=by
 intro n; induction n; intros; omega; rename_i n ih; intro f7 f9 i0 i1 i2 i3 i4 i5 i6 i7 hm q0;rw[zaaa];unfold zJfa
 try dsimp only
 refine kL (λ_=>kP ?_ λ_=>kW<|kS rfl<|kY ?_<|ih ?_ ?_ ?_ ?_ ?_ ?_ ?_ ?_ ?_ q0) λ_=>q0 _ ?_ ?_
 all_goals first|with_reducible assumption|omega|with_reducible exact (zuaa _).1|with_reducible exact (zuaa _).2|rfl|(simp (disch:=omega) only[kA,kB,kC,kD,kE,kF,kG,kH,kI,kJ,kK]<;>omega)|((iterate 2 (try simp (disch:=omega) only[kA,kB,kC,kD,kE,kF,kG,kH,kI,kJ,kK]at *))<;>omega)|with_reducible exact zR2a (by assumption) (by assumption) (by omega) (by assumption) (by assumption) (by assumption)
theorem zzKa {f0:Tl} {f1:Int} {k_ret:List Bool→Int→Int→Option R} {k_exit_0:Option R}:∀ {n:Nat} {f7:List Bool} {f8:Int},(f1=64)→(f0.length=10)→(∀j:Nat,0≤f0.getD j 0∧(128≤f0.getD j 0∨9≤j))→(f0.getD 9 0<128)→(0≤f8)→(f8≤9)→((f7.length:Int)=7*f8)→(∀j:Nat,j<f7.length→f7.getD j false=bitB f0 j)→(11-f8).toNat<n→(∀(w0:List Bool) (w1 w2:Int),(w1=10)→(w2=0)→(w0.length=70)→(∀j:Nat,j<w0.length→w0.getD j false=bitB f0 j)→Φ (k_ret w0 w1 w2))→((False)→Φ (k_exit_0))→Φ (loopN (zGha k_ret k_exit_0) n ⟨f0,f1,f7,f8⟩):=by
 intro n; induction n; intros; omega; rename_i n ih; intro f7 f8 i0 i1 i2 i3 i4 i5 i6 i7 hm q0 q1;have g:=i2 f8.toNat;have g2:f0.getD f8.toNat 0<128∨f8≠9:=by
  by_cases h:f8=9
  ·subst h; exact .inl i3
  ·exact .inr h
 rw[zaaa];unfold zGha
 try dsimp only
 refine zmKa ?_ ?_ λ_ _ _ _=>kL (λ_=>kL (λ_=>q0 _ _ _ ?_ ?_ ?_ ?_) λ_=>zPIa ?_ ?_ ?_ ?_ ?_ ?_ ?_ ?_ (zdaa ?_) (λ_ _ _=>kP ?_ λ_=>kL (λ_=>q0 _ _ _ ?_ ?_ ?_ ?_) λ_=>ih ?_ ?_ ?_ ?_ ?_ ?_ ?_ ?_ ?_ q0 q1)) λ_=>q1 ?_
 all_goals first|omega|assumption|(simp (disch:=omega) only[kA,kB,kC,kD,kE,kF,kG,kH,kI,kJ,kK]<;>omega)
theorem zCRa {a0:Tl} {a1:Int} {K:List Bool→Int→Int→Option R} (p0:a1=64) (p1:a0.length=10) (p2:∀j:Nat,0≤a0.getD j 0∧(128≤a0.getD j 0∨9≤j)) (p3:a0.getD 9 0<128) (hk:∀(r0:List Bool) (r1 r2:Int),(r1=10)→(r2=0)→(r0.length=70)→(∀j:Nat,j<r0.length→r0.getD j false=bitB a0 j)→Φ (K r0 r1 r2)):Φ (zUia a0 a1 K):=by
 unfold zUia
 try dsimp only
 refine kL (λ_=>hk _ _ _ ?_ ?_ ?_ ?_) λ_=>kL (λ_=>hk _ _ _ ?_ ?_ ?_ ?_) λ_=>zzKa ?_ ?_ ?_ ?_ ?_ ?_ ?_ ?_ (zdaa ?_) (λ_ _ _ _ _ _ _=>hk _ _ _ ?_ ?_ ?_ ?_) (λ_=>hk _ _ _ ?_ ?_ ?_ ?_)
 all_goals first|with_reducible assumption|omega|with_reducible exact (zuaa _).1|with_reducible exact (zuaa _).2|rfl|(simp (disch:=omega) only[kA,kB,kC,kD,kE,kF,kG,kH,kI,kJ,kK]<;>omega)|((iterate 2 (try simp (disch:=omega) only[kA,kB,kC,kD,kE,kF,kG,kH,kI,kJ,kK]at *))<;>omega)|(exfalso; assumption)|(exfalso; omega)|(intro j hj; exact absurd hj (Nat.not_lt_zero _))
theorem zERa {N:Int} {f1:Int} {f7:List Bool} {f8:Int} {k_ret:Int→Int→Int→Option R} {k_exit_0:List Bool→Int→Option R}:∀ {n:Nat} {f10:Int},(0≤f10)→(f7.length≤1000000000)→(f1=64)→(f7.length=70)→(64≤f10)→(∀j:Nat,j<70→f7.getD j false=decide (N/2 ^ j%2=1))→(-9223372036854775808≤N∧N≤9223372036854775807)→((f7.length:Int)-f10).toNat<n→(∀(w0 w1 w2:Int),(False)→Φ (k_ret w0 w1 w2))→(Φ (k_exit_0 f7 f8))→Φ (loopN (ztpa k_ret k_exit_0) n ⟨f1,f7,f8,f10⟩):=by
 intro n; induction n; intros; omega; rename_i n ih; intro f10 i0 i1 i2 i3 i4 i5 i6 hm q0 q1;rw[zaaa];unfold ztpa
 try dsimp only
 refine kL (λ_=>kP ?_ λ_=>kP ?_ λ_=>kU (kM (λ_=>ih ?_ ?_ ?_ ?_ ?_ ?_ ?_ ?_ q0 q1) λ_=>q0 _ _ _ ?_)) λ_=>q1
 all_goals first|with_reducible assumption|omega|with_reducible exact (zuaa _).1|with_reducible exact (zuaa _).2|rfl|(simp (disch:=omega) only[kA,kB,kC,kD,kE,kF,kG,kH,kI,kJ,kK]<;>omega)|((iterate 2 (try simp (disch:=omega) only[kA,kB,kC,kD,kE,kF,kG,kH,kI,kJ,kK]at *))<;>omega)|exact absurd (zA1a (by assumption) (by assumption) (by assumption) (by omega) (by omega)) (by assumption)
theorem zpPa {N:Int} {f7:List Bool} {f8:Int} {k_exit_2:Int→Int→Option R}:∀ {n:Nat} {f11 f12:Int},(f12≤1000000000)→(f7.length=70)→(∀j:Nat,j<70→f7.getD j false=decide (N/2 ^ j%2=1))→(-9223372036854775808≤N∧N≤9223372036854775807)→(f12≤63)→(-1≤f12)→(-9223372036854775808≤f11∧f11≤9223372036854775807)→((18446744073709551616:Int)∣(f11-N/2 ^ (f12+1).toNat)*2 ^ (f12+1).toNat)→(f12+1).toNat<n→(∀(w1:Int),(w1=N)→Φ (k_exit_2 f8 w1))→Φ (loopN (zema k_exit_2) n ⟨f7,f8,f11,f12⟩):=by
 intro n; induction n; intros; omega; rename_i n ih; intro f11 f12 i0 i1 i2 i3 i4 i5 i6 i7 hm q0;rw[zaaa];unfold zema
 try dsimp only
 refine kL (λ_=>kP ?_ λ_=>kL (λ_=>kP ?_ λ_=>kO (λ_=>ih ?_ ?_ ?_ ?_ ?_ ?_ ?_ ?_ ?_ q0) λ_=>ih ?_ ?_ ?_ ?_ ?_ ?_ ?_ ?_ ?_ q0) λ_=>kO (λ_=>ih ?_ ?_ ?_ ?_ ?_ ?_ ?_ ?_ ?_ q0) λ_=>ih ?_ ?_ ?_ ?_ ?_ ?_ ?_ ?_ ?_ q0) λ_=>q0 _ ?_
 all_goals first|with_reducible assumption|omega|with_reducible exact (zuaa _).1|with_reducible exact (zuaa _).2|rfl|(simp (disch:=omega) only[kA,kB,kC,kD,kE,kF,kG,kH,kI,kJ,kK]<;>omega)|((iterate 2 (try simp (disch:=omega) only[kA,kB,kC,kD,kE,kF,kG,kH,kI,kJ,kK]at *))<;>omega)|with_reducible exact zXZa _|with_reducible exact horn1 (by assumption) (by omega) (by omega) (by assumption) (by assumption)|with_reducible exact horn0 (by assumption) (by omega) (by omega) (by assumption) (by assumption)|with_reducible exact zW0a (by assumption) (by assumption) (by assumption) (by omega)
end Go.Trm.G1
namespace Go.Trm.G1
variable {R:Type} {Φ:Option R→Prop}
theorem zr3a (n:Int) {j:Nat} (h:j<9):128≤dig n 10 j:=by
 have:=zmYa n 10 j;unfold dig;rw[if_pos (by omega)];omega
theorem zs3a (n:Int):0≤dig n 10 9∧dig n 10 9<128:=by
 have:=zmYa n 10 9;unfold dig;rw[if_neg (by omega)];omega
theorem S_ten {b:List Int} {n:Int} (hb:b.length=10) (hd:∀j:Nat,(j:Int)<10→b.getD j 0=dig n 10 j) (hn : -9223372036854775808≤n∧n≤9223372036854775807) {K:Int→Int→Int→Option R} (hk:Φ (K n 10 0)):Φ (zLoa b 64 K):=by
 unfold zLoa;have h9:=hd 9 (by omega);have g9:=zs3a n;refine zCRa rfl hb (λj=>?_) (by omega) λr0 r1 r2 h1 h2 h3 h4=>?_
 ·by_cases q:j<9
  ·have:=zr3a n q;have:=hd j (by omega);omega
  ·by_cases q2:j=9
   ·subst q2; omega
   ·rw[List.getD_eq_getElem?_getD,List.getElem?_eq_none (by omega)];exact ⟨Int.le_refl 0,.inr (by omega)⟩
 ·have hc:∀j:Nat,j<70→r0.getD j false=decide (n/2 ^ j%2=1):=λj hj=>(h4 j (by omega)).trans (zQ2a hd hj)
  subst h1 h2;refine kN (λh=>absurd rfl h) λ_=>?_
  refine zERa (N:=n) (by omega) (by omega) rfl h3 (by omega) hc hn (zdaa (by omega)) (λ_ _ _ h=>h.elim) ?_;refine zpPa (N:=n) (by omega) h3 hc hn (by omega) (by omega) (by omega) ?_ (zdaa (by decide)) λw1 e=>by subst e; exact hk
  exact ⟨-(n/2 ^ 64),by have:((63:Int)+1).toNat=64:=rfl; rw[this]; omega⟩
theorem ztNa {f0:Int} {k_ret:List Int→Option R}:∀ {n:Nat} {f3:Int},1≤f3→f3≤10→(-9223372036854775808≤f0∧f0≤9223372036854775807)→(11-f3).toNat<n→(∀w0:List Int,w0.length≤10→Φ (k_ret w0))→Φ (loopN (zrpa k_ret) n ⟨f0,f3⟩):=by
 intro n
 induction n with
 |zero=>intros; omega
 |succ n ih =>
  intro f3 i0 i1 i2 hm q0;rw[zaaa];unfold zrpa;dsimp only;refine zsNa (by omega) (by omega) i0 i1 (by omega) rfl (λj hj=>absurd hj (by omega)) i2 (zdaa (by omega)) λw2 h1 h2=>?_
  by_cases c:f3=10
  ·subst c;exact S_ten (by omega) h2 i2 (kM (λ_=>kM (λ_=>q0 _ (by omega)) λh=>absurd rfl h) λh=>absurd rfl h)
  ·have e:IntKind.i64.wrap (f3+1)=f3+1:=w_i64 (by omega);rw[e];exact zYJa (by omega) (by omega) (by omega) λr0 r1 r2 h5 h6=>kM (λ_=>kM (λ_=>q0 _ (by omega)) λ_=>ih (by omega) (by omega) i2 (by omega) q0) λ_=>ih (by omega) (by omega) i2 (by omega) q0
theorem zOCa {a0:Int} {K:List Int→Option R} (p0 : -9223372036854775808≤a0∧a0≤9223372036854775807) (hk:∀r0:List Int,r0.length≤10→Φ (K r0)):Φ (zaqa a0 K):=by
 unfold zaqa;exact ztNa (by omega) (by omega) p0 (zdaa (by decide)) hk
abbrev InsT:=Int×Int×Int×Int×List Int×Unit
def lsz:List InsT→Nat
 |[]=>0
 |x::r=>x.2.2.2.2.1.length+lsz r
theorem zHXa:∀(l:List InsT) (n:Nat),lsz (l.take n)≤lsz l
 |[],n=>by simp[lsz]
 |x::r,0=>by simp[lsz]
 |x::r,n+1=>by simp only[List.take_succ_cons,lsz]; have:=zHXa r n; omega
theorem zIXa:∀(l:List InsT) (n:Nat) (d:InsT),d.2.2.2.2.1.length=0→lsz (l.take (n+1))=lsz (l.take n)+(l.getD n d).2.2.2.2.1.length
 |[],n,d,h=>by simp[lsz,h]
 |x::r,0,d,h=>by simp[lsz]
 |x::r,n+1,d,h=>by
  have:=zIXa r n d h;simp only[List.take_succ_cons,lsz,List.getD_cons_succ];omega
theorem zJXa:∀ {l:List InsT} {x:InsT},x∈l→x.2.2.2.2.1.length≤lsz l
 |y::r,x,h=>by
  simp only[lsz];rcases List.mem_cons.1 h with h|h
  ·subst h; omega
  ·have:=zJXa h; omega
def lszT (l:List InsT) (i:Int):Nat:=lsz (l.take i.toNat)
theorem zq2a (l:List InsT) (i:Int):lszT l i≤lsz l:=zHXa _ _
theorem zr2a (l:List InsT):lszT l 0=0:=rfl
theorem zOVa (l:List InsT) {i:Int} (h:0≤i) (h2:i≤1000000000):lszT l (IntKind.i64.wrap (i+1))=lszT l i+(l.getD i.toNat (0,0,0,0,[],())).2.2.2.2.1.length:=by
 rw[w_i64 (by omega)];unfold lszT;rw[show (i+1).toNat=i.toNat+1 by omega];exact zIXa l _ _ rfl
def InsOk (x:InsT):Prop:=(-9223372036854775808≤x.2.1∧x.2.1≤9223372036854775807)∧(-9223372036854775808≤x.2.2.2.1∧x.2.2.2.1≤9223372036854775807)
structure zwwa (l:List InsT):Prop where
 sz:l.length+lsz l≤3000
 ok:∀x∈l,InsOk x
theorem zOJa {α:Type} {P:α→Prop} {l:List α} {d:α} (h:∀y∈l,P y) (hd:P d) (i:Nat):P (l.getD i d):=by
 rw[List.getD_eq_getElem?_getD];by_cases q:i<l.length
 ·rw[List.getElem?_eq_getElem q]; exact h _ (List.getElem_mem q)
 ·rw[List.getElem?_eq_none (by omega)]; exact hd
theorem bget {l:List InsT} (h:zwwa l) (i:Nat):InsOk (l.getD i (0,0,0,0,[],()))∧(l.getD i (0,0,0,0,[],())).2.2.2.2.1.length≤3000 :=
 zOJa (P:=λx=>InsOk x∧x.2.2.2.2.1.length≤3000) (λx hx=>⟨h.ok x hx,by have:=zJXa hx; have:=h.sz; omega⟩) ⟨by unfold InsOk; dsimp only; omega,Nat.zero_le _⟩ i
theorem zzVa:zwwa []:=⟨by simp[lsz],λ_ h=>nomatch h⟩
def rbl (n:Int):Nat:=(runeB n).length
theorem zs0a (n:Int):(runeB n).length≤4:=by
 unfold runeB Utf8.encode;dsimp only;generalize (if Utf8.valid n then n.toNat else Utf8.runeError)=c
 repeat' split
 all_goals simp
theorem zcKa (n:Int):(runeB n).length=min 4 (rbl n):=by have:=zs0a n; unfold rbl; omega
end Go.Trm.G1
namespace Go.Trm.G1
variable {R:Type} {Φ:Option R→Prop}
theorem zJIa {f1:Ti} {f3:Tb} {f33:Tl} {f34:Int} {k_ret:Bool→Option R} {k_exit_0:Ti→Tb→Option R}:∀ {n:Nat} {f35:Int},(f34=(f33.length:Int))→(0≤f35)→(f33.length≤1000000000)→(f35≤f34)→(f34-f35).toNat<n→(∀(w0:Bool),Φ (k_ret w0))→(Φ (k_exit_0 f1 f3))→Φ (loopN (zYka k_ret k_exit_0) n ⟨f1,f3,f33,f34,f35⟩):=by
 intro n; induction n; intros; omega; rename_i n ih; intro f35 i0 i1 i2 i3 hm q0 q1;rw[zaaa];unfold zYka
 try dsimp only
 refine kL (λ_=>kP ?_ λ_=>kL (λ_=>q0 _) λ_=>kL (λ_=>q0 _) λ_=>ih ?_ ?_ ?_ ?_ ?_ q0 q1) λ_=>q1
 all_goals first|omega|assumption|(simp (disch:=omega) only[kA,kB,kC,kD,kE,kF,kG,kH,kI,kJ,kK]<;>omega)
theorem zvta {a0:Int} {K:Bool→Option R} (hk:∀(r0:Bool),Φ (K r0)):Φ (ztha a0 K):=by
 unfold ztha
 try dsimp only
 exact kM (λ_=>hk _) λ_=>kM (λ_=>hk _) λ_=>kM (λ_=>hk _) λ_=>kL (λ_=>hk _) λ_=>hk _
theorem zZFa {a0:Int} {K:Tl→Option R} (p0 : -9223372036854775808≤a0∧a0≤9223372036854775807) (hk:∀(r0:Tl),(r0.length≤10)→Φ (K r0)):Φ (zuha a0 K):=by
 unfold zuha
 try dsimp only
 refine zOCa ?_ λ_ _=>hk _ ?_
 all_goals omega
theorem zLIa {N:Nat} {f1:Ti} {f4:Tb} {f5:Int} {k_exit_3:Ti→Tl→Tb→Int→Option R}:∀ {n:Nat} {f3:Tl} {f6:Int},(0≤f6)→(f1.2.2.2.2.1.length≤1000000000)→(f6≤f1.2.2.2.2.1.length)→(f1.2.2.2.2.1.length≤1000000)→(N≤1000000)→(f3.length≤N+10*f6)→((f1.2.2.2.2.1.length:Int)-f6).toNat<n→(∀(w1:Tl),(w1.length≤N+10*f1.2.2.2.2.1.length)→Φ (k_exit_3 f1 w1 f4 f5))→Φ (loopN (zala k_exit_3) n ⟨f1,f3,f4,f5,f6⟩):=by
 intro n; induction n; intros; omega; rename_i n ih; intro f3 f6 i0 i1 i2 i3 i4 i5 hm q0;rw[zaaa];unfold zala
 try dsimp only
 refine kL (λ_=>kP ?_ λ_=>zfda λ_ _=>kY ?_<|ih ?_ ?_ ?_ ?_ ?_ ?_ ?_ q0) λ_=>q0 _ ?_
 all_goals first|omega|assumption|(simp (disch:=omega) only[kA,kB,kC,kD,kE,kF,kG,kH,kI,kJ,kK]<;>omega)
theorem zOxa {f1:Ti} {f4:Tb} {k_exit_0:Tl→Option R}:∀ {n:Nat} {f3:Tl} {f5:Int},(0≤f5)→(f4.length≤1000000000)→(f5≤f4.length)→(f4.length≤2)→(InsOk f1)→(f1.2.2.2.2.1.length≤3000)→(f5=0→f3.length≤11)→(f5=1→f3.length≤21+10*f1.2.2.2.2.1.length)→(2≤f5→f3.length≤31+20*f1.2.2.2.2.1.length)→((f4.length:Int)-f5).toNat<n→(∀(w0:Tl),(w0.length≤31+20*f1.2.2.2.2.1.length)→Φ (k_exit_0 w0))→Φ (loopN (zria k_exit_0) n ⟨f1,f3,f4,f5⟩):=by
 intro n; induction n; intros; omega; rename_i n ih; intro f3 f5 i0 i1 i2 i3 i4 i5 i6 i7 i8 hm q0;have ⟨z1,z2⟩:=i4;rw[zaaa];unfold zria
 try dsimp only
 refine kL (λ_=>kP ?_ λ_=>kM (λ_=>zZFa ?_ λ_ _=>kY ?_<|ih ?_ ?_ ?_ ?_ ?_ ?_ ?_ ?_ ?_ ?_ q0) λ_=>kM (λ_=>zfda λ_ _=>kY ?_<|ih ?_ ?_ ?_ ?_ ?_ ?_ ?_ ?_ ?_ ?_ q0) λ_=>kM (λ_=>zfda λ_ _=>kY ?_<|ih ?_ ?_ ?_ ?_ ?_ ?_ ?_ ?_ ?_ ?_ q0) λ_=>kM (λ_=>zfda λ_ _=>kY ?_<|zLIa (N:=f3.length+10) ?_ ?_ ?_ ?_ ?_ ?_ (zdaa ?_) (λ_ _=>ih ?_ ?_ ?_ ?_ ?_ ?_ ?_ ?_ ?_ ?_ q0)) λ_=>kM (λ_=>zOCa ?_ λ_ _=>kY ?_<|ih ?_ ?_ ?_ ?_ ?_ ?_ ?_ ?_ ?_ ?_ q0) λ_=>kM (λ_=>zOCa ?_ λ_ _=>kY ?_<|ih ?_ ?_ ?_ ?_ ?_ ?_ ?_ ?_ ?_ ?_ q0) λ_=>kM (λ_=>kY ?_<|ih ?_ ?_ ?_ ?_ ?_ ?_ ?_ ?_ ?_ ?_ q0) λ_=>ih ?_ ?_ ?_ ?_ ?_ ?_ ?_ ?_ ?_ ?_ q0) λ_=>q0 _ ?_
 all_goals first|omega|assumption|(simp (disch:=omega) only[kA,kB,kC,kD,kE,kF,kG,kH,kI,kJ,kK]<;>omega)
theorem zAma {a0:Ti} {K:Tl→Option R} (p0:InsOk a0) (p1:a0.2.2.2.2.1.length≤3000) (hk:∀(r0:Tl),(r0.length≤31+20*a0.2.2.2.2.1.length)→Φ (K r0)):Φ (zDma a0 K):=by
 unfold zDma
 try dsimp only
 refine kL (λ_=>zfda λ_ _=>kY ?_<|zSha λ_ _=>zOxa ?_ ?_ ?_ ?_ ?_ ?_ ?_ ?_ ?_ (zdaa ?_) (λ_ _=>hk _ ?_)) λ_=>zSha λ_ _=>zOxa ?_ ?_ ?_ ?_ ?_ ?_ ?_ ?_ ?_ (zdaa ?_) (λ_ _=>hk _ ?_)
 all_goals first|omega|assumption|(simp (disch:=omega) only[kA,kB,kC,kD,kE,kF,kG,kH,kI,kJ,kK]<;>omega)
theorem zYFa {a0:Int} {K:Int→Int→Option R} (hk:∀(r0 r1:Int),Φ (K r0 r1)):Φ (zspa a0 K):=by
 unfold zspa
 try dsimp only
 exact kM (λ_=>hk _ _) λ_=>kM (λ_=>hk _ _) λ_=>kM (λ_=>hk _ _) λ_=>kM (λ_=>hk _ _) λ_=>kM (λ_=>hk _ _) λ_=>kM (λ_=>hk _ _) λ_=>kM (λ_=>hk _ _) λ_=>hk _ _
theorem zyRa {a0:Tl} {K:Int→Int→Int→Option R} (p0:a0.length≤1000000000) (hk:∀(r0 r1 r2:Int),(0≤r1)→(r1≤a0.length)→Φ (K r0 r1 r2)):Φ (zOra a0 K):=by
 unfold zOra
 try dsimp only
 refine kL (λ_=>hk _ _ _ ?_ ?_) λ_=>kP ?_ λ_=>kM (λ_=>hk _ _ _ ?_ ?_) λ_=>kP ?_ λ_=>zYFa λ_ _=>kM (λ_=>hk _ _ _ ?_ ?_) λ_=>kM (λ_=>hk _ _ _ ?_ ?_) λ_=>zYJa ?_ ?_ ?_ λ_ _ _ _ _=>kN (λ_=>hk _ _ _ ?_ ?_) λ_=>kL (λ_=>hk _ _ _ ?_ ?_) λ_=>hk _ _ _ ?_ ?_
 all_goals omega
theorem zxsa {f0:Tl} {f1:Int} {f4 f11:Ti} {f12:Tb} {f13 f14 f15 f16:Int} {k_normal:Tl→Int→Ti→Ti→Tb→Int→Int→Int→Int→Option R} (p0:0≤f13∧f13<f12.length) (q0:(∀(w3:Ti),(w3.2.2.2.2.1.length=f11.2.2.2.2.1.length)→Φ (k_normal f0 f1 f4 w3 f12 f13 f14 f15 f16))):Φ (zcpa k_normal ⟨f0,f1,f4,f11,f12,f13,f14,f15,f16⟩):=by
 unfold zcpa
 try dsimp only
 refine kP ?_ λ_=>kM (λ_=>q0 _ ?_) λ_=>q0 _ ?_
 all_goals first|omega|assumption|(simp (disch:=omega) only[kA,kB,kC,kD,kE,kF,kG,kH,kI,kJ,kK]<;>omega)
theorem zwsa {f0:Tl} {f1:Int} {f4 f11:Ti} {f12:Tb} {f13 f14 f15 f16:Int} {k_normal:Tl→Int→Ti→Ti→Tb→Int→Int→Int→Int→Option R} (p0:0≤f13∧f13<f12.length) (q0:(∀(w3:Ti),(w3.2.2.2.2.1.length=f11.2.2.2.2.1.length)→Φ (k_normal f0 f1 f4 w3 f12 f13 f14 f15 f16))):Φ (zbpa k_normal ⟨f0,f1,f4,f11,f12,f13,f14,f15,f16⟩):=by
 unfold zbpa
 try dsimp only
 refine kP ?_ λ_=>kM (λ_=>q0 _ ?_) λ_=>q0 _ ?_
 all_goals first|omega|assumption|(simp (disch:=omega) only[kA,kB,kC,kD,kE,kF,kG,kH,kI,kJ,kK]<;>omega)
theorem zvsa {f0:Tl} {f1:Int} {f4 f11:Ti} {f12:Tb} {f13 f14 f15 f16:Int} {k_normal:Tl→Int→Ti→Ti→Tb→Int→Int→Int→Int→Option R} (p0:0≤f13∧f13<f12.length) (q0:(∀(w7:Int),(bt f12 f13=108→w7=0→f16≤64)→Φ (k_normal f0 f1 f4 f11 f12 f13 f14 w7 f16))):Φ (zapa k_normal ⟨f0,f1,f4,f11,f12,f13,f14,f15,f16⟩):=by
 unfold zapa
 try dsimp only
 refine kP ?_ λ_=>kM (λ_=>kM (λ_=>kL (λ_=>q0 _ ?_) λ_=>q0 _ ?_) λ_=>q0 _ ?_) λ_=>q0 _ ?_
 all_goals omega
theorem zysa {f0:Tl} {f1:Int} {f4:Ti} {f12:Tb} {f13 f16:Int} {k_exit_3:Tl→Int→Ti→Ti→Tb→Int→Int→Int→Option R}:∀ {n:Nat} {f11:Ti} {f14 f15:Int},(0≤f13∧f13<f12.length)→(bt f12 f13=108→f15=0→f16≤64)→(0≤f14)→(0≤f1)→(f1+f14≤f0.length)→(f11.2.2.2.2.1.length≤64)→(0≤f16)→(f16≤200000000000)→(f0.length≤1000000000)→(65-f11.2.2.2.2.1.length)<n→(∀(w3:Ti) (w6 w7:Int),(w3.2.2.2.2.1.length≤64)→(0≤w6)→(f1+w6≤f0.length)→Φ (k_exit_3 f0 f1 f4 w3 f12 f13 w6 w7))→Φ (loopN (zhpa k_exit_3) n ⟨f0,f1,f4,f11,f12,f13,f14,f15,f16⟩):=by
 intro n; induction n; intros; omega; rename_i n ih; intro f11 f14 f15 i0 i1 i2 i3 i4 i5 i6 i7 i8 hm q0;rw[zaaa];unfold zhpa zrwa
 try dsimp only
 refine kP ?_ λ_=>kM (λ_=>kM (λ_=>kL (λ_=>kQ ?_ λ_=>zEja ?_ ?_ λ_ _ _ _ _ _ _=>kY ?_<|ih ?_ ?_ ?_ ?_ ?_ ?_ ?_ ?_ ?_ ?_ q0) λ_=>q0 _ _ _ ?_ ?_ ?_) λ_=>q0 _ _ _ ?_ ?_ ?_) λ_=>q0 _ _ _ ?_ ?_ ?_
 all_goals first|with_reducible assumption|omega|with_reducible exact (zuaa _).1|with_reducible exact (zuaa _).2|rfl|(simp (disch:=omega) only[kA,kB,kC,kD,kE,kF,kG,kH,kI,kJ,kK]<;>omega)|((iterate 2 (try simp (disch:=omega) only[kA,kB,kC,kD,kE,kF,kG,kH,kI,kJ,kK]at *))<;>omega)
theorem zfNa {f0:Tl} {f1:Int} {f4 f11:Ti} {f12:Tb} {f13 f14 f15:Int} {k_normal:Tl→Int→Ti→Ti→Tb→Int→Int→Int→Option R} (p0:0≤f13∧f13<f12.length) (p1:0≤f1) (p2:f1≤f0.length) (p3:f0.length≤1000000000) (p4:f11.2.2.2.2.1.length≤64) (p5:f14=0) (q0:(∀(w3:Ti) (w6 w7:Int),(w3.2.2.2.2.1.length≤64)→(0≤w6)→(w7=0→f1+w6≤f0.length)→Φ (k_normal f0 f1 f4 w3 f12 f13 w6 w7))):Φ (zZoa k_normal ⟨f0,f1,f4,f11,f12,f13,f14,f15⟩):=by
 unfold zZoa
 try dsimp only
 refine kP ?_ λ_=>kM (λ_=>kQ ?_ λ_=>zyRa ?_ λ_ _ _ _ _=>q0 _ _ _ ?_ ?_ ?_) λ_=>kM (λ_=>kQ ?_ λ_=>zEja ?_ ?_ λ_ _ _ _ _ _ _=>zxsa ?_ (λ_ _=>zwsa ?_ (λ_ _=>zvsa ?_ (λ_ _=>zysa ?_ ?_ ?_ ?_ ?_ ?_ ?_ ?_ ?_ (zdaa ?_) (λ_ _ _ _ _ _=>q0 _ _ _ ?_ ?_ ?_))))) λ_=>kM (λ_=>kQ ?_ λ_=>zEja ?_ ?_ λ_ _ _ _ _ _ _=>zxsa ?_ (λ_ _=>zwsa ?_ (λ_ _=>zvsa ?_ (λ_ _=>zysa ?_ ?_ ?_ ?_ ?_ ?_ ?_ ?_ ?_ (zdaa ?_) (λ_ _ _ _ _ _=>q0 _ _ _ ?_ ?_ ?_))))) λ_=>kM (λ_=>kQ ?_ λ_=>zEja ?_ ?_ λ_ _ _ _ _ _ _=>zxsa ?_ (λ_ _=>zwsa ?_ (λ_ _=>zvsa ?_ (λ_ _=>zysa ?_ ?_ ?_ ?_ ?_ ?_ ?_ ?_ ?_ (zdaa ?_) (λ_ _ _ _ _ _=>q0 _ _ _ ?_ ?_ ?_))))) λ_=>kM (λ_=>kQ ?_ λ_=>zYJa ?_ ?_ ?_ λ_ _ _ _ _=>q0 _ _ _ ?_ ?_ ?_) λ_=>kM (λ_=>kQ ?_ λ_=>zYJa ?_ ?_ ?_ λ_ _ _ _ _=>q0 _ _ _ ?_ ?_ ?_) λ_=>kM (λ_=>kL (λ_=>q0 _ _ _ ?_ ?_ ?_) λ_=>kP ?_ λ_=>kN (λ_=>q0 _ _ _ ?_ ?_ ?_) λ_=>q0 _ _ _ ?_ ?_ ?_) λ_=>q0 _ _ _ ?_ ?_ ?_
 all_goals first|with_reducible assumption|omega|with_reducible exact (zuaa _).1|with_reducible exact (zuaa _).2|rfl|(simp (disch:=omega) only[kA,kB,kC,kD,kE,kF,kG,kH,kI,kJ,kK]<;>omega)|((iterate 2 (try simp (disch:=omega) only[kA,kB,kC,kD,kE,kF,kG,kH,kI,kJ,kK]at *))<;>omega)
theorem zyBa {f0:Tl} {f4:Ti} {f12:Tb} {k_ret:Ti→Int→Int→Option R} {k_exit_0:Int→Ti→Ti→Option R}:∀ {n:Nat} {f1:Int} {f11:Ti} {f13:Int},(0≤f13)→(f12.length≤1000000000)→(f13≤f12.length)→(0≤f1)→(f1≤f0.length)→(f0.length≤1000000000)→(f11.2.2.2.2.1.length≤64)→((f12.length:Int)-f13).toNat<n→(∀(w0:Ti) (w1 w2:Int),(w0.2.2.2.2.1.length≤64)→(w1=0)→Φ (k_ret w0 w1 w2))→(∀(w0:Int) (w2:Ti),(0≤w0)→(w0≤f0.length)→(w2.2.2.2.2.1.length≤64)→Φ (k_exit_0 w0 f4 w2))→Φ (loopN (zipa k_ret k_exit_0) n ⟨f0,f1,f4,f11,f12,f13⟩):=by
 intro n; induction n; intros; omega; rename_i n ih; intro f1 f11 f13 i0 i1 i2 i3 i4 i5 i6 hm q0 q1;rw[zaaa];unfold zipa zswa
 try dsimp only
 refine kL (λ_=>zfNa ?_ ?_ ?_ ?_ ?_ ?_ (λ_ _ _ _ _ _=>kN (λ_=>q0 _ _ _ ?_ ?_) λ_=>ih ?_ ?_ ?_ ?_ ?_ ?_ ?_ ?_ q0 q1)) λ_=>q1 _ _ ?_ ?_ ?_
 all_goals first|omega|assumption|(simp (disch:=omega) only[kA,kB,kC,kD,kE,kF,kG,kH,kI,kJ,kK]<;>omega)
theorem zuta {a0:Tl} {a1:Int} {K:Ti→Int→Int→Option R} (p0:0≤a1) (p1:a0.length≤1000000000) (hk:∀(r0:Ti) (r1 r2:Int),(0≤r1)→(r1≤a0.length)→(r0.2.2.2.2.1.length≤64)→Φ (K r0 r1 r2)):Φ (zzta a0 a1 K):=by
 unfold zzta ztwa
 try dsimp only
 refine kL (λ_=>hk _ _ _ ?_ ?_ ?_) λ_=>kP ?_ λ_=>kM (λ_=>kQ ?_ λ_=>zEja ?_ ?_ λ_ _ _ _ _ _ _=>kN (λ_=>hk _ _ _ ?_ ?_ ?_) λ_=>kL (λ_=>hk _ _ _ ?_ ?_ ?_) λ_=>zSha λ_ _=>kM (λ_=>hk _ _ _ ?_ ?_ ?_) λ_=>kM (λ_=>hk _ _ _ ?_ ?_ ?_) λ_=>zyBa ?_ ?_ ?_ ?_ ?_ ?_ ?_ (zdaa ?_) (λ_ _ _ _ _=>hk _ _ _ ?_ ?_ ?_) (λ_ _ _ _ _=>hk _ _ _ ?_ ?_ ?_)) λ_=>zSha λ_ _=>kM (λ_=>hk _ _ _ ?_ ?_ ?_) λ_=>kM (λ_=>hk _ _ _ ?_ ?_ ?_) λ_=>zyBa ?_ ?_ ?_ ?_ ?_ ?_ ?_ (zdaa ?_) (λ_ _ _ _ _=>hk _ _ _ ?_ ?_ ?_) (λ_ _ _ _ _=>hk _ _ _ ?_ ?_ ?_)
 all_goals first|with_reducible assumption|omega|with_reducible exact (zuaa _).1|with_reducible exact (zuaa _).2|rfl|(simp (disch:=omega) only[kA,kB,kC,kD,kE,kF,kG,kH,kI,kJ,kK]<;>omega)|((iterate 2 (try simp (disch:=omega) only[kA,kB,kC,kD,kE,kF,kG,kH,kI,kJ,kK]at *))<;>omega)
theorem zmEa {f0 f1:Tl} {k_ret:Bool→Option R} {k_exit_0:Option R}:∀ {n:Nat} {f5:Int},(0≤f5)→(f0.length≤1000000000)→(f5≤f0.length)→(f1.length=f0.length)→((f0.length:Int)-f5).toNat<n→(∀(w0:Bool),Φ (k_ret w0))→(Φ (k_exit_0))→Φ (loopN (zFha k_ret k_exit_0) n ⟨f0,f1,f5⟩):=by
 intro n; induction n; intros; omega; rename_i n ih; intro f5 i0 i1 i2 i3 hm q0 q1;rw[zaaa];unfold zFha
 try dsimp only
 refine kL (λ_=>kP ?_ λ_=>kP ?_ λ_=>kN (λ_=>q0 _) λ_=>ih ?_ ?_ ?_ ?_ ?_ q0 q1) λ_=>q1
 all_goals first|omega|assumption|(simp (disch:=omega) only[kA,kB,kC,kD,kE,kF,kG,kH,kI,kJ,kK]<;>omega)
theorem zeda {a0 a1:Tl} {K:Bool→Option R} (p0:a0.length≤1000000000) (hk:∀(r0:Bool),Φ (K r0)):Φ (zDba a0 a1 K):=by
 unfold zDba
 try dsimp only
 refine kN (λ_=>hk _) λ_=>zmEa ?_ ?_ ?_ ?_ (zdaa ?_) (λ_=>hk _) (hk _)
 all_goals omega
theorem zvpa {a0 a1:Ti} {K:Bool→Option R} (p0:a0.2.2.2.2.1.length≤1000000000) (hk:∀(r0:Bool),Φ (K r0)):Φ (zWpa a0 a1 K):=by
 unfold zWpa
 try dsimp only
 refine kM (λ_=>kM (λ_=>kM (λ_=>kM (λ_=>zeda ?_ λ_=>hk _) λ_=>hk _) λ_=>hk _) λ_=>hk _) λ_=>hk _
 all_goals omega
theorem zkPa {a0:Ti} {K:Bool→Option R} (p0:InsOk a0) (p1:a0.2.2.2.2.1.length≤3000) (hk:∀(r0:Bool),Φ (K r0)):Φ (zIoa a0 K):=by
 unfold zIoa
 try dsimp only
 refine zSha λ_ _=>kM (λ_=>hk _) λ_=>kM (λ_=>hk _) λ_=>kL (λ_=>hk _) λ_=>kL (λ_=>hk _) λ_=>kY ?_<|zJIa ?_ ?_ ?_ ?_ (zdaa ?_) (λ_=>hk _) (kU (kM (λ_=>kM (λ_=>zvta λ_=>kU (kO (λ_=>zAma ?_ ?_ λ_ _=>zuta ?_ ?_ λ_ _ _ _ _ _=>kM (λ_=>zvpa ?_ λ_=>hk _) λ_=>hk _) λ_=>hk _)) λ_=>zAma ?_ ?_ λ_ _=>zuta ?_ ?_ λ_ _ _ _ _ _=>kM (λ_=>zvpa ?_ λ_=>hk _) λ_=>hk _) λ_=>kL (λ_=>hk _) λ_=>kL (λ_=>hk _) λ_=>kM (λ_=>zvta λ_=>kU (kO (λ_=>zAma ?_ ?_ λ_ _=>zuta ?_ ?_ λ_ _ _ _ _ _=>kM (λ_=>zvpa ?_ λ_=>hk _) λ_=>hk _) λ_=>hk _)) λ_=>zAma ?_ ?_ λ_ _=>zuta ?_ ?_ λ_ _ _ _ _ _=>kM (λ_=>zvpa ?_ λ_=>hk _) λ_=>hk _))
 all_goals first|omega|assumption|(simp (disch:=omega) only[kA,kB,kC,kD,kE,kF,kG,kH,kI,kJ,kK]<;>omega)
theorem zKIa {f0:Tj} {k_ret:Bool→Option R} {k_exit_0:Tj→Option R}:∀ {n:Nat} {f3:Int},(0≤f3)→(f0.length≤1000000000)→(f3≤f0.length)→(zwwa f0)→((f0.length:Int)-f3).toNat<n→(∀(w0:Bool),Φ (k_ret w0))→(Φ (k_exit_0 f0))→Φ (loopN (zZka k_ret k_exit_0) n ⟨f0,f3⟩):=by
 intro n; induction n; intros; omega; rename_i n ih; intro f3 i0 i1 i2 i3 hm q0 q1;have ⟨g,g5⟩:=bget i3 f3.toNat;rw[zaaa];unfold zZka
 try dsimp only
 refine kL (λ_=>kP ?_ λ_=>zkPa ?_ ?_ λ_=>kU (kO (λ_=>ih ?_ ?_ ?_ ?_ ?_ q0 q1) λ_=>q0 _)) λ_=>q1
 all_goals first|omega|assumption|(simp (disch:=omega) only[kA,kB,kC,kD,kE,kF,kG,kH,kI,kJ,kK]<;>omega)
theorem zoPa {f0:Tj} {k_exit_0:Tl→Option R}:∀ {n:Nat} {f3:Tl} {f4:Int},(0≤f4)→(f0.length≤1000000000)→(f4≤f0.length)→(zwwa f0)→((f3.length:Int)≤31*f4+20*(lszT f0 f4:Nat))→((f0.length:Int)-f4).toNat<n→(∀(w0:Tl),(w0.length≤93000)→Φ (k_exit_0 w0))→Φ (loopN (zqsa k_exit_0) n ⟨f0,f3,f4⟩):=by
 intro n; induction n; intros; omega; rename_i n ih; intro f3 f4 i0 i1 i2 i3 i4 hm q0;have ⟨g,g5⟩:=bget i3 f4.toNat;have g2:=zOVa f0 i0 (by omega);have g3:=zq2a f0 f4;have g4:=i3.sz;rw[zaaa];unfold zqsa
 try dsimp only
 refine kL (λ_=>kP ?_ λ_=>zAma ?_ ?_ λ_ _=>kY ?_<|ih ?_ ?_ ?_ ?_ ?_ ?_ q0) λ_=>q0 _ ?_
 all_goals first|with_reducible assumption|omega|(rw[g2]; simp (disch:=omega) only[w_i64,kD,kE,kF,kG,kH,kI,kJ,kK]; omega)|(simp only[kD,kE,kF,kG,kH,kI,kJ,kK]; omega)|with_reducible assumption|omega|with_reducible exact (zuaa _).1|with_reducible exact (zuaa _).2|rfl|(simp (disch:=omega) only[kA,kB,kC,kD,kE,kF,kG,kH,kI,kJ,kK]<;>omega)|((iterate 2 (try simp (disch:=omega) only[kA,kB,kC,kD,kE,kF,kG,kH,kI,kJ,kK]at *))<;>omega)
theorem zEOa {a0:Tj} {K:Tl→Option R} (p0:zwwa a0) (hk:∀(r0:Tl),(r0.length≤93000)→Φ (K r0)):Φ (zAta a0 K):=by
 have g:=p0.sz;have g0:=zr2a a0;unfold zAta
 try dsimp only
 refine zoPa ?_ ?_ ?_ ?_ ?_ (zdaa ?_) (λ_ _=>hk _ ?_)
 all_goals first|omega|assumption|(simp (disch:=omega) only[kA,kB,kC,kD,kE,kF,kG,kH,kI,kJ,kK]<;>omega)
theorem zkNa {f0:Tl} {k_ret:Tj→Int→Int→Option R}:∀ {n:Nat} {f5:Tj} {f6:Tb} {f7:Int},(0≤f7)→(f7≤f0.length)→(f0.length≤1000000000)→(f5.length≤2000)→(f6.length≤4*f5.length)→(2001-f5.length)<n→(∀(w0:Tj) (w1 w2:Int),(0≤w1)→(w1≤f0.length)→Φ (k_ret w0 w1 w2))→Φ (loopN (zjpa k_ret) n ⟨f0,f5,f6,f7⟩):=by
 intro n; induction n; intros; omega; rename_i n ih; intro f5 f6 f7 i0 i1 i2 i3 i4 hm q0;rw[zaaa];unfold zjpa
 try dsimp only
 refine zuta ?_ ?_ λ_ _ _ _ _ _=>kN (λ_=>q0 _ _ _ ?_ ?_) λ_=>kM (λ_=>q0 _ _ _ ?_ ?_) λ_=>kL (λ_=>kL (λ_=>kM (λ_=>q0 _ _ _ ?_ ?_) λ_=>kY ?_<|kY ?_<|ih ?_ ?_ ?_ ?_ ?_ ?_ q0) λ_=>kM (λ_=>kM (λ_=>q0 _ _ _ ?_ ?_) λ_=>kP ?_ λ_=>kN (λ_=>q0 _ _ _ ?_ ?_) λ_=>kQ ?_ λ_=>kY ?_<|kY ?_<|ih ?_ ?_ ?_ ?_ ?_ ?_ q0) λ_=>kM (λ_=>kL (λ_=>kQ ?_ λ_=>kY ?_<|ih ?_ ?_ ?_ ?_ ?_ ?_ q0) λ_=>kM (λ_=>kY ?_<|q0 _ _ _ ?_ ?_) λ_=>kY ?_<|ih ?_ ?_ ?_ ?_ ?_ ?_ q0) λ_=>kM (λ_=>kY ?_<|q0 _ _ _ ?_ ?_) λ_=>kY ?_<|ih ?_ ?_ ?_ ?_ ?_ ?_ q0) λ_=>kM (λ_=>kM (λ_=>q0 _ _ _ ?_ ?_) λ_=>kP ?_ λ_=>kN (λ_=>q0 _ _ _ ?_ ?_) λ_=>kQ ?_ λ_=>kY ?_<|kY ?_<|ih ?_ ?_ ?_ ?_ ?_ ?_ q0) λ_=>kM (λ_=>kL (λ_=>kQ ?_ λ_=>kY ?_<|ih ?_ ?_ ?_ ?_ ?_ ?_ q0) λ_=>kM (λ_=>kY ?_<|q0 _ _ _ ?_ ?_) λ_=>kY ?_<|ih ?_ ?_ ?_ ?_ ?_ ?_ q0) λ_=>kM (λ_=>kY ?_<|q0 _ _ _ ?_ ?_) λ_=>kY ?_<|ih ?_ ?_ ?_ ?_ ?_ ?_ q0
 all_goals first|with_reducible assumption|omega|with_reducible exact (zuaa _).1|with_reducible exact (zuaa _).2|rfl|(simp (disch:=omega) only[kA,kB,kC,kD,kE,kF,kG,kH,kI,kJ,zcKa,kK]<;>omega)|((iterate 2 (try simp (disch:=omega) only[kA,kB,kC,kD,kE,kF,kG,kH,kI,kJ,zcKa,kK]at *))<;>omega)
theorem zLCa {a0:Tl} {K:Tj→Int→Int→Option R} (p0:a0.length≤1000000000) (hk:∀(r0:Tj) (r1 r2:Int),(0≤r1)→(r1≤a0.length)→Φ (K r0 r1 r2)):Φ (zXpa a0 K):=by
 unfold zXpa
 try dsimp only
 refine zkNa ?_ ?_ ?_ ?_ ?_ (zdaa ?_) (λ_ _ _ _ _=>hk _ _ _ ?_ ?_)
 all_goals first|omega|assumption|(simp (disch:=omega) only[kA,kB,kC,kD,kE,kF,kG,kH,kI,kJ,kK]<;>omega)
theorem zdGa {f0 f1:Tj} {k_ret:Bool→Option R} {k_exit_0:Option R}:∀ {n:Nat} {f5:Int},(0≤f5)→(f0.length≤1000000000)→(f5≤f0.length)→(zwwa f0)→(f1.length=f0.length)→((f0.length:Int)-f5).toNat<n→(∀(w0:Bool),Φ (k_ret w0))→(Φ (k_exit_0))→Φ (loopN (zDia k_ret k_exit_0) n ⟨f0,f1,f5⟩):=by
 intro n; induction n; intros; omega; rename_i n ih; intro f5 i0 i1 i2 i3 i4 hm q0 q1;have g:=(bget i3 f5.toNat).2;rw[zaaa];unfold zDia
 try dsimp only
 refine kL (λ_=>kP ?_ λ_=>kP ?_ λ_=>zvpa ?_ λ_=>kU (kO (λ_=>ih ?_ ?_ ?_ ?_ ?_ ?_ q0 q1) λ_=>q0 _)) λ_=>q1
 all_goals first|omega|assumption|(simp (disch:=omega) only[kA,kB,kC,kD,kE,kF,kG,kH,kI,kJ,kK]<;>omega)
theorem zRha {a0 a1:Tj} {K:Bool→Option R} (p0:zwwa a0) (hk:∀(r0:Bool),Φ (K r0)):Φ (zZca a0 a1 K):=by
 have g:=p0.sz;unfold zZca
 try dsimp only
 refine kN (λ_=>hk _) λ_=>zdGa ?_ ?_ ?_ ?_ ?_ (zdaa ?_) (λ_=>hk _) (hk _)
 all_goals omega
theorem zBja {a0:Tj} {K:Bool→Option R} (p0:zwwa a0) (hk:∀(r0:Bool),Φ (K r0)):Φ (zMea a0 K):=by
 have g:=p0.sz;unfold zMea
 try dsimp only
 refine zKIa ?_ ?_ ?_ ?_ (zdaa ?_) (λ_=>hk _) (zEOa ?_ λ_ _=>zLCa ?_ λ_ _ _ _ _=>kM (λ_=>kM (λ_=>zRha ?_ λ_=>hk _) λ_=>hk _) λ_=>hk _)
 all_goals omega
end Go.Trm.G1
namespace Go.Trm.G1
def TyOk (y:List Int×List Int×Unit):Prop:=y.1.length≤3000∧y.2.1.length≤3000
def ImOk (y:List UInt8×List UInt8×Int×Int×(Int×Bool×Int×Unit)×Bool×Unit):Prop:=y.1.length≤3000∧y.2.1.length≤3000
def FnOk (y:Int×List Int×List InsT×Unit):Prop:=y.2.1.length≤3000∧zwwa y.2.2.1
def GvOk (y:Int×Bool×List InsT×Unit):Prop:=zwwa y.2.2.1
def ExOk (y:List UInt8×Int×Int×Unit):Prop:=y.1.length≤3000
def ElOk (y:Int×List InsT×List Int×Unit):Prop:=zwwa y.2.1∧y.2.2.1.length≤3000
def CuOk (y:List UInt8×List Int×Unit):Prop:=y.1.length≤3000∧y.2.1.length≤3000
structure SM (m:It21):Prop where
 rows:m.1.length≤70∧m.2.1.length≤70∧m.2.2.1.length≤70∧m.2.2.2.1.length≤70∧m.2.2.2.2.1.length≤70∧m.2.2.2.2.2.1.length≤70∧m.2.2.2.2.2.2.1.length≤70∧m.2.2.2.2.2.2.2.1.length≤70∧m.2.2.2.2.2.2.2.2.1.length≤70∧m.2.2.2.2.2.2.2.2.2.1.length≤70∧m.2.2.2.2.2.2.2.2.2.2.1.length≤70∧m.2.2.2.2.2.2.2.2.2.2.2.1.length≤70
 ty:∀y∈m.1,TyOk y
 im:∀y∈m.2.1,ImOk y
 fn:∀y∈m.2.2.1,FnOk y
 gl:∀y∈m.2.2.2.2.2.1,GvOk y
 ex:∀y∈m.2.2.2.2.2.2.1,ExOk y
 el:∀y∈m.2.2.2.2.2.2.2.2.1,ElOk y
 da:∀y∈m.2.2.2.2.2.2.2.2.2.2.1,ElOk y
 cu:∀y∈m.2.2.2.2.2.2.2.2.2.2.2.1,CuOk y
theorem tget {l:List (List Int×List Int×Unit)} (h:∀y∈l,TyOk y) (i:Nat):(l.getD i ([],[],())).1.length≤3000∧(l.getD i ([],[],())).2.1.length≤3000:=zOJa h (by simp[TyOk]) i
theorem iget {l:List (List UInt8×List UInt8×Int×Int×(Int×Bool×Int×Unit)×Bool×Unit)} (h:∀y∈l,ImOk y) (i:Nat):(l.getD i ([],[],0,0,(0,false,0,()),false,())).1.length≤3000∧(l.getD i ([],[],0,0,(0,false,0,()),false,())).2.1.length≤3000:=zOJa h (by simp[ImOk]) i
theorem fget {l:List (Int×List Int×List InsT×Unit)} (h:∀y∈l,FnOk y) (i:Nat):(l.getD i (0,[],[],())).2.1.length≤3000∧zwwa (l.getD i (0,[],[],())).2.2.1:=zOJa h ⟨Nat.zero_le _,zzVa⟩ i
theorem gget {l:List (Int×Bool×List InsT×Unit)} (h:∀y∈l,GvOk y) (i:Nat):zwwa (l.getD i (0,false,[],())).2.2.1:=zOJa (P:=GvOk) (d:=(0,false,[],())) h zzVa i
theorem xget {l:List (List UInt8×Int×Int×Unit)} (h:∀y∈l,ExOk y) (i:Nat):(l.getD i ([],0,0,())).1.length≤3000:=zOJa h (by simp[ExOk]) i
theorem eget {l:List (Int×List InsT×List Int×Unit)} (h:∀y∈l,ElOk y) (i:Nat):zwwa (l.getD i (0,[],[],())).2.1∧(l.getD i (0,[],[],())).2.2.1.length≤3000:=zOJa h ⟨zzVa,Nat.zero_le _⟩ i
theorem cget {l:List (List UInt8×List Int×Unit)} (h:∀y∈l,CuOk y) (i:Nat):(l.getD i ([],[],())).1.length≤3000∧(l.getD i ([],[],())).2.1.length≤3000:=zOJa h (by simp[CuOk]) i
theorem lget {l:List (List Int)} (h:∀y∈l,y.length≤3000) (i:Nat):(l.getD i []).length≤3000:=zOJa (P:=λy:List Int=>y.length≤3000) h (by simp) i
theorem zS1a {p r:List Int} (h:p.length≤3000) (h2:r.length≤3000):∀y∈List.set (List.set (List.replicate 2 ([]:List Int)) 0 p) 1 r,y.length≤3000:=by
 intro y hy;have:y∈[p,r]:=hy;rcases List.mem_cons.1 this with h|h
 ·subst h; assumption
 ·rw[List.mem_singleton]at h; subst h; assumption
def Cnt (a:Int) (m:It21) (V:Int):Prop:=V≤70∧(a=1→V≤m.1.length)∧(a=2→V≤m.2.1.length)∧(a=3→V≤m.2.2.1.length)∧(a=4→V≤m.2.2.2.1.length)∧(a=5→V≤m.2.2.2.2.1.length)∧(a=6→V≤m.2.2.2.2.2.1.length)∧(a=7→V≤m.2.2.2.2.2.2.1.length)∧(a=9→V≤m.2.2.2.2.2.2.2.2.1.length)∧(a=10→V≤m.2.2.1.length)∧(a=11→V≤m.2.2.2.2.2.2.2.2.2.2.1.length)
theorem zv3a (a:Int) (a1:It21):∀W,W=List.getD (List.set (List.set (List.set (List.set (List.set (List.set (List.set (List.set (List.set (List.set (List.set (List.set (List.set (List.replicate 13 (0:Int)) 0 (0:Int)) 1 (((List.length a1.1:Nat):Int))) 2 (((List.length a1.2.1:Nat):Int))) 3 (((List.length a1.2.2.1:Nat):Int))) 4 (((List.length a1.2.2.2.1:Nat):Int))) 5 (((List.length a1.2.2.2.2.1:Nat):Int))) 6 (((List.length a1.2.2.2.2.2.1:Nat):Int))) 7 (((List.length a1.2.2.2.2.2.2.1:Nat):Int))) 8 (((List.length a1.2.2.2.2.2.2.2.1:Nat):Int))) 9 (((List.length a1.2.2.2.2.2.2.2.2.1:Nat):Int))) 10 (((List.length a1.2.2.1:Nat):Int))) 11 (((List.length a1.2.2.2.2.2.2.2.2.2.2.1:Nat):Int))) 12 (((List.length a1.2.2.2.2.2.2.2.2.2.1:Nat):Int))) a.toNat (0:Int)→(a=1→W=(a1.1.length:Int))∧(a=2→W=(a1.2.1.length:Int))∧(a=3→W=(a1.2.2.1.length:Int))∧(a=4→W=(a1.2.2.2.1.length:Int))∧(a=5→W=(a1.2.2.2.2.1.length:Int))∧(a=6→W=(a1.2.2.2.2.2.1.length:Int))∧(a=7→W=(a1.2.2.2.2.2.2.1.length:Int))∧(a=8→W=(a1.2.2.2.2.2.2.2.1.length:Int))∧(a=9→W=(a1.2.2.2.2.2.2.2.2.1.length:Int))∧(a=10→W=(a1.2.2.1.length:Int))∧(a=11→W=(a1.2.2.2.2.2.2.2.2.2.2.1.length:Int))∧(a=12→W=(a1.2.2.2.2.2.2.2.2.2.1.length:Int)):=by
 intro W hW;subst hW;refine ⟨?_,?_,?_,?_,?_,?_,?_,?_,?_,?_,?_,?_⟩<;>(intro h; subst h; rfl)
theorem zu3a {a:Int} {a1:It21} (h:1≤a) (h2:a≤12) (hm:SM a1):Cnt a a1 (List.getD (List.set (List.set (List.set (List.set (List.set (List.set (List.set (List.set (List.set (List.set (List.set (List.set (List.set (List.replicate 13 (0:Int)) 0 (0:Int)) 1 (((List.length a1.1:Nat):Int))) 2 (((List.length a1.2.1:Nat):Int))) 3 (((List.length a1.2.2.1:Nat):Int))) 4 (((List.length a1.2.2.2.1:Nat):Int))) 5 (((List.length a1.2.2.2.2.1:Nat):Int))) 6 (((List.length a1.2.2.2.2.2.1:Nat):Int))) 7 (((List.length a1.2.2.2.2.2.2.1:Nat):Int))) 8 (((List.length a1.2.2.2.2.2.2.2.1:Nat):Int))) 9 (((List.length a1.2.2.2.2.2.2.2.2.1:Nat):Int))) 10 (((List.length a1.2.2.1:Nat):Int))) 11 (((List.length a1.2.2.2.2.2.2.2.2.2.2.1:Nat):Int))) 12 (((List.length a1.2.2.2.2.2.2.2.2.2.1:Nat):Int))) a.toNat (0:Int)):=by
 have z:=hm.rows;have hV:=zv3a a a1 _ rfl;revert hV;generalize (List.getD (List.set (List.set (List.set (List.set (List.set (List.set (List.set (List.set (List.set (List.set (List.set (List.set (List.set (List.replicate 13 (0:Int)) 0 (0:Int)) 1 (((List.length a1.1:Nat):Int))) 2 (((List.length a1.2.1:Nat):Int))) 3 (((List.length a1.2.2.1:Nat):Int))) 4 (((List.length a1.2.2.2.1:Nat):Int))) 5 (((List.length a1.2.2.2.2.1:Nat):Int))) 6 (((List.length a1.2.2.2.2.2.1:Nat):Int))) 7 (((List.length a1.2.2.2.2.2.2.1:Nat):Int))) 8 (((List.length a1.2.2.2.2.2.2.2.1:Nat):Int))) 9 (((List.length a1.2.2.2.2.2.2.2.2.1:Nat):Int))) 10 (((List.length a1.2.2.1:Nat):Int))) 11 (((List.length a1.2.2.2.2.2.2.2.2.2.2.1:Nat):Int))) 12 (((List.length a1.2.2.2.2.2.2.2.2.2.1:Nat):Int))) a.toNat (0:Int))=W;intro hV;unfold Cnt;omega
theorem cnt8 (a:Int) (a1:It21):(a=8→List.getD (List.set (List.set (List.set (List.set (List.set (List.set (List.set (List.set (List.set (List.set (List.set (List.set (List.set (List.replicate 13 (0:Int)) 0 (0:Int)) 1 (((List.length a1.1:Nat):Int))) 2 (((List.length a1.2.1:Nat):Int))) 3 (((List.length a1.2.2.1:Nat):Int))) 4 (((List.length a1.2.2.2.1:Nat):Int))) 5 (((List.length a1.2.2.2.2.1:Nat):Int))) 6 (((List.length a1.2.2.2.2.2.1:Nat):Int))) 7 (((List.length a1.2.2.2.2.2.2.1:Nat):Int))) 8 (((List.length a1.2.2.2.2.2.2.2.1:Nat):Int))) 9 (((List.length a1.2.2.2.2.2.2.2.2.1:Nat):Int))) 10 (((List.length a1.2.2.1:Nat):Int))) 11 (((List.length a1.2.2.2.2.2.2.2.2.2.2.1:Nat):Int))) 12 (((List.length a1.2.2.2.2.2.2.2.2.2.1:Nat):Int))) a.toNat (0:Int)=(a1.2.2.2.2.2.2.2.1.length:Int))∧(a=12→List.getD (List.set (List.set (List.set (List.set (List.set (List.set (List.set (List.set (List.set (List.set (List.set (List.set (List.set (List.replicate 13 (0:Int)) 0 (0:Int)) 1 (((List.length a1.1:Nat):Int))) 2 (((List.length a1.2.1:Nat):Int))) 3 (((List.length a1.2.2.1:Nat):Int))) 4 (((List.length a1.2.2.2.1:Nat):Int))) 5 (((List.length a1.2.2.2.2.1:Nat):Int))) 6 (((List.length a1.2.2.2.2.2.1:Nat):Int))) 7 (((List.length a1.2.2.2.2.2.2.1:Nat):Int))) 8 (((List.length a1.2.2.2.2.2.2.2.1:Nat):Int))) 9 (((List.length a1.2.2.2.2.2.2.2.2.1:Nat):Int))) 10 (((List.length a1.2.2.1:Nat):Int))) 11 (((List.length a1.2.2.2.2.2.2.2.2.2.2.1:Nat):Int))) 12 (((List.length a1.2.2.2.2.2.2.2.2.2.1:Nat):Int))) a.toNat (0:Int)=(a1.2.2.2.2.2.2.2.2.2.1.length:Int)):=⟨λh=>by subst h; rfl,λh=>by subst h; rfl⟩
theorem zGXa {l:List Int} {a b:Int} (h:a≤b) (hn:l.getD b.toNat 0≠l.getD a.toNat 0):a<b:=Int.lt_iff_le_and_ne.2 ⟨h,λe=>hn (by rw[e])⟩
def SeOk (y:Int×List Int×Unit):Prop:=y.2.1.length≤10000000
theorem sget {l:List (Int×List Int×Unit)} (h:∀y∈l,SeOk y) (i:Nat):(l.getD i (0,[],())).2.1.length≤10000000:=zOJa h (by simp[SeOk]) i
theorem zW1a {l:List (Int×List Int×Unit)} {z y:Int×List Int×Unit} (h:∀y∈l,SeOk y) (hy:y.2.1.length≤10000000):∀x∈l++List.set (List.replicate 1 z) 0 y,SeOk x:=by
 intro x hx;rcases List.mem_append.1 hx with q|q
 ·exact h x q
 ·have:x∈[y]:=q;rw[List.mem_singleton]at this; subst this; exact hy
def IdOk (l:List Int):Prop:=∀y∈l,1≤y∧y≤12
theorem idget {l:List Int} (h:IdOk l) {i:Int} (hi:0≤i) (hl:i<l.length):1≤l.getD i.toNat 0∧l.getD i.toNat 0≤12:=by
 rw[List.getD_eq_getElem?_getD,List.getElem?_eq_getElem (by omega)];exact h _ (List.getElem_mem _)
end Go.Trm.G1
namespace Go.Trm.G1
variable {R:Type} {Φ:Option R→Prop}
theorem zmPa {f5:Tl} {f6:Int} {k_ret:Bool→Option R} {k_exit_0:Option R}:∀ {n:Nat} {f7:Int},(f6=(f5.length:Int))→(0≤f7)→(f5.length≤1000000000)→(f7≤f6)→(f6-f7).toNat<n→(∀(w0:Bool),Φ (k_ret w0))→(Φ (k_exit_0))→Φ (loopN (zosa k_ret k_exit_0) n ⟨f5,f6,f7⟩):=by
 intro n; induction n; intros; omega; rename_i n ih; intro f7 i0 i1 i2 i3 hm q0 q1;rw[zaaa];unfold zosa
 try dsimp only
 refine kL (λ_=>kP ?_ λ_=>kL (λ_=>q0 _) λ_=>kL (λ_=>q0 _) λ_=>ih ?_ ?_ ?_ ?_ ?_ q0 q1) λ_=>q1
 all_goals first|omega|assumption|(simp (disch:=omega) only[kA,kB,kC,kD,kE,kF,kG,kH,kI,kJ,kK]<;>omega)
theorem ztta {a0:Tl} {K:Bool→Option R} (p0:a0.length≤1000000000) (hk:∀(r0:Bool),Φ (K r0)):Φ (zkja a0 K):=by
 unfold zkja
 try dsimp only
 refine zmPa ?_ ?_ ?_ ?_ (zdaa ?_) (λ_=>hk _) (hk _)
 all_goals omega
theorem zWfa {a0:Tm} {K:Bool→Option R} (hk:∀(r0:Bool),Φ (K r0)):Φ (zIda a0 K):=by
 unfold zIda
 try dsimp only
 exact kL (λ_=>kL (λ_=>kL (λ_=>kL (λ_=>kO (λ_=>hk _) λ_=>hk _) λ_=>hk _) λ_=>hk _) λ_=>hk _) λ_=>hk _
theorem zFxa {f1:It21} {f33:List Tp} {f34:Int} {k_exit_0:It21→Bool→Option R}:∀ {n:Nat} {f3:Bool} {f35:Int},(f34=(f33.length:Int))→(0≤f35)→(f33.length≤1000000000)→(f35≤f34)→(f34-f35).toNat<n→(∀(w1:Bool),Φ (k_exit_0 f1 w1))→Φ (loopN (ziia k_exit_0) n ⟨f1,f3,f33,f34,f35⟩):=by
 intro n; induction n; intros; omega; rename_i n ih; intro f3 f35 i0 i1 i2 i3 hm q0;rw[zaaa];unfold ziia
 try dsimp only
 refine kL (λ_=>kP ?_ λ_=>kO (λ_=>ztta ?_ λ_=>kO (λ_=>kL (λ_=>kL (λ_=>kN (λ_=>kN (λ_=>kO (λ_=>kN (λ_=>ih ?_ ?_ ?_ ?_ ?_ q0) λ_=>kM (λ_=>ih ?_ ?_ ?_ ?_ ?_ q0) λ_=>ih ?_ ?_ ?_ ?_ ?_ q0) λ_=>kN (λ_=>zWfa λ_=>kO (λ_=>kN (λ_=>ih ?_ ?_ ?_ ?_ ?_ q0) λ_=>kM (λ_=>ih ?_ ?_ ?_ ?_ ?_ q0) λ_=>ih ?_ ?_ ?_ ?_ ?_ q0) λ_=>ih ?_ ?_ ?_ ?_ ?_ q0) λ_=>ih ?_ ?_ ?_ ?_ ?_ q0) λ_=>kN (λ_=>zWfa λ_=>kO (λ_=>kN (λ_=>ih ?_ ?_ ?_ ?_ ?_ q0) λ_=>kM (λ_=>ih ?_ ?_ ?_ ?_ ?_ q0) λ_=>ih ?_ ?_ ?_ ?_ ?_ q0) λ_=>ih ?_ ?_ ?_ ?_ ?_ q0) λ_=>ih ?_ ?_ ?_ ?_ ?_ q0) λ_=>kN (λ_=>zWfa λ_=>kO (λ_=>kN (λ_=>ih ?_ ?_ ?_ ?_ ?_ q0) λ_=>kM (λ_=>ih ?_ ?_ ?_ ?_ ?_ q0) λ_=>ih ?_ ?_ ?_ ?_ ?_ q0) λ_=>ih ?_ ?_ ?_ ?_ ?_ q0) λ_=>ih ?_ ?_ ?_ ?_ ?_ q0) λ_=>ih ?_ ?_ ?_ ?_ ?_ q0) λ_=>ih ?_ ?_ ?_ ?_ ?_ q0) λ_=>ih ?_ ?_ ?_ ?_ ?_ q0) λ_=>ih ?_ ?_ ?_ ?_ ?_ q0) λ_=>q0 _
 all_goals first|omega|assumption|(simp (disch:=omega) only[kA,kB,kC,kD,kE,kF,kG,kH,kI,kJ,kK]<;>omega)
theorem zExa {f1:It21} {f104:List Tm} {f105:Int} {k_exit_2:It21→Bool→Option R}:∀ {n:Nat} {f3:Bool} {f106:Int},(f105=(f104.length:Int))→(0≤f106)→(f104.length≤1000000000)→(f106≤f105)→(f105-f106).toNat<n→(∀(w1:Bool),Φ (k_exit_2 f1 w1))→Φ (loopN (zhia k_exit_2) n ⟨f1,f3,f104,f105,f106⟩):=by
 intro n; induction n; intros; omega; rename_i n ih; intro f3 f106 i0 i1 i2 i3 hm q0;rw[zaaa];unfold zhia
 try dsimp only
 refine kL (λ_=>kP ?_ λ_=>kO (λ_=>zWfa λ_=>ih ?_ ?_ ?_ ?_ ?_ q0) λ_=>ih ?_ ?_ ?_ ?_ ?_ q0) λ_=>q0 _
 all_goals first|omega|assumption|(simp (disch:=omega) only[kA,kB,kC,kD,kE,kF,kG,kH,kI,kJ,kK]<;>omega)
theorem zuKa {f4:Tl} {f10:List Tl} {f11 f12:Int} {k_ret:Bool→Option R} {k_exit_2:List Tl→Int→Int→Option R}:∀ {n:Nat} {f5:Int},(0≤f5)→(f4.length≤1000000000)→(f5≤f4.length)→((f4.length:Int)-f5).toNat<n→(∀(w0:Bool),Φ (k_ret w0))→(Φ (k_exit_2 f10 f11 f12))→Φ (loopN (zvma k_ret k_exit_2) n ⟨f4,f5,f10,f11,f12⟩):=by
 intro n; induction n; intros; omega; rename_i n ih; intro f5 i0 i1 i2 hm q0 q1;rw[zaaa];unfold zvma
 try dsimp only
 refine kL (λ_=>kP ?_ λ_=>kN (λ_=>kP ?_ λ_=>kN (λ_=>q0 _) λ_=>ih ?_ ?_ ?_ ?_ q0 q1) λ_=>ih ?_ ?_ ?_ ?_ q0 q1) λ_=>q1
 all_goals first|omega|assumption|(simp (disch:=omega) only[kA,kB,kC,kD,kE,kF,kG,kH,kI,kJ,kK]<;>omega)
theorem zvKa {f10:List Tl} {f11:Int} {k_ret:Bool→Option R} {k_exit_0:Option R}:∀ {n:Nat} {f12:Int},(f11=(f10.length:Int))→(0≤f12)→(f10.length≤1000000000)→(f12≤f11)→(∀y∈f10,y.length≤3000)→(f11-f12).toNat<n→(∀(w0:Bool),Φ (k_ret w0))→(Φ (k_exit_0))→Φ (loopN (zwma k_ret k_exit_0) n ⟨f10,f11,f12⟩):=by
 intro n; induction n; intros; omega; rename_i n ih; intro f12 i0 i1 i2 i3 i4 hm q0 q1;have g:=lget i4 f12.toNat;rw[zaaa];unfold zwma
 try dsimp only
 refine kL (λ_=>kP ?_ λ_=>kL (λ_=>q0 _) λ_=>zuKa ?_ ?_ ?_ (zdaa ?_) (λ_=>q0 _) (ih ?_ ?_ ?_ ?_ ?_ ?_ q0 q1)) λ_=>q1
 all_goals first|omega|assumption|(simp (disch:=omega) only[kA,kB,kC,kD,kE,kF,kG,kH,kI,kJ,kK]<;>omega)
theorem zxRa {a0:Tq} {K:Bool→Option R} (p0:a0.1.length≤3000) (p1:a0.2.1.length≤3000) (hk:∀(r0:Bool),Φ (K r0)):Φ (zNra a0 K):=by
 unfold zNra
 try dsimp only
 refine zvKa ?_ ?_ ?_ ?_ ?_ (zdaa ?_) (λ_=>hk _) (hk _)
 all_goals first|with_reducible assumption|omega|with_reducible exact (zuaa _).1|with_reducible exact (zuaa _).2|rfl|(simp (disch:=omega) only[kA,kB,kC,kD,kE,kF,kG,kH,kI,kJ,kK]<;>omega)|((iterate 2 (try simp (disch:=omega) only[kA,kB,kC,kD,kE,kF,kG,kH,kI,kJ,kK]at *))<;>omega)|with_reducible exact zS1a (by assumption) (by assumption)
theorem zGwa {f1:It21} {f117:List Tq} {f118:Int} {k_exit_4:It21→Bool→Option R}:∀ {n:Nat} {f3:Bool} {f119:Int},(f118=(f117.length:Int))→(0≤f119)→(f117.length≤1000000000)→(f119≤f118)→(∀y∈f117,TyOk y)→(f118-f119).toNat<n→(∀(w1:Bool),Φ (k_exit_4 f1 w1))→Φ (loopN (zmha k_exit_4) n ⟨f1,f3,f117,f118,f119⟩):=by
 intro n; induction n; intros; omega; rename_i n ih; intro f3 f119 i0 i1 i2 i3 i4 hm q0;have ⟨g,g2⟩:=tget i4 f119.toNat;rw[zaaa];unfold zmha
 try dsimp only
 refine kL (λ_=>kP ?_ λ_=>kO (λ_=>zxRa ?_ ?_ λ_=>ih ?_ ?_ ?_ ?_ ?_ ?_ q0) λ_=>ih ?_ ?_ ?_ ?_ ?_ ?_ q0) λ_=>q0 _
 all_goals first|omega|assumption|(simp (disch:=omega) only[kA,kB,kC,kD,kE,kF,kG,kH,kI,kJ,kK]<;>omega)
theorem zFwa {f1:It21} {f130:List Tg} {f131:Int} {k_exit_6:It21→Bool→Option R}:∀ {n:Nat} {f3:Bool} {f132:Int},(f131=(f130.length:Int))→(0≤f132)→(f130.length≤1000000000)→(f132≤f131)→(∀y∈f130,GvOk y)→(f131-f132).toNat<n→(∀(w1:Bool),Φ (k_exit_6 f1 w1))→Φ (loopN (zlha k_exit_6) n ⟨f1,f3,f130,f131,f132⟩):=by
 intro n; induction n; intros; omega; rename_i n ih; intro f3 f132 i0 i1 i2 i3 i4 hm q0;have g:=gget i4 f132.toNat;rw[zaaa];unfold zlha
 try dsimp only
 refine kL (λ_=>kP ?_ λ_=>kO (λ_=>kM (λ_=>zBja ?_ λ_=>ih ?_ ?_ ?_ ?_ ?_ ?_ q0) λ_=>kM (λ_=>zBja ?_ λ_=>ih ?_ ?_ ?_ ?_ ?_ ?_ q0) λ_=>ih ?_ ?_ ?_ ?_ ?_ ?_ q0) λ_=>ih ?_ ?_ ?_ ?_ ?_ ?_ q0) λ_=>q0 _
 all_goals first|omega|assumption|(simp (disch:=omega) only[kA,kB,kC,kD,kE,kF,kG,kH,kI,kJ,kK]<;>omega)
theorem zEwa {f1:It21} {f154:List Tx} {f155:Int} {k_exit_8:It21→Bool→Option R}:∀ {n:Nat} {f3:Bool} {f156:Int},(f155=(f154.length:Int))→(0≤f156)→(f154.length≤1000000000)→(f156≤f155)→(f155-f156).toNat<n→(∀(w1:Bool),Φ (k_exit_8 f1 w1))→Φ (loopN (zkha k_exit_8) n ⟨f1,f3,f154,f155,f156⟩):=by
 intro n; induction n; intros; omega; rename_i n ih; intro f3 f156 i0 i1 i2 i3 hm q0;rw[zaaa];unfold zkha
 try dsimp only
 refine kL (λ_=>kP ?_ λ_=>kO (λ_=>ztta ?_ λ_=>kO (λ_=>kL (λ_=>ih ?_ ?_ ?_ ?_ ?_ q0) λ_=>ih ?_ ?_ ?_ ?_ ?_ q0) λ_=>ih ?_ ?_ ?_ ?_ ?_ q0) λ_=>ih ?_ ?_ ?_ ?_ ?_ q0) λ_=>q0 _
 all_goals first|omega|assumption|(simp (disch:=omega) only[kA,kB,kC,kD,kE,kF,kG,kH,kI,kJ,kK]<;>omega)
theorem zlfa {f1:It21} {f179:List Te} {f180 f181:Int} {f207:Tl} {f208:Int} {k_exit_12:It21→Bool→List Te→Int→Int→Option R}:∀ {n:Nat} {f3:Bool} {f209:Int},(f208=(f207.length:Int))→(0≤f209)→(f207.length≤1000000000)→(f209≤f208)→(f208-f209).toNat<n→(∀(w1:Bool),Φ (k_exit_12 f1 w1 f179 f180 f181))→Φ (loopN (zzea k_exit_12) n ⟨f1,f3,f179,f180,f181,f207,f208,f209⟩):=by
 intro n; induction n; intros; omega; rename_i n ih; intro f3 f209 i0 i1 i2 i3 hm q0;rw[zaaa];unfold zzea
 try dsimp only
 refine kL (λ_=>kP ?_ λ_=>kO (λ_=>kL (λ_=>ih ?_ ?_ ?_ ?_ ?_ q0) λ_=>ih ?_ ?_ ?_ ?_ ?_ q0) λ_=>ih ?_ ?_ ?_ ?_ ?_ q0) λ_=>q0 _
 all_goals first|omega|assumption|(simp (disch:=omega) only[kA,kB,kC,kD,kE,kF,kG,kH,kI,kJ,kK]<;>omega)
theorem zDwa {f1:It21} {f179:List Te} {f180:Int} {k_exit_10:It21→Bool→Option R}:∀ {n:Nat} {f3:Bool} {f181:Int},(f180=(f179.length:Int))→(0≤f181)→(f179.length≤1000000000)→(f181≤f180)→(∀y∈f179,ElOk y)→(f180-f181).toNat<n→(∀(w1:Bool),Φ (k_exit_10 f1 w1))→Φ (loopN (zjha k_exit_10) n ⟨f1,f3,f179,f180,f181⟩):=by
 intro n; induction n; intros; omega; rename_i n ih; intro f3 f181 i0 i1 i2 i3 i4 hm q0;have ⟨g,g2⟩:=eget i4 f181.toNat;rw[zaaa];unfold zjha
 try dsimp only
 refine kL (λ_=>kP ?_ λ_=>kO (λ_=>kL (λ_=>kL (λ_=>kN (λ_=>zlfa ?_ ?_ ?_ ?_ (zdaa ?_) (λ_=>ih ?_ ?_ ?_ ?_ ?_ ?_ q0)) λ_=>zBja ?_ λ_=>zlfa ?_ ?_ ?_ ?_ (zdaa ?_) (λ_=>ih ?_ ?_ ?_ ?_ ?_ ?_ q0)) λ_=>zlfa ?_ ?_ ?_ ?_ (zdaa ?_) (λ_=>ih ?_ ?_ ?_ ?_ ?_ ?_ q0)) λ_=>zlfa ?_ ?_ ?_ ?_ (zdaa ?_) (λ_=>ih ?_ ?_ ?_ ?_ ?_ ?_ q0)) λ_=>zlfa ?_ ?_ ?_ ?_ (zdaa ?_) (λ_=>ih ?_ ?_ ?_ ?_ ?_ ?_ q0)) λ_=>q0 _
 all_goals first|omega|assumption|(simp (disch:=omega) only[kA,kB,kC,kD,kE,kF,kG,kH,kI,kJ,kK]<;>omega)
theorem zCwa {f1:It21} {f225:List Te} {f226:Int} {k_exit_14:It21→Bool→Option R}:∀ {n:Nat} {f3:Bool} {f227:Int},(f226=(f225.length:Int))→(0≤f227)→(f225.length≤1000000000)→(f227≤f226)→(∀y∈f225,ElOk y)→(f226-f227).toNat<n→(∀(w1:Bool),Φ (k_exit_14 f1 w1))→Φ (loopN (ziha k_exit_14) n ⟨f1,f3,f225,f226,f227⟩):=by
 intro n; induction n; intros; omega; rename_i n ih; intro f3 f227 i0 i1 i2 i3 i4 hm q0;have ⟨g,g2⟩:=eget i4 f227.toNat;rw[zaaa];unfold ziha
 try dsimp only
 refine kL (λ_=>kP ?_ λ_=>kO (λ_=>kL (λ_=>kL (λ_=>kN (λ_=>ih ?_ ?_ ?_ ?_ ?_ ?_ q0) λ_=>zBja ?_ λ_=>ih ?_ ?_ ?_ ?_ ?_ ?_ q0) λ_=>ih ?_ ?_ ?_ ?_ ?_ ?_ q0) λ_=>ih ?_ ?_ ?_ ?_ ?_ ?_ q0) λ_=>ih ?_ ?_ ?_ ?_ ?_ ?_ q0) λ_=>q0 _
 all_goals first|omega|assumption|(simp (disch:=omega) only[kA,kB,kC,kD,kE,kF,kG,kH,kI,kJ,kK]<;>omega)
theorem zgna {f254:List Tf} {f255 f256:Int} {f273:Tl} {f274:Int} {k_exit_18:Bool→List Tf→Int→Int→Option R}:∀ {n:Nat} {f3:Bool} {f275:Int},(f274=(f273.length:Int))→(0≤f275)→(f273.length≤1000000000)→(f275≤f274)→(f274-f275).toNat<n→(∀(w0:Bool),Φ (k_exit_18 w0 f254 f255 f256))→Φ (loopN (zgha k_exit_18) n ⟨f3,f254,f255,f256,f273,f274,f275⟩):=by
 intro n; induction n; intros; omega; rename_i n ih; intro f3 f275 i0 i1 i2 i3 hm q0;rw[zaaa];unfold zgha
 try dsimp only
 refine kL (λ_=>kP ?_ λ_=>kO (λ_=>kM (λ_=>ih ?_ ?_ ?_ ?_ ?_ q0) λ_=>ih ?_ ?_ ?_ ?_ ?_ q0) λ_=>ih ?_ ?_ ?_ ?_ ?_ q0) λ_=>q0 _
 all_goals first|omega|assumption|(simp (disch:=omega) only[kA,kB,kC,kD,kE,kF,kG,kH,kI,kJ,kK]<;>omega)
theorem zBwa {f254:List Tf} {f255:Int} {k_exit_16:Bool→Option R}:∀ {n:Nat} {f3:Bool} {f256:Int},(f255=(f254.length:Int))→(0≤f256)→(f254.length≤1000000000)→(f256≤f255)→(∀y∈f254,FnOk y)→(f255-f256).toNat<n→(∀(w0:Bool),Φ (k_exit_16 w0))→Φ (loopN (zhha k_exit_16) n ⟨f3,f254,f255,f256⟩):=by
 intro n; induction n; intros; omega; rename_i n ih; intro f3 f256 i0 i1 i2 i3 i4 hm q0;have ⟨g,g2⟩:=fget i4 f256.toNat;rw[zaaa];unfold zhha
 try dsimp only
 refine kL (λ_=>kP ?_ λ_=>kO (λ_=>ztta ?_ λ_=>kO (λ_=>zBja ?_ λ_=>zgna ?_ ?_ ?_ ?_ (zdaa ?_) (λ_=>ih ?_ ?_ ?_ ?_ ?_ ?_ q0)) λ_=>zgna ?_ ?_ ?_ ?_ (zdaa ?_) (λ_=>ih ?_ ?_ ?_ ?_ ?_ ?_ q0)) λ_=>zgna ?_ ?_ ?_ ?_ (zdaa ?_) (λ_=>ih ?_ ?_ ?_ ?_ ?_ ?_ q0)) λ_=>q0 _
 all_goals first|omega|assumption|(simp (disch:=omega) only[kA,kB,kC,kD,kE,kF,kG,kH,kI,kJ,kK]<;>omega)
theorem ztRa {a0:It21} {K:Bool→Option R} (p0:SM a0) (hk:∀(r0:Bool),Φ (K r0)):Φ (zJra a0 K):=by
 have ⟨z,y1,y2,y3,y4,y5,y6,y7,y8⟩:=p0;unfold zJra
 try dsimp only
 refine ztta ?_ λ_=>kO (λ_=>ztta ?_ λ_=>zFxa ?_ ?_ ?_ ?_ (zdaa ?_) (λ_=>kY ?_<|kY ?_<|zExa ?_ ?_ ?_ ?_ (zdaa ?_) (λ_=>zGwa ?_ ?_ ?_ ?_ ?_ (zdaa ?_) (λ_=>zFwa ?_ ?_ ?_ ?_ ?_ (zdaa ?_) (λ_=>zEwa ?_ ?_ ?_ ?_ (zdaa ?_) (λ_=>zDwa ?_ ?_ ?_ ?_ ?_ (zdaa ?_) (λ_=>zCwa ?_ ?_ ?_ ?_ ?_ (zdaa ?_) (λ_=>zBwa ?_ ?_ ?_ ?_ ?_ (zdaa ?_) (λ_=>hk _))))))))) λ_=>zFxa ?_ ?_ ?_ ?_ (zdaa ?_) (λ_=>kY ?_<|kY ?_<|zExa ?_ ?_ ?_ ?_ (zdaa ?_) (λ_=>zGwa ?_ ?_ ?_ ?_ ?_ (zdaa ?_) (λ_=>zFwa ?_ ?_ ?_ ?_ ?_ (zdaa ?_) (λ_=>zEwa ?_ ?_ ?_ ?_ (zdaa ?_) (λ_=>zDwa ?_ ?_ ?_ ?_ ?_ (zdaa ?_) (λ_=>zCwa ?_ ?_ ?_ ?_ ?_ (zdaa ?_) (λ_=>zBwa ?_ ?_ ?_ ?_ ?_ (zdaa ?_) (λ_=>hk _))))))))
 all_goals first|omega|assumption|(simp (disch:=omega) only[kA,kB,kC,kD,kE,kF,kG,kH,kI,kJ,kK]<;>omega)
end Go.Trm.G1
namespace Go.Trm.G1
variable {R:Type} {Φ:Option R→Prop}
theorem znca {a0:Tl} {a1:Int} {K:Tl→Option R} (p0:a0.length≤4000000000) (hk:∀(r0:Tl),(r0.length≤a0.length+10)→Φ (K r0)):Φ (zCba a0 a1 K):=by
 unfold zCba
 try dsimp only
 refine zfda λ_ _=>kY ?_<|hk _ ?_
 all_goals first|omega|assumption|(simp (disch:=omega) only[kA,kB,kC,kD,kE,kF,kG,kH,kI,kJ,kK]<;>omega)
theorem zVCa {N:Nat} {f5:Tl} {f12:List Tl} {f13 f14:Int} {k_exit_2:Tl→List Tl→Int→Int→Option R}:∀ {n:Nat} {f3:Tl} {f6:Int},(0≤f6)→(f5.length≤1000000000)→(f6≤f5.length)→(f5.length≤3000)→(N≤1000000)→(f3.length≤N+f6)→((f5.length:Int)-f6).toNat<n→(∀(w0:Tl),(w0.length≤N+3000)→Φ (k_exit_2 w0 f12 f13 f14))→Φ (loopN (zyga k_exit_2) n ⟨f3,f5,f6,f12,f13,f14⟩):=by
 intro n; induction n; intros; omega; rename_i n ih; intro f3 f6 i0 i1 i2 i3 i4 i5 hm q0;rw[zaaa];unfold zyga
 try dsimp only
 refine kL (λ_=>kP ?_ λ_=>kY ?_<|ih ?_ ?_ ?_ ?_ ?_ ?_ ?_ q0) λ_=>q0 _ ?_
 all_goals first|omega|assumption|(simp (disch:=omega) only[kA,kB,kC,kD,kE,kF,kG,kH,kI,kJ,kK]<;>omega)
theorem zWCa {f12:List Tl} {f13:Int} {k_exit_0:Tl→Option R}:∀ {n:Nat} {f3:Tl} {f14:Int},(f13=(f12.length:Int))→(0≤f14)→(f12.length≤1000000000)→(f14≤f13)→(∀y∈f12,y.length≤3000)→(f12.length=2)→(f3.length≤1+3001*f14)→(f13-f14).toNat<n→(∀(w0:Tl),(w0.length≤6003)→Φ (k_exit_0 w0))→Φ (loopN (zzga k_exit_0) n ⟨f3,f12,f13,f14⟩):=by
 intro n; induction n; intros; omega; rename_i n ih; intro f3 f14 i0 i1 i2 i3 i4 i5 i6 hm q0;have g:=lget i4 f14.toNat;rw[zaaa];unfold zzga
 try dsimp only
 refine kL (λ_=>kP ?_ λ_=>kY ?_<|zVCa (N:=f3.length+1) ?_ ?_ ?_ ?_ ?_ ?_ (zdaa ?_) (λ_ _=>ih ?_ ?_ ?_ ?_ ?_ ?_ ?_ ?_ q0)) λ_=>q0 _ ?_
 all_goals first|omega|assumption|(simp (disch:=omega) only[kA,kB,kC,kD,kE,kF,kG,kH,kI,kJ,kK]<;>omega)
theorem zxIa {a0:Tq} {K:Tl→Option R} (p0:a0.1.length≤3000) (p1:a0.2.1.length≤3000) (hk:∀(r0:Tl),(r0.length≤6003)→Φ (K r0)):Φ (zxia a0 K):=by
 unfold zxia
 try dsimp only
 refine zWCa ?_ ?_ ?_ ?_ ?_ ?_ ?_ (zdaa ?_) (λ_ _=>hk _ ?_)
 all_goals first|with_reducible assumption|omega|with_reducible exact (zuaa _).1|with_reducible exact (zuaa _).2|rfl|(simp (disch:=omega) only[kA,kB,kC,kD,kE,kF,kG,kH,kI,kJ,kK]<;>omega)|((iterate 2 (try simp (disch:=omega) only[kA,kB,kC,kD,kE,kF,kG,kH,kI,kJ,kK]at *))<;>omega)|with_reducible exact zS1a (by assumption) (by assumption)
theorem zBRa {a0:Tb} {K:Tl→Option R} (p0:a0.length≤3000) (hk:∀(r0:Tl),(r0.length≤3010)→Φ (K r0)):Φ (zRra a0 K):=by
 unfold zRra
 try dsimp only
 refine zfda λ_ _=>kY ?_<|hk _ ?_
 all_goals first|omega|assumption|(simp (disch:=omega) only[kA,kB,kC,kD,kE,kF,kG,kH,kI,kJ,kK]<;>omega)
theorem ztua {a0:Tl} {a1:Tb} {K:Tl→Option R} (p0:a0.length≤4000000000) (p1:a1.length≤3000) (hk:∀(r0:Tl),(r0.length≤a0.length+3010)→Φ (K r0)):Φ (zKea a0 a1 K):=by
 unfold zKea
 try dsimp only
 refine zBRa ?_ λ_ _=>kY ?_<|hk _ ?_
 all_goals first|omega|assumption|(simp (disch:=omega) only[kA,kB,kC,kD,kE,kF,kG,kH,kI,kJ,kK]<;>omega)
theorem zAua {f0:Int} {f3:It21} {f6:Int} {f7:Tl} {f8:Int} {f9:Tp} {k_normal:Int→It21→Int→Tl→Int→Tp→Option R} (p0:f7.length≤1000000000) (p1:f9.1.length≤3000) (p2:f9.2.1.length≤3000) (q0:(∀(w3:Tl),(w3.length≤f7.length+6021)→Φ (k_normal f0 f3 f6 w3 f8 f9))):Φ (zxda k_normal ⟨f0,f3,f6,f7,f8,f9⟩):=by
 unfold zxda
 try dsimp only
 try simp only[zKaa]
 refine ztua ?_ ?_ λ_ _=>ztua ?_ ?_ λ_ _=>kY ?_<|q0 _ ?_
 all_goals first|omega|assumption|(simp (disch:=omega) only[kA,kB,kC,kD,kE,kF,kG,kH,kI,kJ,kK]<;>omega)
theorem zfEa {a0:Tm} {K:Tl→Option R} (hk:∀(r0:Tl),(r0.length≤21)→Φ (K r0)):Φ (zdga a0 K):=by
 unfold zdga
 try dsimp only
 try simp only[zKaa]
 refine kO (λ_=>zfda λ_ _=>kY ?_<|zfda λ_ _=>kY ?_<|hk _ ?_) λ_=>zfda λ_ _=>kY ?_<|hk _ ?_
 all_goals first|omega|assumption|(simp (disch:=omega) only[kA,kB,kC,kD,kE,kF,kG,kH,kI,kJ,kK]<;>omega)
theorem zsoa {a0:Tl} {a1:Tm} {K:Tl→Option R} (p0:a0.length≤4000000000) (hk:∀(r0:Tl),(r0.length≤a0.length+21)→Φ (K r0)):Φ (zLea a0 a1 K):=by
 unfold zLea
 try dsimp only
 refine zfEa λ_ _=>kY ?_<|hk _ ?_
 all_goals first|omega|assumption|(simp (disch:=omega) only[kA,kB,kC,kD,kE,kF,kG,kH,kI,kJ,kK]<;>omega)
theorem ziKa {a0:Tl} {a1:Bool} {K:Tl→Option R} (p0:a0.length≤4000000000) (hk:∀(r0:Tl),(r0.length≤a0.length+1)→Φ (K r0)):Φ (zVpa a0 a1 K):=by
 unfold zVpa
 try dsimp only
 refine kO (λ_=>kY ?_<|hk _ ?_) λ_=>kY ?_<|hk _ ?_
 all_goals first|omega|assumption|(simp (disch:=omega) only[kA,kB,kC,kD,kE,kF,kG,kH,kI,kJ,kK]<;>omega)
theorem zuua {a0:Tl} {a1:Tj} {K:Tl→Option R} (p0:a0.length≤4000000000) (p1:zwwa a1) (hk:∀(r0:Tl),(r0.length≤a0.length+93000)→Φ (K r0)):Φ (zSia a0 a1 K):=by
 unfold zSia
 try dsimp only
 refine zEOa ?_ λ_ _=>kY ?_<|hk _ ?_
 all_goals first|omega|assumption|(simp (disch:=omega) only[kA,kB,kC,kD,kE,kF,kG,kH,kI,kJ,kK]<;>omega)
theorem zSCa {f0:Tl} {f3:Te} {k_exit_0:Tl→Te→Bool→Option R}:∀ {n:Nat} {f5:Bool} {f6:Int},(0≤f6)→(f3.2.2.1.length≤1000000000)→(f6≤f3.2.2.1.length)→((f3.2.2.1.length:Int)-f6).toNat<n→(∀(w2:Bool),Φ (k_exit_0 f0 f3 w2))→Φ (loopN (zvga k_exit_0) n ⟨f0,f3,f5,f6⟩):=by
 intro n; induction n; intros; omega; rename_i n ih; intro f5 f6 i0 i1 i2 hm q0;rw[zaaa];unfold zvga zEka
 try dsimp only
 refine kL (λ_=>kO (λ_=>ih ?_ ?_ ?_ ?_ q0) λ_=>kP ?_ λ_=>ih ?_ ?_ ?_ ?_ q0) λ_=>q0 _
 all_goals first|omega|assumption|(simp (disch:=omega) only[kA,kB,kC,kD,kE,kF,kG,kH,kI,kJ,kK]<;>omega)
theorem zQCa {f0:Tl} {f3:Te} {f5:Bool} {f7:Int} {k_normal:Tl→Te→Bool→Int→Option R} (q0:(∀(w3:Int),Φ (k_normal f0 f3 f5 w3))):Φ (zsga k_normal ⟨f0,f3,f5,f7⟩):=by
 unfold zsga
 try dsimp only
 exact kM (λ_=>q0 _) λ_=>q0 _
theorem zlAa {f0:Tl} {f3:Te} {f5:Bool} {f7:Int} {k_normal:Tl→Te→Bool→Int→Option R} (q0:(∀(w3:Int),Φ (k_normal f0 f3 f5 w3))):Φ (zcfa k_normal ⟨f0,f3,f5,f7⟩):=by
 unfold zcfa
 try dsimp only
 exact kO (λ_=>q0 _) λ_=>q0 _
theorem zkAa {f0:Tl} {f3:Te} {f5:Bool} {k_normal:Tl→Te→Bool→Option R} (p0:f0.length≤3900000000) (p1:zwwa f3.2.1) (q0:(∀(w0:Tl),(w0.length≤f0.length+93000)→Φ (k_normal w0 f3 f5))):Φ (zbfa k_normal ⟨f0,f3,f5⟩):=by
 unfold zbfa
 try dsimp only
 refine kM (λ_=>zuua ?_ ?_ λ_ _=>q0 _ ?_) λ_=>q0 _ ?_
 all_goals omega
theorem zjAa {f0:Tl} {f3:Te} {f5:Bool} {k_normal:Tl→Te→Bool→Option R} (p0:f0.length≤4000000000) (q0:(∀(w0:Tl),(w0.length≤f0.length+1)→Φ (k_normal w0 f3 f5))):Φ (zafa k_normal ⟨f0,f3,f5⟩):=by
 unfold zafa
 try dsimp only
 refine kN (λ_=>kO (λ_=>kY ?_<|q0 _ ?_) λ_=>q0 _ ?_) λ_=>q0 _ ?_
 all_goals first|omega|assumption|(simp (disch:=omega) only[kA,kB,kC,kD,kE,kF,kG,kH,kI,kJ,kK]<;>omega)
theorem ziAa {f0:Tl} {f3:Te} {f5:Bool} {k_normal:Tl→Te→Bool→Option R} (p0:f0.length≤4000000000) (q0:(∀(w0:Tl),(w0.length≤f0.length+1)→Φ (k_normal w0 f3 f5))):Φ (zZea k_normal ⟨f0,f3,f5⟩):=by
 unfold zZea
 try dsimp only
 refine kN (λ_=>kU (kO (λ_=>q0 _ ?_) λ_=>kY ?_<|q0 _ ?_)) λ_=>q0 _ ?_
 all_goals first|omega|assumption|(simp (disch:=omega) only[kA,kB,kC,kD,kE,kF,kG,kH,kI,kJ,kK]<;>omega)
theorem zI3a {f0:Tl} {f3:Te} {f5:Bool} {f8:Int} {k_normal:Tl→Te→Bool→Int→Option R} (p0:0≤f8∧f8<f3.2.2.1.length) (p1:f0.length≤3900000000) (q0:(∀(w0:Tl),(w0.length≤f0.length+12)→Φ (k_normal w0 f3 f5 f8))):Φ (zaja k_normal ⟨f0,f3,f5,f8⟩):=by
 unfold zaja
 try dsimp only
 try simp only[zKaa]
 refine kP ?_ λ_=>kM (λ_=>kY ?_<|q0 _ ?_) λ_=>kO (λ_=>kP ?_ λ_=>kY ?_<|znca ?_ λ_ _=>kY ?_<|q0 _ ?_) λ_=>kP ?_ λ_=>znca ?_ λ_ _=>q0 _ ?_
 all_goals first|with_reducible assumption|omega|with_reducible exact (zuaa _).1|with_reducible exact (zuaa _).2|rfl|(simp (disch:=omega) only[kA,kB,kC,kD,kE,kF,kG,kH,kI,kJ,kK]<;>omega)|((iterate 2 (try simp (disch:=omega) only[kA,kB,kC,kD,kE,kF,kG,kH,kI,kJ,kK]at *))<;>omega)
theorem znAa {N:Nat} {f3:Te} {f5:Bool} {k_exit_2:Tl→Option R}:∀ {n:Nat} {f0:Tl} {f8:Int},(0≤f8)→(f3.2.2.1.length≤1000000000)→(f8≤f3.2.2.1.length)→(N≤3000000000)→(f3.2.2.1.length≤3000)→(f0.length≤N+12*f8)→((f3.2.2.1.length:Int)-f8).toNat<n→(∀(w0:Tl),(w0.length≤N+36000)→Φ (k_exit_2 w0))→Φ (loopN (zifa k_exit_2) n ⟨f0,f3,f5,f8⟩):=by
 intro n; induction n; intros; omega; rename_i n ih; intro f0 f8 i0 i1 i2 i3 i4 i5 hm q0;rw[zaaa];unfold zifa
 try dsimp only
 refine kL (λ_=>zI3a ?_ ?_ (λ_ _=>ih ?_ ?_ ?_ ?_ ?_ ?_ ?_ q0)) λ_=>q0 _ ?_
 all_goals first|with_reducible assumption|omega|with_reducible exact (zuaa _).1|with_reducible exact (zuaa _).2|rfl|(simp (disch:=omega) only[kA,kB,kC,kD,kE,kF,kG,kH,kI,kJ,kK]<;>omega)|((iterate 2 (try simp (disch:=omega) only[kA,kB,kC,kD,kE,kF,kG,kH,kI,kJ,kK]at *))<;>omega)
theorem zvIa {a0:Tl} {a1:Te} {K:Tl→Option R} (p0:a0.length≤1000000000) (p1:zwwa a1.2.1) (p2:a1.2.2.1.length≤3000) (hk:∀(r0:Tl),(r0.length≤a0.length+140000)→Φ (K r0)):Φ (zvia a0 a1 K):=by
 unfold zvia
 try dsimp only
 refine zSCa ?_ ?_ ?_ (zdaa ?_) (λ_=>zQCa (λ_=>zlAa (λ_=>znca ?_ λ_ _=>zkAa ?_ ?_ (λ_ _=>zjAa ?_ (λ_ _=>ziAa ?_ (λ_ _=>znca ?_ λ_ _=>znAa (N:=a0.length+93100) ?_ ?_ ?_ ?_ ?_ ?_ (zdaa ?_) (λ_ _=>hk _ ?_)))))))
 all_goals omega
theorem zTCa {f1:Tf} {f3:Tl} {f4 f5:Int} {k_exit_2:Tf→Tl→Int→Int→Int→Option R}:∀ {n:Nat} {f6:Int},(0≤f5)→(f5<f1.2.1.length)→(f5≤f6)→(f6≤f1.2.1.length)→(f1.2.1.length≤3000)→((f1.2.1.length:Int)-f6).toNat<n→(∀(w4:Int),(f5<w4)→(w4≤f1.2.1.length)→Φ (k_exit_2 f1 f3 f4 f5 w4))→Φ (loopN (zwga k_exit_2) n ⟨f1,f3,f4,f5,f6⟩):=by
 intro n; induction n; intros; omega; rename_i n ih; intro f6 i0 i1 i2 i3 i4 hm q0;rw[zaaa];unfold zwga zGka
 try dsimp only
 refine kL (λ_=>kP ?_ λ_=>kP ?_ λ_=>kM (λ_=>ih ?_ ?_ ?_ ?_ ?_ ?_ q0) λ_=>q0 _ ?_ ?_) λ_=>q0 _ ?_ ?_
 all_goals first|with_reducible assumption|omega|with_reducible exact (zuaa _).1|with_reducible exact (zuaa _).2|rfl|(simp (disch:=omega) only[kA,kB,kC,kD,kE,kF,kG,kH,kI,kJ,kK]<;>omega)|((iterate 2 (try simp (disch:=omega) only[kA,kB,kC,kD,kE,kF,kG,kH,kI,kJ,kK]at *))<;>omega)|with_reducible exact zGXa (by assumption) (by assumption)
theorem zM3a {f1:Tf} {f3:Tl} {f4 f5 f6:Int} {k_normal:Tf→Tl→Int→Int→Option R} (p0:0≤f5∧f5<f1.2.1.length) (p1:f3.length≤1000000000) (q0:(∀(w1:Tl),(w1.length≤f3.length+11)→Φ (k_normal f1 w1 f4 f6))):Φ (zFka k_normal ⟨f1,f3,f4,f5,f6⟩):=by
 unfold zFka
 try dsimp only
 try simp only[zKaa]
 refine kP ?_ λ_=>znca ?_ λ_ _=>kY ?_<|q0 _ ?_
 all_goals first|omega|assumption|(simp (disch:=omega) only[kA,kB,kC,kD,kE,kF,kG,kH,kI,kJ,kK]<;>omega)
theorem zUCa {f1:Tf} {k_exit_0:Tf→Tl→Int→Option R}:∀ {n:Nat} {f3:Tl} {f4 f5:Int},(0≤f5)→(f1.2.1.length≤1000000000)→(f5≤f1.2.1.length)→(f1.2.1.length≤3000)→(f3.length≤11*f5)→((f1.2.1.length:Int)-f5).toNat<n→(∀(w1:Tl) (w2:Int),(w1.length≤33000)→Φ (k_exit_0 f1 w1 w2))→Φ (loopN (zxga k_exit_0) n ⟨f1,f3,f4,f5⟩):=by
 intro n; induction n; intros; omega; rename_i n ih; intro f3 f4 f5 i0 i1 i2 i3 i4 hm q0;rw[zaaa];unfold zxga
 try dsimp only
 refine kL (λ_=>zTCa ?_ ?_ ?_ ?_ ?_ (zdaa ?_) (λ_ _ _=>zM3a ?_ ?_ (λ_ _=>ih ?_ ?_ ?_ ?_ ?_ ?_ q0))) λ_=>q0 _ _ ?_
 all_goals first|omega|assumption|(simp (disch:=omega) only[kA,kB,kC,kD,kE,kF,kG,kH,kI,kJ,kK]<;>omega)
theorem zwIa {a0:Tf} {K:Tl→Option R} (p0:a0.2.1.length≤3000) (p1:zwwa a0.2.2.1) (hk:∀(r0:Tl),(r0.length≤126010)→Φ (K r0)):Φ (zwia a0 K):=by
 unfold zwia
 try dsimp only
 refine zUCa ?_ ?_ ?_ ?_ ?_ (zdaa ?_) (λ_ _ _=>znca ?_ λ_ _=>kY ?_<|zuua ?_ ?_ λ_ _=>hk _ ?_)
 all_goals first|with_reducible assumption|omega|with_reducible exact (zuaa _).1|with_reducible exact (zuaa _).2|rfl|(simp (disch:=omega) only[kA,kB,kC,kD,kE,kF,kG,kH,kI,kJ,kK]<;>omega)|((iterate 2 (try simp (disch:=omega) only[kA,kB,kC,kD,kE,kF,kG,kH,kI,kJ,kK]at *))<;>omega)
theorem zzua {f0:Int} {f3:It21} {f6:Int} {f7:Tl} {f8:Int} {f12:Te} {k_normal:Int→It21→Int→Tl→Int→Te→Option R} (p0:f7.length≤1000000000) (p1:zwwa f12.2.1) (q0:(∀(w3:Tl),(w3.length≤f7.length+93000)→Φ (k_normal f0 f3 f6 w3 f8 f12))):Φ (zwda k_normal ⟨f0,f3,f6,f7,f8,f12⟩):=by
 unfold zwda
 try dsimp only
 refine kM (λ_=>zuua ?_ ?_ λ_ _=>q0 _ ?_) λ_=>q0 _ ?_
 all_goals omega
theorem zBua {f0:Int} {f3:It21} {f6:Int} {f7:Tl} {f8:Int} {k_normal:Int→It21→Int→Tl→Int→Option R} (p0:SM f3) (p1:Cnt f0 f3 f6) (p2:0≤f8) (p3:f8<f6) (p4:f7.length≤900000000) (q0:(∀(w3:Tl),(w3.length≤f7.length+140010)→Φ (k_normal f0 f3 f6 w3 f8))):Φ (zyda k_normal ⟨f0,f3,f6,f7,f8⟩):=by
 have ⟨z,y1,y2,y3,y4,y5,y6,y7,y8⟩:=p0;have ⟨a1,a2⟩:=tget y1 f8.toNat;have ⟨a3,a4⟩:=iget y2 f8.toNat;have ⟨a5,a6⟩:=fget y3 f8.toNat;have a7:=gget y4 f8.toNat;have a8:=xget y5 f8.toNat;have ⟨a9,a10⟩:=eget y6 f8.toNat;have ⟨a11,a12⟩:=eget y7 f8.toNat;unfold Cnt at p1;unfold zyda
 try dsimp only
 try simp only[zKaa]
 refine kM (λ_=>kP ?_ λ_=>zxIa ?_ ?_ λ_ _=>kY ?_<|q0 _ ?_) λ_=>kM (λ_=>kP ?_ λ_=>zAua ?_ ?_ ?_ (λ_ _=>kM (λ_=>znca ?_ λ_ _=>q0 _ ?_) λ_=>kM (λ_=>kY ?_<|zsoa ?_ λ_ _=>q0 _ ?_) λ_=>kM (λ_=>zsoa ?_ λ_ _=>q0 _ ?_) λ_=>kM (λ_=>kY ?_<|ziKa ?_ λ_ _=>q0 _ ?_) λ_=>q0 _ ?_)) λ_=>kM (λ_=>kP ?_ λ_=>znca ?_ λ_ _=>q0 _ ?_) λ_=>kM (λ_=>kP ?_ λ_=>kY ?_<|zsoa ?_ λ_ _=>q0 _ ?_) λ_=>kM (λ_=>kP ?_ λ_=>zsoa ?_ λ_ _=>q0 _ ?_) λ_=>kM (λ_=>kP ?_ λ_=>kP ?_ λ_=>kP ?_ λ_=>kY ?_<|ziKa ?_ λ_ _=>zuua ?_ ?_ λ_ _=>q0 _ ?_) λ_=>kM (λ_=>kP ?_ λ_=>ztua ?_ ?_ λ_ _=>kY ?_<|znca ?_ λ_ _=>q0 _ ?_) λ_=>kM (λ_=>kP ?_ λ_=>zvIa ?_ ?_ ?_ λ_ _=>q0 _ ?_) λ_=>kM (λ_=>kP ?_ λ_=>zwIa ?_ ?_ λ_ _=>znca ?_ λ_ _=>kY ?_<|q0 _ ?_) λ_=>kM (λ_=>kP ?_ λ_=>znca ?_ λ_ _=>zzua ?_ ?_ (λ_ _=>znca ?_ λ_ _=>kY ?_<|q0 _ ?_)) λ_=>q0 _ ?_
 all_goals first|with_reducible assumption|omega|with_reducible exact (zuaa _).1|with_reducible exact (zuaa _).2|rfl|(simp (disch:=omega) only[kA,kB,kC,kD,kE,kF,kG,kH,kI,kJ,kK]<;>omega)|((iterate 2 (try simp (disch:=omega) only[kA,kB,kC,kD,kE,kF,kG,kH,kI,kJ,kK]at *))<;>omega)
theorem zCua {f0:Int} {f3:It21} {f6:Int} {k_exit_0:Tl→Option R}:∀ {n:Nat} {f7:Tl} {f8:Int},(SM f3)→(Cnt f0 f3 f6)→(f6≤70)→(0≤f8)→(f8≤70)→(f7.length≤10+140010*f8)→(f6-f8).toNat<n→(∀(w0:Tl),(w0.length≤10000000)→Φ (k_exit_0 w0))→Φ (loopN (zzda k_exit_0) n ⟨f0,f3,f6,f7,f8⟩):=by
 intro n; induction n; intros; omega; rename_i n ih; intro f7 f8 i0 i1 i2 i3 i4 i5 hm q0;rw[zaaa];unfold zzda
 try dsimp only
 refine kL (λ_=>zBua ?_ ?_ ?_ ?_ ?_ (λ_ _=>ih ?_ ?_ ?_ ?_ ?_ ?_ ?_ q0)) λ_=>q0 _ ?_
 all_goals first|omega|assumption|(simp (disch:=omega) only[kA,kB,kC,kD,kE,kF,kG,kH,kI,kJ,kK]<;>omega)
theorem zKCa {a0:Int} {a1:It21} {K:Tl→Bool→Option R} (p0:1≤a0) (p1:a0≤12) (p2:SM a1) (hk:∀(r0:Tl) (r1:Bool),(r0.length≤10000000)→Φ (K r0 r1)):Φ (zJea a0 a1 K):=by
 have z:=p2.rows;have ⟨g,g2⟩:=cnt8 a0 a1;have g3:=zu3a p0 p1 p2;have g4:=g3.1;unfold zJea
 try dsimp only
 refine kP ?_ λ_=>kM (λ_=>hk _ _ ?_) λ_=>kM (λ_=>kP ?_ λ_=>znca ?_ λ_ _=>hk _ _ ?_) λ_=>kM (λ_=>kP ?_ λ_=>znca ?_ λ_ _=>hk _ _ ?_) λ_=>znca ?_ λ_ _=>zCua ?_ ?_ ?_ ?_ ?_ ?_ (zdaa ?_) (λ_ _=>hk _ _ ?_)
 all_goals first|with_reducible assumption|omega|with_reducible exact (zuaa _).1|with_reducible exact (zuaa _).2|rfl|(simp (disch:=omega) only[kA,kB,kC,kD,kE,kF,kG,kH,kI,kJ,kK]<;>omega)|((iterate 2 (try simp (disch:=omega) only[kA,kB,kC,kD,kE,kF,kG,kH,kI,kJ,kK]at *))<;>omega)
theorem zsKa {f1:It21} {f10:Tl} {f11:Int} {k_exit_0:It21→List Ts→Option R}:∀ {n:Nat} {f4:List Ts} {f12:Int},(f11=(f10.length:Int))→(0≤f12)→(f10.length≤1000000000)→(f12≤f11)→(SM f1)→(IdOk f10)→(∀y∈f4,SeOk y)→(f4.length≤f12)→(f10.length=12)→(f11-f12).toNat<n→(∀(w1:List Ts),(∀y∈w1,SeOk y)→(w1.length≤12)→Φ (k_exit_0 f1 w1))→Φ (loopN (ztma k_exit_0) n ⟨f1,f4,f10,f11,f12⟩):=by
 intro n; induction n; intros; omega; rename_i n ih; intro f4 f12 i0 i1 i2 i3 i4 i5 i6 i7 i8 hm q0;rw[zaaa];unfold ztma
 try dsimp only
 refine kL (λ_=>kP ?_ λ_=>zKCa ?_ ?_ ?_ λ_ _ _=>kO (λ_=>kY ?_<|ih ?_ ?_ ?_ ?_ ?_ ?_ ?_ ?_ ?_ ?_ q0) λ_=>ih ?_ ?_ ?_ ?_ ?_ ?_ ?_ ?_ ?_ ?_ q0) λ_=>q0 _ ?_ ?_
 all_goals first|with_reducible assumption|omega|with_reducible exact (zuaa _).1|with_reducible exact (zuaa _).2|rfl|(simp (disch:=omega) only[kA,kB,kC,kD,kE,kF,kG,kH,kI,kJ,kK]<;>omega)|((iterate 2 (try simp (disch:=omega) only[kA,kB,kC,kD,kE,kF,kG,kH,kI,kJ,kK]at *))<;>omega)|with_reducible exact (idget (by assumption) (by omega) (by omega)).1|with_reducible exact (idget (by assumption) (by omega) (by omega)).2|with_reducible exact zW1a (by assumption) (by assumption)
theorem zHIa {f1:It21} {k_exit_2:List Ts→Option R}:∀ {n:Nat} {f4:List Ts} {f9:Int},(0≤f9)→(f1.2.2.2.2.2.2.2.2.2.2.2.1.length≤1000000000)→(f9≤f1.2.2.2.2.2.2.2.2.2.2.2.1.length)→(SM f1)→(∀y∈f4,SeOk y)→(f4.length≤12+f9)→((f1.2.2.2.2.2.2.2.2.2.2.2.1.length:Int)-f9).toNat<n→(∀(w0:List Ts),(∀y∈w0,SeOk y)→(w0.length≤82)→Φ (k_exit_2 w0))→Φ (loopN (zWka k_exit_2) n ⟨f1,f4,f9⟩):=by
 intro n; induction n; intros; omega; rename_i n ih; intro f4 f9 i0 i1 i2 i3 i4 i5 hm q0;have ⟨z,y1,y2,y3,y4,y5,y6,y7,y8⟩:=i3;have ⟨g,g2⟩:=cget y8 f9.toNat;rw[zaaa];unfold zWka
 try dsimp only
 refine kL (λ_=>kP ?_ λ_=>kP ?_ λ_=>ztua ?_ ?_ λ_ _=>kY ?_<|kY ?_<|ih ?_ ?_ ?_ ?_ ?_ ?_ ?_ q0) λ_=>q0 _ ?_ ?_
 all_goals first|with_reducible assumption|omega|with_reducible exact (zuaa _).1|with_reducible exact (zuaa _).2|rfl|(simp (disch:=omega) only[kA,kB,kC,kD,kE,kF,kG,kH,kI,kJ,kK]<;>omega)|((iterate 2 (try simp (disch:=omega) only[kA,kB,kC,kD,kE,kF,kG,kH,kI,kJ,kK]at *))<;>omega)|with_reducible exact zW1a (by assumption) (by simp only[List.length_append,List.length_nil]at *; omega)
theorem zuHa {a0:Int} {K:Int→Option R} (hk:∀(r0:Int),Φ (K r0)):Φ (zCma a0 K):=by
 unfold zCma
 try dsimp only
 exact kM (λ_=>hk _) λ_=>hk _
theorem znPa {f0:List Ts} {f1:Int} {k_ret:Bool→Option R} {k_exit_0:Option R}:∀ {n:Nat} {f5:Int},(0≤f5)→(f0.length≤1000000000)→(f5≤f0.length)→((f0.length:Int)-f5).toNat<n→(∀(w0:Bool),Φ (k_ret w0))→(Φ (k_exit_0))→Φ (loopN (zpsa k_ret k_exit_0) n ⟨f0,f1,f5⟩):=by
 intro n; induction n; intros; omega; rename_i n ih; intro f5 i0 i1 i2 hm q0 q1;rw[zaaa];unfold zpsa
 try dsimp only
 refine kL (λ_=>kN (λ_=>kP ?_ λ_=>kN (λ_=>kP ?_ λ_=>zuHa λ_=>zuHa λ_=>kL (λ_=>q0 _) λ_=>ih ?_ ?_ ?_ ?_ q0 q1) λ_=>ih ?_ ?_ ?_ ?_ q0 q1) λ_=>ih ?_ ?_ ?_ ?_ q0 q1) λ_=>q1
 all_goals first|omega|assumption|(simp (disch:=omega) only[kA,kB,kC,kD,kE,kF,kG,kH,kI,kJ,kK]<;>omega)
theorem zDOa {a0:List Ts} {a1:Int} {K:Bool→Option R} (p0:a0.length≤1000000000) (hk:∀(r0:Bool),(r0=true→0≤a1∧a1≤12)→Φ (K r0)):Φ (zyta a0 a1 K):=by
 unfold zyta
 try dsimp only
 refine kL (λ_=>hk _ ?_) λ_=>kL (λ_=>hk _ ?_) λ_=>znPa ?_ ?_ ?_ (zdaa ?_) (λ_=>hk _ ?_) (hk _ ?_)
 all_goals first|with_reducible assumption|omega|with_reducible exact (zuaa _).1|with_reducible exact (zuaa _).2|rfl|(simp (disch:=omega) only[kA,kB,kC,kD,kE,kF,kG,kH,kI,kJ,kK]<;>omega)|((iterate 2 (try simp (disch:=omega) only[kA,kB,kC,kD,kE,kF,kG,kH,kI,kJ,kK]at *))<;>omega)|(intro h; cases h)
theorem zjNa {f0:List Ts} {k_ret:Tl→Int→Option R} {k_exit_0:List Ts→Option R}:∀ {n:Nat} {f4:Int},(0≤f4)→(f0.length≤1000000000)→(f4≤f0.length)→((f0.length:Int)-f4).toNat<n→(∀(w0:Tl) (w1:Int),(w1=2)→Φ (k_ret w0 w1))→(Φ (k_exit_0 f0))→Φ (loopN (zgpa k_ret k_exit_0) n ⟨f0,f4⟩):=by
 intro n; induction n; intros; omega; rename_i n ih; intro f4 i0 i1 i2 hm q0 q1;rw[zaaa];unfold zgpa
 try dsimp only
 refine kL (λ_=>kQ ?_ λ_=>kP ?_ λ_=>zDOa ?_ λ_ _=>kU (kO (λ_=>ih ?_ ?_ ?_ ?_ q0 q1) λ_=>q0 _ _ ?_)) λ_=>q1
 all_goals first|omega|assumption|(simp (disch:=omega) only[kA,kB,kC,kD,kE,kF,kG,kH,kI,kJ,kK]<;>omega)
theorem ziNa {f0:List Ts} {k_exit_2:Tl→Option R}:∀ {n:Nat} {f5:Tl} {f6:Int},(0≤f6)→(f0.length≤1000000000)→(f6≤f0.length)→(∀y∈f0,SeOk y)→(f0.length≤82)→(f5.length≤8+10000011*f6)→((f0.length:Int)-f6).toNat<n→(∀(w0:Tl),Φ (k_exit_2 w0))→Φ (loopN (zfpa k_exit_2) n ⟨f0,f5,f6⟩):=by
 intro n; induction n; intros; omega; rename_i n ih; intro f5 f6 i0 i1 i2 i3 i4 i5 hm q0;have g:=sget i3 f6.toNat;rw[zaaa];unfold zfpa
 try dsimp only
 refine kL (λ_=>kP ?_ λ_=>kY ?_<|kP ?_ λ_=>zfda λ_ _=>kY ?_<|kP ?_ λ_=>kY ?_<|ih ?_ ?_ ?_ ?_ ?_ ?_ ?_ q0) λ_=>q0 _
 all_goals first|omega|assumption|(simp (disch:=omega) only[kA,kB,kC,kD,kE,kF,kG,kH,kI,kJ,kK]<;>omega)
theorem zKTa {a0:List Ts} {K:Tl→Int→Option R} (p0:∀y∈a0,SeOk y) (p1:a0.length≤82) (hk:∀(r0:Tl) (r1:Int),(r1=0→r0.length≤65536)→Φ (K r0 r1)):Φ (zeva a0 K):=by
 unfold zeva
 try dsimp only
 refine zjNa ?_ ?_ ?_ (zdaa ?_) (λ_ _ _=>hk _ _ ?_) (kS ?_<|ziNa ?_ ?_ ?_ ?_ ?_ ?_ (zdaa ?_) (λ_=>kL (λ_=>hk _ _ ?_) λ_=>hk _ _ ?_))
 all_goals first|rfl|(intro h; exact absurd h (by omega))|with_reducible assumption|omega|with_reducible exact (zuaa _).1|with_reducible exact (zuaa _).2|rfl|(simp (disch:=omega) only[kA,kB,kC,kD,kE,kF,kG,kH,kI,kJ,kK]<;>omega)|((iterate 2 (try simp (disch:=omega) only[kA,kB,kC,kD,kE,kF,kG,kH,kI,kJ,kK]at *))<;>omega)
theorem zvRa {a0:It21} {K:Tl→Int→Option R} (p0:SM a0) (hk:∀(r0:Tl) (r1:Int),(r1=0→r0.length≤65536)→Φ (K r0 r1)):Φ (zLra a0 K):=by
 have z:=p0.rows;unfold zLra
 try dsimp only
 refine zsKa ?_ ?_ ?_ ?_ ?_ ?_ ?_ ?_ ?_ (zdaa ?_) (λ_ _ _=>zHIa ?_ ?_ ?_ ?_ ?_ ?_ (zdaa ?_) (λ_ _ _=>zKTa ?_ ?_ λ_ _ _=>hk _ _ ?_))
 all_goals first|with_reducible assumption|omega|with_reducible exact (zuaa _).1|with_reducible exact (zuaa _).2|rfl|(simp (disch:=omega) only[kA,kB,kC,kD,kE,kF,kG,kH,kI,kJ,kK]<;>omega)|((iterate 2 (try simp (disch:=omega) only[kA,kB,kC,kD,kE,kF,kG,kH,kI,kJ,kK]at *))<;>omega)|(show ∀y∈[(1:Int),2,3,4,5,6,7,8,9,12,10,11],1≤y∧y≤12; decide)|(intro y hy; cases hy)
end Go.Trm.G1
namespace Go.Trm.G1
def SpOk (y:Int×List Int×Unit):Prop:=(0≤y.1∧y.1≤12)∧y.2.1.length≤65536
theorem spget {l:List (Int×List Int×Unit)} (h:∀y∈l,SpOk y) (i:Nat):(0≤(l.getD i (0,[],())).1∧(l.getD i (0,[],())).1≤12)∧(l.getD i (0,[],())).2.1.length≤65536:=zOJa h (by unfold SpOk; simp) i
theorem zb3a {l:List (Int×List Int×Unit)} {z:Int×List Int×Unit} {r:Bool} {i:Int} {b:List Int} (h:∀y∈l,SpOk y) (hr:r=true→0≤i∧i≤12) (ht:r=true) (hl:b.length≤65536):∀x∈l++List.set (List.replicate 1 z) 0 (i,b,()),SpOk x:=by
 intro x hx;rcases List.mem_append.1 hx with q|q
 ·exact h x q
 ·have:x∈[(i,b,())]:=q;rw[List.mem_singleton]at this; subst this; exact ⟨hr ht,hl⟩
theorem zV1a:∀y∈([]:List (Int×List Int×Unit)),SpOk y:=λ_ h=>by cases h
theorem zK2a {r:Int} (h0:0≤r) (h:r≤4) (h1:r≠0):((List.set (List.set (List.set (List.set (List.set (List.replicate 5 (0:Int)) 0 (0:Int)) 1 (128:Int)) 2 (32:Int)) 3 (16:Int)) 4 (8:Int)).getD r.toNat (0:Int) != 0)=true:=by
 have:r=1∨r=2∨r=3∨r=4:=by omega
 rcases this with h|h|h|h<;>subst h<;>decide
abbrev FnT:=Int×List Int×List InsT×Unit
def LocOk (l:List FnT):Prop:=∀y∈l,y.2.1.length≤64
theorem zQVa {l:List FnT} (h:LocOk l) (i:Nat):(l.getD i (0,[],[],())).2.1.length≤64:=zOJa (P:=λy:FnT=>y.2.1.length≤64) h (Nat.zero_le _) i
theorem zu2a:LocOk []:=λ_ h=>by cases h
theorem zv2a {l:List FnT} {z y:FnT} (h:LocOk l) (hy:y.2.1.length≤64):LocOk (l++List.set (List.replicate 1 z) 0 y):=by
 intro x hx;rcases List.mem_append.1 hx with q|q
 ·exact h x q
 ·have:x∈[y]:=q;rw[List.mem_singleton]at this; subst this; exact hy
theorem zSZa {l:List FnT} {y:FnT} {i:Nat} (h:LocOk l) (hy:y.2.1.length≤64):LocOk (l.set i y):=by
 intro x hx;rcases List.mem_or_eq_of_mem_set hx with q|q
 ·exact h x q
 ·subst q; exact hy
theorem zjca {l:List FnT} {y d:FnT} {i:Nat} (h:i<l.length):(l.set i y).getD i d=y:=by
 rw[List.getD_eq_getElem?_getD,List.getElem?_set_self h]; rfl
abbrev Rw (m:It21) (N:Int):Prop:=(m.1.length:Int)≤N∧(m.2.1.length:Int)≤N∧(m.2.2.1.length:Int)≤N∧(m.2.2.2.1.length:Int)≤N∧(m.2.2.2.2.1.length:Int)≤N∧(m.2.2.2.2.2.1.length:Int)≤N∧(m.2.2.2.2.2.2.1.length:Int)≤N∧(m.2.2.2.2.2.2.2.2.1.length:Int)≤N∧(m.2.2.2.2.2.2.2.2.2.2.1.length:Int)≤N∧(m.2.2.2.2.2.2.2.2.2.2.2.1.length:Int)≤N
abbrev RwP (m:It21) (p N:Int):Prop:=(m.1.length:Int)+p≤N∧(m.2.1.length:Int)+p≤N∧(m.2.2.1.length:Int)+p≤N∧(m.2.2.2.1.length:Int)+p≤N∧(m.2.2.2.2.1.length:Int)+p≤N∧(m.2.2.2.2.2.1.length:Int)+p≤N∧(m.2.2.2.2.2.2.1.length:Int)+p≤N∧(m.2.2.2.2.2.2.2.2.1.length:Int)+p≤N∧(m.2.2.2.2.2.2.2.2.2.2.1.length:Int)+p≤N∧(m.2.2.2.2.2.2.2.2.2.2.2.1.length:Int)+p≤N
abbrev RwS (a b:It21):Prop:=a.1.length≤b.1.length+1∧a.2.1.length≤b.2.1.length+1∧a.2.2.1.length≤b.2.2.1.length+1∧a.2.2.2.1.length≤b.2.2.2.1.length+1∧a.2.2.2.2.1.length≤b.2.2.2.2.1.length+1∧a.2.2.2.2.2.1.length≤b.2.2.2.2.2.1.length+1∧a.2.2.2.2.2.2.1.length≤b.2.2.2.2.2.2.1.length+1∧a.2.2.2.2.2.2.2.2.1.length≤b.2.2.2.2.2.2.2.2.1.length+1∧a.2.2.2.2.2.2.2.2.2.2.1.length≤b.2.2.2.2.2.2.2.2.2.2.1.length+1∧a.2.2.2.2.2.2.2.2.2.2.2.1.length≤b.2.2.2.2.2.2.2.2.2.2.2.1.length+1
end Go.Trm.G1
