import Derived.Test.YtjjoacepbndhhaaGreatTrmW7h
set_option linter.unusedVariables false
set_option linter.unusedSimpArgs false
namespace Go.Trm.G1
variable {R:Type} {Φ:Option R→Prop}
theorem ztKa {f0:Tl} {f4:Tb} {k_ret:List Ts→Int→Option R} {k_exit_0:Tl→Option R}:∀ {n:Nat} {f5:Int},(0≤f5)→(f5≤8)→(f4.length=8)→(f5≤f0.length)→(8-f5).toNat<n→(∀(w0:List Ts) (w1:Int),(∀y∈w0,SpOk y)→(w0.length≤65536)→Φ (k_ret w0 w1))→((8≤f0.length)→Φ (k_exit_0 f0))→Φ (loopN (zuma k_ret k_exit_0) n ⟨f0,f4,f5⟩):=by
 intro n; induction n; intros; omega; rename_i n ih; intro f5 i0 i1 i2 i3 hm q0 q1;rw[zaaa];unfold zuma
 try dsimp only
 refine kL (λ_=>kM (λ_=>q0 _ _ ?_ ?_) λ_=>kP ?_ λ_=>kP ?_ λ_=>kN (λ_=>q0 _ _ ?_ ?_) λ_=>ih ?_ ?_ ?_ ?_ ?_ q0 q1) λ_=>q1 ?_
 all_goals first|with_reducible exact zV1a|with_reducible assumption|omega|with_reducible exact (zuaa _).1|with_reducible exact (zuaa _).2|rfl|(simp (disch:=omega) only[kA,kB,kC,kD,kE,kF,kG,kH,kI,kJ,kK]<;>omega)|((iterate 2 (try simp (disch:=omega) only[kA,kB,kC,kD,kE,kF,kG,kH,kI,kJ,kK]at *))<;>omega)
theorem zoKa {a0:Tl} {K:Tl→Option R} (p0:a0.length≤1000000000) (hk:∀(r0:Tl),(r0.length=a0.length)→Φ (K r0)):Φ (zbqa a0 K):=by
 unfold zbqa
 try dsimp only
 refine kY ?_<|hk _ ?_
 all_goals first|omega|assumption|(simp (disch:=omega) only[kA,kB,kC,kD,kE,kF,kG,kH,kI,kJ,kK]<;>omega)
theorem zIIa {f0:Tl} {k_ret:List Ts→Int→Option R} {k_exit_2:List Ts→Option R}:∀ {n:Nat} {f6:List Ts} {f7:Int},(0≤f7)→(f0.length≤1000000000)→(f7≤f0.length)→(f0.length≤65536)→(∀y∈f6,SpOk y)→(f6.length≤f7)→((f0.length:Int)-f7).toNat<n→(∀(w0:List Ts) (w1:Int),(∀y∈w0,SpOk y)→(w0.length≤65536)→Φ (k_ret w0 w1))→(∀(w0:List Ts),(∀y∈w0,SpOk y)→(w0.length≤65536)→Φ (k_exit_2 w0))→Φ (loopN (zXka k_ret k_exit_2) n ⟨f0,f6,f7⟩):=by
 intro n; induction n; intros; omega; rename_i n ih; intro f6 f7 i0 i1 i2 i3 i4 i5 hm q0 q1;rw[zaaa];unfold zXka
 try dsimp only
 refine kL (λ_=>kP ?_ λ_=>zDOa ?_ λ_ _=>kU (kO (λ_=>kQ ?_ λ_=>zEja ?_ ?_ λ_ _ _ _ _ _ _=>kN (λ_=>q0 _ _ ?_ ?_) λ_=>kL (λ_=>q0 _ _ ?_ ?_) λ_=>kQ ?_ λ_=>zoKa ?_ λ_ _=>kY ?_<|ih ?_ ?_ ?_ ?_ ?_ ?_ ?_ q0 q1) λ_=>q0 _ _ ?_ ?_)) λ_=>q1 _ ?_ ?_
 all_goals first|with_reducible assumption|omega|with_reducible exact (zuaa _).1|with_reducible exact (zuaa _).2|rfl|(simp (disch:=omega) only[kA,kB,kC,kD,kE,kF,kG,kH,kI,kJ,kK]<;>omega)|((iterate 2 (try simp (disch:=omega) only[kA,kB,kC,kD,kE,kF,kG,kH,kI,kJ,kK]at *))<;>omega)|with_reducible exact zb3a (by assumption) (by assumption) (by assumption) (by simp only[zGZa]at *; omega)
theorem zwRa {a0:Tl} {K:List Ts→Int→Option R} (hk:∀(r0:List Ts) (r1:Int),(∀y∈r0,SpOk y)→(r0.length≤65536)→Φ (K r0 r1)):Φ (zMra a0 K):=by
 unfold zMra
 try dsimp only
 refine kL (λ_=>hk _ _ ?_ ?_) λ_=>ztKa ?_ ?_ ?_ ?_ (zdaa ?_) (λ_ _ _ _=>hk _ _ ?_ ?_) (λ_=>zIIa ?_ ?_ ?_ ?_ ?_ ?_ (zdaa ?_) (λ_ _ _ _=>hk _ _ ?_ ?_) (λ_ _ _=>hk _ _ ?_ ?_))
 all_goals first|with_reducible exact zV1a|with_reducible assumption|omega|with_reducible exact (zuaa _).1|with_reducible exact (zuaa _).2|rfl|(simp (disch:=omega) only[kA,kB,kC,kD,kE,kF,kG,kH,kI,kJ,kK]<;>omega)|((iterate 2 (try simp (disch:=omega) only[kA,kB,kC,kD,kE,kF,kG,kH,kI,kJ,kK]at *))<;>omega)
theorem zMTa {a0:Int} {K:Int→Option R} (hk:∀(r0:Int),(0≤r0)→(r0≤4)→Φ (K r0)):Φ (ziva a0 K):=by
 unfold ziva
 try dsimp only
 refine kL (λ_=>hk _ ?_ ?_) λ_=>kL (λ_=>kL (λ_=>hk _ ?_ ?_) λ_=>kL (λ_=>kL (λ_=>hk _ ?_ ?_) λ_=>kL (λ_=>kL (λ_=>hk _ ?_ ?_) λ_=>hk _ ?_ ?_) λ_=>hk _ ?_ ?_) λ_=>kL (λ_=>kL (λ_=>hk _ ?_ ?_) λ_=>hk _ ?_ ?_) λ_=>hk _ ?_ ?_) λ_=>kL (λ_=>kL (λ_=>hk _ ?_ ?_) λ_=>kL (λ_=>kL (λ_=>hk _ ?_ ?_) λ_=>hk _ ?_ ?_) λ_=>hk _ ?_ ?_) λ_=>kL (λ_=>kL (λ_=>hk _ ?_ ?_) λ_=>hk _ ?_ ?_) λ_=>hk _ ?_ ?_
 all_goals omega
theorem zxKa {f3:Tl} {f4:Int} {k_exit_2:Tl→Int→Int→Option R}:∀ {n:Nat} {f5 f6:Int},(0≤f6)→(f4≤f3.length)→(f3.length≤1000000000)→(f4-f6).toNat<n→(∀(w2:Int),Φ (k_exit_2 f3 f4 w2))→Φ (loopN (zyma k_exit_2) n ⟨f3,f4,f5,f6⟩):=by
 intro n; induction n; intros; omega; rename_i n ih; intro f5 f6 i0 i1 i2 hm q0;rw[zaaa];unfold zyma
 try dsimp only
 refine kL (λ_=>kP ?_ λ_=>kS rfl<|ih ?_ ?_ ?_ ?_ q0) λ_=>q0 _
 all_goals first|omega|assumption|(simp (disch:=omega) only[kA,kB,kC,kD,kE,kF,kG,kH,kI,kJ,kK]<;>omega)
theorem zlKa {a0:Int} {K:Tl→Option R} (hk:∀(r0:Tl),(r0.length≤4)→Φ (K r0)):Φ (zjva a0 K):=by
 unfold zjva
 try dsimp only
 refine kL (λ_=>hk _ ?_) λ_=>kL (λ_=>kS rfl<|kS rfl<|hk _ ?_) λ_=>kL (λ_=>kS ?_<|kS rfl<|kS rfl<|kS rfl<|hk _ ?_) λ_=>kS ?_<|kS ?_<|kS rfl<|kS rfl<|kS rfl<|kS rfl<|hk _ ?_
 all_goals first|with_reducible assumption|omega|with_reducible exact (zuaa _).1|with_reducible exact (zuaa _).2|rfl|(simp (disch:=omega) only[kA,kB,kC,kD,kE,kF,kG,kH,kI,kJ,kK]<;>omega)|((iterate 2 (try simp (disch:=omega) only[kA,kB,kC,kD,kE,kF,kG,kH,kI,kJ,kK]at *))<;>omega)
theorem zpNa {f0 f1:Tl} {k_ret:Bool→Option R} {k_exit_0:Option R}:∀ {n:Nat} {f5:Int},(0≤f5)→(f0.length≤1000000000)→(f5≤f0.length)→(f1.length=f0.length)→((f0.length:Int)-f5).toNat<n→(∀(w0:Bool),Φ (k_ret w0))→(Φ (k_exit_0))→Φ (loopN (zopa k_ret k_exit_0) n ⟨f0,f1,f5⟩):=by
 intro n; induction n; intros; omega; rename_i n ih; intro f5 i0 i1 i2 i3 hm q0 q1;rw[zaaa];unfold zopa
 try dsimp only
 refine kL (λ_=>kP ?_ λ_=>kP ?_ λ_=>kN (λ_=>q0 _) λ_=>ih ?_ ?_ ?_ ?_ ?_ q0 q1) λ_=>q1
 all_goals first|omega|assumption|(simp (disch:=omega) only[kA,kB,kC,kD,kE,kF,kG,kH,kI,kJ,kK]<;>omega)
theorem zvua {a0 a1:Tl} {K:Bool→Option R} (p0:a0.length≤1000000000) (hk:∀(r0:Bool),Φ (K r0)):Φ (zNla a0 a1 K):=by
 unfold zNla
 try dsimp only
 refine kN (λ_=>hk _) λ_=>zpNa ?_ ?_ ?_ ?_ (zdaa ?_) (λ_=>hk _) (hk _)
 all_goals omega
theorem zyKa  {k_ret:Bool→Option R} {k_exit_0:Option R}:∀ {n:Nat} {f3:Tl},(f3.length≤1000000000)→f3.length<n→(∀(w0:Bool),Φ (k_ret w0))→(Φ (k_exit_0))→Φ (loopN (zzma k_ret k_exit_0) n ⟨f3⟩):=by
 intro n; induction n; intros; omega; rename_i n ih; intro f3 i0 hm q0 q1;rw[zaaa];unfold zzma
 try dsimp only
 refine kL (λ_=>kP ?_ λ_=>zMTa λ_ _ _=>kM (λ_=>q0 _) λ_=>kL (λ_=>q0 _) λ_=>kP ?_ λ_=>kP ?_ λ_=>kS ?_<|zxKa ?_ ?_ ?_ (zdaa ?_) (λ_=>kL (λ_=>q0 _) λ_=>kL (λ_=>kL (λ_=>q0 _) λ_=>kQ ?_ λ_=>zlKa λ_ _=>zvua ?_ λ_=>kU (kO (λ_=>kQ ?_ λ_=>ih ?_ ?_ q0 q1) λ_=>q0 _)) λ_=>kQ ?_ λ_=>zlKa λ_ _=>zvua ?_ λ_=>kU (kO (λ_=>kQ ?_ λ_=>ih ?_ ?_ q0 q1) λ_=>q0 _))) λ_=>q1
 all_goals first|with_reducible exact zK2a (by assumption) (by assumption) (by assumption)|with_reducible assumption|omega|with_reducible exact (zuaa _).1|with_reducible exact (zuaa _).2|rfl|(simp (disch:=omega) only[kA,kB,kC,kD,kE,kF,kG,kH,kI,kJ,kK]<;>omega)|((iterate 2 (try simp (disch:=omega) only[kA,kB,kC,kD,kE,kF,kG,kH,kI,kJ,kK]at *))<;>omega)
theorem zARa {a0:Tb} {K:Bool→Option R} (p0:a0.length≤1000000000) (hk:∀(r0:Bool),Φ (K r0)):Φ (zQra a0 K):=by
 unfold zQra
 try dsimp only
 refine kY ?_<|zyKa ?_ (zdaa ?_) (λ_=>hk _) (hk _)
 all_goals first|omega|assumption|(simp (disch:=omega) only[kA,kB,kC,kD,kE,kF,kG,kH,kI,kJ,kK]<;>omega)
theorem zNCa {a0:Tl} {K:Tb→Int→Int→Option R} (p0:a0.length≤1000000000) (hk:∀(r0:Tb) (r1 r2:Int),(0≤r1)→(r1≤a0.length)→Φ (K r0 r1 r2)):Φ (zZpa a0 K):=by
 unfold zZpa
 try dsimp only
 refine zEja ?_ ?_ λ_ _ _ _ _ _ _=>kN (λ_=>hk _ _ _ ?_ ?_) λ_=>kQ ?_ λ_=>kL (λ_=>hk _ _ _ ?_ ?_) λ_=>kQ ?_ λ_=>zARa ?_ λ_=>kU (kO (λ_=>kL (λ_=>hk _ _ _ ?_ ?_) λ_=>hk _ _ _ ?_ ?_) λ_=>hk _ _ _ ?_ ?_)
 all_goals first|with_reducible assumption|omega|with_reducible exact (zuaa _).1|with_reducible exact (zuaa _).2|rfl|(simp (disch:=omega) only[kA,kB,kC,kD,kE,kF,kG,kH,kI,kJ,kK]<;>omega)|((iterate 2 (try simp (disch:=omega) only[kA,kB,kC,kD,kE,kF,kG,kH,kI,kJ,kK]at *))<;>omega)
theorem zjPa {a0:Tl} {K:Tb→Tl→Int→Option R} (p0:a0.length≤1000000000) (hk:∀(r0:Tb) (r1:Tl) (r2:Int),Φ (K r0 r1 r2)):Φ (zHoa a0 K):=by
 unfold zHoa
 try dsimp only
 refine zNCa ?_ λ_ _ _ _ _=>kN (λ_=>hk _ _ _) λ_=>kQ ?_ λ_=>hk _ _ _
 all_goals omega
theorem zlNa {f0:Tl} {f7:Int} {k_ret:Tl→Int→Int→Option R} {k_exit_0:Int→Tl→Option R}:∀ {n:Nat} {f1:Int} {f10:Tl},(0≤f1)→(f1≤f0.length)→(f0.length≤1000000000)→(0≤f7)→(f7≤8)→(f10.length≤8)→(9-f10.length)<n→(∀(w0:Tl) (w1 w2:Int),(w1=0)→Φ (k_ret w0 w1 w2))→(∀(w0:Int) (w1:Tl),(0≤w0)→(w0≤f0.length)→Φ (k_exit_0 w0 w1))→Φ (loopN (zkpa k_ret k_exit_0) n ⟨f0,f1,f7,f10⟩):=by
 intro n; induction n; intros; omega; rename_i n ih; intro f1 f10 i0 i1 i2 i3 i4 i5 hm q0 q1;rw[zaaa];unfold zkpa
 try dsimp only
 refine kL (λ_=>kL (λ_=>q0 _ _ _ ?_) λ_=>kP ?_ λ_=>zYFa λ_ _=>kN (λ_=>q0 _ _ _ ?_) λ_=>kY ?_<|ih ?_ ?_ ?_ ?_ ?_ ?_ ?_ q0 q1) λ_=>q1 _ _ ?_ ?_
 all_goals first|with_reducible assumption|omega|with_reducible exact (zuaa _).1|with_reducible exact (zuaa _).2|rfl|(simp (disch:=omega) only[kA,kB,kC,kD,kE,kF,kG,kH,kI,kJ,kK]<;>omega)|((iterate 2 (try simp (disch:=omega) only[kA,kB,kC,kD,kE,kF,kG,kH,kI,kJ,kK]at *))<;>omega)
theorem zjKa {a0:Tl} {a1:Int} {K:Tl→Int→Int→Option R} (p0:0≤a1) (p1:a1≤a0.length) (p2:a0.length≤1000000000) (hk:∀(r0:Tl) (r1 r2:Int),(0≤r1)→(r1≤a0.length)→Φ (K r0 r1 r2)):Φ (zYpa a0 a1 K):=by
 unfold zYpa
 try dsimp only
 refine kQ ?_ λ_=>zEja ?_ ?_ λ_ _ _ _ _ _ _=>kN (λ_=>hk _ _ _ ?_ ?_) λ_=>kL (λ_=>hk _ _ _ ?_ ?_) λ_=>zlNa ?_ ?_ ?_ ?_ ?_ ?_ (zdaa ?_) (λ_ _ _ _=>hk _ _ _ ?_ ?_) (λ_ _ _ _=>hk _ _ _ ?_ ?_)
 all_goals first|with_reducible assumption|omega|with_reducible exact (zuaa _).1|with_reducible exact (zuaa _).2|rfl|(simp (disch:=omega) only[kA,kB,kC,kD,kE,kF,kG,kH,kI,kJ,kK]<;>omega)|((iterate 2 (try simp (disch:=omega) only[kA,kB,kC,kD,kE,kF,kG,kH,kI,kJ,kK]at *))<;>omega)
theorem zkKa {a0:Tl} {K:Tq→Int→Int→Option R} (p0:a0.length≤1000000000) (hk:∀(r0:Tq) (r1 r2:Int),(0≤r1)→(r1≤a0.length)→Φ (K r0 r1 r2)):Φ (zgva a0 K):=by
 unfold zgva
 try dsimp only
 refine kL (λ_=>hk _ _ _ ?_ ?_) λ_=>kP ?_ λ_=>kN (λ_=>hk _ _ _ ?_ ?_) λ_=>zjKa ?_ ?_ ?_ λ_ _ _ _ _=>kN (λ_=>hk _ _ _ ?_ ?_) λ_=>zjKa ?_ ?_ ?_ λ_ _ _ _ _=>kN (λ_=>hk _ _ _ ?_ ?_) λ_=>hk _ _ _ ?_ ?_
 all_goals omega
theorem zzja {a0:Tc} {K:Tb→Tc→Option R} (p0:Cu a0) (hk:∀(r0:Tb) (r1:Tc),(Cu r1)→Φ (K r0 r1)):Φ (zGca a0 K):=by
 unfold zGca zNaa zOaa
 try dsimp only
 refine kN (λ_=>hk _ _ ?_) λ_=>kN (λ_=>zNCa ?_ λ_ _ _ _ _=>kM (λ_=>hk _ _ ?_) λ_=>hk _ _ ?_) λ_=>kQ ?_ λ_=>zNCa ?_ λ_ _ _ _ _=>kM (λ_=>hk _ _ ?_) λ_=>hk _ _ ?_
 all_goals first|with_reducible assumption|omega|with_reducible exact (zuaa _).1|with_reducible exact (zuaa _).2|rfl|(simp (disch:=omega) only[Cu,Rw,RwP,RwS,kA,kB,kC,kD,kE,kF,kG,kH,kI,kJ,kK]<;>omega)|((iterate 2 (try simp (disch:=omega) only[Cu,Rw,RwP,RwS,kA,kB,kC,kD,kE,kF,kG,kH,kI,kJ,kK]at *))<;>omega)
theorem zKba {a0:Tc} {K:Int→Tc→Option R} (p0:Cu a0) (hk:∀(r0:Int) (r1:Tc),(Cu r1)→(r1.2.2.1=0→a0.2.2.1=0)→Φ (K r0 r1)):Φ (zLba a0 K):=by
 unfold zLba zbaa
 try dsimp only
 try simp only[zKaa]
 refine kM (λ_=>kL (λ_=>kM (λ_=>kN (λ_=>hk _ _ ?_ ?_) λ_=>kP ?_ λ_=>hk _ _ ?_ ?_) λ_=>kN (λ_=>hk _ _ ?_ ?_) λ_=>kP ?_ λ_=>hk _ _ ?_ ?_) λ_=>kN (λ_=>hk _ _ ?_ ?_) λ_=>kP ?_ λ_=>hk _ _ ?_ ?_) λ_=>kN (λ_=>hk _ _ ?_ ?_) λ_=>kP ?_ λ_=>hk _ _ ?_ ?_
 all_goals first|with_reducible assumption|omega|with_reducible exact (zuaa _).1|with_reducible exact (zuaa _).2|rfl|(simp (disch:=omega) only[Cu,Rw,RwP,RwS,kA,kB,kC,kD,kE,kF,kG,kH,kI,kJ,kK]<;>omega)|((iterate 2 (try simp (disch:=omega) only[Cu,Rw,RwP,RwS,kA,kB,kC,kD,kE,kF,kG,kH,kI,kJ,kK]at *))<;>omega)
theorem zdda {a0:Tc} {a1:Int} {K:Int→Tc→Option R} (p0:Cu a0) (hk:∀(r0:Int) (r1:Tc),(Cu r1)→Φ (K r0 r1)):Φ (zuba a0 a1 K):=by
 unfold zuba zbaa
 try dsimp only
 refine zKba ?_ λ_ _ _ _=>kL (λ_=>kM (λ_=>hk _ _ ?_) λ_=>hk _ _ ?_) λ_=>hk _ _ ?_
 all_goals omega
theorem zvaa {a0:Tc} {K:Int→Tc→Option R} (p0:Cu a0) (hk:∀(r0:Int) (r1:Tc),(0≤r0)→(r0≤200000000000)→(Cu r1)→Φ (K r0 r1)):Φ (zoaa a0 K):=by
 unfold zoaa zNaa zOaa
 try dsimp only
 refine kN (λ_=>hk _ _ ?_ ?_ ?_) λ_=>kN (λ_=>zEja ?_ ?_ λ_ _ _ _ _ _ _=>kM (λ_=>hk _ _ ?_ ?_ ?_) λ_=>hk _ _ ?_ ?_ ?_) λ_=>kQ ?_ λ_=>zEja ?_ ?_ λ_ _ _ _ _ _ _=>kM (λ_=>hk _ _ ?_ ?_ ?_) λ_=>hk _ _ ?_ ?_ ?_
 all_goals first|with_reducible assumption|omega|with_reducible exact (zuaa _).1|with_reducible exact (zuaa _).2|rfl|(simp (disch:=omega) only[Cu,Rw,RwP,RwS,kA,kB,kC,kD,kE,kF,kG,kH,kI,kJ,kK]<;>omega)|((iterate 2 (try simp (disch:=omega) only[Cu,Rw,RwP,RwS,kA,kB,kC,kD,kE,kF,kG,kH,kI,kJ,kK]at *))<;>omega)
theorem zDda {a0:Tc} {K:Tc→Option R} (p0:Cu a0) (hk:∀(r0:Tc),(Cu r0)→Φ (K r0)):Φ (ztba a0 K):=by
 unfold ztba zbaa
 try dsimp only
 refine zKba ?_ λ_ _ _ _=>kM (λ_=>kM (λ_=>kN (λ_=>kM (λ_=>hk _ ?_) λ_=>hk _ ?_) λ_=>hk _ ?_) λ_=>kN (λ_=>kM (λ_=>hk _ ?_) λ_=>hk _ ?_) λ_=>hk _ ?_) λ_=>kN (λ_=>kM (λ_=>hk _ ?_) λ_=>hk _ ?_) λ_=>hk _ ?_
 all_goals omega
theorem zHwa {f0:Tl} {f2:Tm} {k_ret:Tm→Int→Int→Option R} {k_exit_0:Tl→Tm→Tl→Int→Option R}:∀ {n:Nat} {f5:Tl} {f6 f7:Int},(1≤f0.length)→(f0.length≤1000000000)→(f0.getD 0 0=0∨f0.getD 0 0=1)→(0≤f6)→(f6≤f0.length)→(0≤f7)→(f7≤2)→(3-f7).toNat<n→(∀(w0:Tm) (w1 w2:Int),(w1=0)→Φ (k_ret w0 w1 w2))→(∀(w2:Tl) (w3:Int),(0≤w3)→(w3≤f0.length)→Φ (k_exit_0 f0 f2 w2 w3))→Φ (loopN (zbla k_ret k_exit_0) n ⟨f0,f2,f5,f6,f7⟩):=by
 intro n; induction n; intros; omega; rename_i n ih; intro f5 f6 f7 i0 i1 i2 i3 i4 i5 i6 hm q0 q1;have g:f0.getD (0:Int).toNat 0=f0.getD 0 0:=rfl;rw[zaaa];unfold zbla
 try dsimp only
 refine kP ?_ λ_=>kL (λ_=>kQ ?_ λ_=>zEja ?_ ?_ λ_ _ _ _ _ _ _=>kN (λ_=>q0 _ _ _ ?_) λ_=>kP ?_ λ_=>ih ?_ ?_ ?_ ?_ ?_ ?_ ?_ ?_ q0 q1) λ_=>q1 _ _ ?_ ?_
 all_goals first|with_reducible assumption|omega|with_reducible exact (zuaa _).1|with_reducible exact (zuaa _).2|rfl|(simp (disch:=omega) only[kA,kB,kC,kD,kE,kF,kG,kH,kI,kJ,kK]<;>omega)|((iterate 2 (try simp (disch:=omega) only[kA,kB,kC,kD,kE,kF,kG,kH,kI,kJ,kK]at *))<;>omega)
theorem zgEa {a0:Tl} {K:Tm→Int→Int→Option R} (p0:a0.length≤1000000000) (hk:∀(r0:Tm) (r1 r2:Int),(0≤r1)→(r1≤a0.length)→Φ (K r0 r1 r2)):Φ (zJoa a0 K):=by
 have g:a0.getD (0:Int).toNat 0=a0.getD 0 0:=rfl;unfold zJoa
 try dsimp only
 try simp only[zKaa]
 refine kL (λ_=>hk _ _ _ ?_ ?_) λ_=>kP ?_ λ_=>kN (λ_=>kP ?_ λ_=>kN (λ_=>hk _ _ _ ?_ ?_) λ_=>zHwa ?_ ?_ ?_ ?_ ?_ ?_ ?_ (zdaa ?_) (λ_ _ _ _=>hk _ _ _ ?_ ?_) (λ_ _ _ _=>kP ?_ λ_=>kP ?_ λ_=>kP ?_ λ_=>hk _ _ _ ?_ ?_)) λ_=>zHwa ?_ ?_ ?_ ?_ ?_ ?_ ?_ (zdaa ?_) (λ_ _ _ _=>hk _ _ _ ?_ ?_) (λ_ _ _ _=>kP ?_ λ_=>kP ?_ λ_=>kP ?_ λ_=>hk _ _ _ ?_ ?_)
 all_goals omega
theorem zdea {a0:Tc} {K:Tm→Tc→Option R} (p0:Cu a0) (hk:∀(r0:Tm) (r1:Tc),(Cu r1)→Φ (K r0 r1)):Φ (zUaa a0 K):=by
 unfold zUaa zNaa zOaa
 try dsimp only
 refine kN (λ_=>hk _ _ ?_) λ_=>kN (λ_=>zgEa ?_ λ_ _ _ _ _=>kM (λ_=>hk _ _ ?_) λ_=>hk _ _ ?_) λ_=>kQ ?_ λ_=>zgEa ?_ λ_ _ _ _ _=>kM (λ_=>hk _ _ ?_) λ_=>hk _ _ ?_
 all_goals first|with_reducible assumption|omega|with_reducible exact (zuaa _).1|with_reducible exact (zuaa _).2|rfl|(simp (disch:=omega) only[Cu,Rw,RwP,RwS,kA,kB,kC,kD,kE,kF,kG,kH,kI,kJ,kK]<;>omega)|((iterate 2 (try simp (disch:=omega) only[Cu,Rw,RwP,RwS,kA,kB,kC,kD,kE,kF,kG,kH,kI,kJ,kK]at *))<;>omega)
theorem zEia {a0:Tc} {K:Int→Tc→Option R} (p0:Cu a0) (hk:∀(r0:Int) (r1:Tc),(Cu r1)→(r1.2.2.1=0→a0.2.2.1=0)→Φ (K r0 r1)):Φ (zoca a0 K):=by
 unfold zoca zbaa
 try dsimp only
 refine zKba ?_ λ_ _ _ _=>kN (λ_=>hk _ _ ?_ ?_) λ_=>zYFa λ_ _=>kM (λ_=>hk _ _ ?_ ?_) λ_=>hk _ _ ?_ ?_
 all_goals omega
theorem zusa {f9:Tp} {fc:Tc} {fm:It21} {k_normal:Tp→Tc→It21→Option R} (p0:Cu fc) (q0:(∀(w0:Tp) (w1:Tc),(Cu w1)→Φ (k_normal w0 w1 fm))):Φ (zQca k_normal ⟨f9,fc,fm⟩):=by
 unfold zQca
 try dsimp only
 refine kM (λ_=>zvaa ?_ λ_ _ _ _ _=>q0 _ _ ?_) λ_=>kM (λ_=>zDda ?_ λ_ _=>zdea ?_ λ_ _ _=>q0 _ _ ?_) λ_=>kM (λ_=>zdea ?_ λ_ _ _=>q0 _ _ ?_) λ_=>kM (λ_=>zEia ?_ λ_ _ _ _=>zdda ?_ λ_ _ _=>q0 _ _ ?_) λ_=>q0 _ _ ?_
 all_goals omega
theorem zVfa {a0:Tc} {K:Tj→Tc→Option R} (p0:Cu a0) (hk:∀(r0:Tj) (r1:Tc),(Cu r1)→Φ (K r0 r1)):Φ (zXba a0 K):=by
 unfold zXba zNaa zOaa
 try dsimp only
 refine kN (λ_=>hk _ _ ?_) λ_=>kN (λ_=>zLCa ?_ λ_ _ _ _ _=>kM (λ_=>hk _ _ ?_) λ_=>hk _ _ ?_) λ_=>kQ ?_ λ_=>zLCa ?_ λ_ _ _ _ _=>kM (λ_=>hk _ _ ?_) λ_=>hk _ _ ?_
 all_goals first|with_reducible assumption|omega|with_reducible exact (zuaa _).1|with_reducible exact (zuaa _).2|rfl|(simp (disch:=omega) only[Cu,Rw,RwP,RwS,kA,kB,kC,kD,kE,kF,kG,kH,kI,kJ,kK]<;>omega)|((iterate 2 (try simp (disch:=omega) only[Cu,Rw,RwP,RwS,kA,kB,kC,kD,kE,kF,kG,kH,kI,kJ,kK]at *))<;>omega)
theorem zcxa {f2 f3:Te} {f4:Int} {fc:Tc} {k_normal:Te→Te→Int→Tc→Option R} (p0:Cu fc) (q0:(∀(w1:Te) (w3:Tc),(w1.2.2.1.length=f3.2.2.1.length)→(Cu w3)→Φ (k_normal f2 w1 f4 w3))):Φ (zTda k_normal ⟨f2,f3,f4,fc⟩):=by
 unfold zTda zbaa
 try dsimp only
 refine kS rfl<|kM (λ_=>q0 _ _ ?_ ?_) λ_=>kM (λ_=>q0 _ _ ?_ ?_) λ_=>kM (λ_=>zvaa ?_ λ_ _ _ _ _=>kN (λ_=>kM (λ_=>q0 _ _ ?_ ?_) λ_=>q0 _ _ ?_ ?_) λ_=>q0 _ _ ?_ ?_) λ_=>q0 _ _ ?_ ?_
 all_goals first|omega|assumption|(simp (disch:=omega) only[kA,kB,kC,kD,kE,kF,kG,kH,kI,kJ,kK]<;>omega)
theorem zbxa {f2 f3:Te} {f4:Int} {fc:Tc} {k_normal:Te→Te→Int→Tc→Option R} (p0:Cu fc) (q0:(∀(w1:Te) (w3:Tc),(w1.2.2.1.length=f3.2.2.1.length)→(Cu w3)→Φ (k_normal f2 w1 f4 w3))):Φ (zSda k_normal ⟨f2,f3,f4,fc⟩):=by
 unfold zSda
 try dsimp only
 refine kS rfl<|kM (λ_=>zVfa ?_ λ_ _ _=>q0 _ _ ?_ ?_) λ_=>q0 _ _ ?_ ?_
 all_goals first|omega|assumption|(simp (disch:=omega) only[kA,kB,kC,kD,kE,kF,kG,kH,kI,kJ,kK]<;>omega)
theorem zaxa {f2 f3:Te} {f4:Int} {fc:Tc} {k_normal:Te→Te→Int→Tc→Option R} (p0:Cu fc) (q0:(∀(w3:Tc),(Cu w3)→Φ (k_normal f2 f3 f4 w3))):Φ (zRda k_normal ⟨f2,f3,f4,fc⟩):=by
 unfold zRda
 try dsimp only
 refine kL (λ_=>zDda ?_ λ_ _=>q0 _ ?_) λ_=>q0 _ ?_
 all_goals omega
theorem zZwa {f2 f3:Te} {f4:Int} {fc:Tc} {k_normal:Te→Te→Int→Tc→Option R} (p0:Cu fc) (q0:(∀(w3:Tc),(Cu w3)→Φ (k_normal f2 f3 f4 w3))):Φ (zQda k_normal ⟨f2,f3,f4,fc⟩):=by
 unfold zQda
 try dsimp only
 refine kL (λ_=>kL (λ_=>zdda ?_ λ_ _ _=>q0 _ ?_) λ_=>q0 _ ?_) λ_=>q0 _ ?_
 all_goals omega
theorem zdEa {a0:Tc} {K:Int→Tc→Option R} (p0:Cu a0) (hk:∀(r0:Int) (r1:Tc),(0≤r0)→(r0≤64)→(Cu r1)→Φ (K r0 r1)):Φ (zcga a0 K):=by
 unfold zcga zbaa
 try dsimp only
 refine zvaa ?_ λ_ _ _ _ _=>kL (λ_=>kM (λ_=>kN (λ_=>hk _ _ ?_ ?_ ?_) λ_=>hk _ _ ?_ ?_ ?_) λ_=>kN (λ_=>hk _ _ ?_ ?_ ?_) λ_=>hk _ _ ?_ ?_ ?_) λ_=>kN (λ_=>hk _ _ ?_ ?_ ?_) λ_=>hk _ _ ?_ ?_ ?_
 all_goals omega
theorem zH3a {f2 f3:Te} {f4 f5:Int} {fc:Tc} {k_exit_2:Te→Te→Int→Int→Tc→Option R} {k_normal:Te→Te→Int→Int→Tc→Option R} (p0:Cu fc) (p1:f3.2.2.1.length≤1000) (q0:(∀(w1:Te) (w4:Tc),(w1.2.2.1.length=f3.2.2.1.length+1)→(Cu w4)→Φ (k_exit_2 f2 w1 f4 f5 w4))) (q1:(Φ (k_normal f2 f3 f4 f5 fc))):Φ (zcha k_exit_2 k_normal ⟨f2,f3,f4,f5,fc⟩):=by
 unfold zcha
 try dsimp only
 try simp only[zKaa]
 refine kL (λ_=>zvaa ?_ λ_ _ _ _ _=>kY ?_<|q0 _ _ ?_ ?_) λ_=>q1
 all_goals first|omega|assumption|(simp (disch:=omega) only[kA,kB,kC,kD,kE,kF,kG,kH,kI,kJ,kK]<;>omega)
theorem zexa {f2:Te} {f4:Int} {k_exit_1:Te→Te→Tc→Option R}:∀ {n:Nat} {f3:Te} {f5:Int} {fc:Tc},(Cu fc)→(0≤f5)→((f3.2.2.1.length:Int)+f5≤64)→f5.toNat<n→(∀(w1:Te) (w2:Tc),(Cu w2)→Φ (k_exit_1 f2 w1 w2))→Φ (loopN (zWda k_exit_1) n ⟨f2,f3,f4,f5,fc⟩):=by
 intro n; induction n; intros; omega; rename_i n ih; intro f3 f5 fc i0 i1 i2 hm q0;rw[zaaa];unfold zWda zdha zeha zbha zaha zbaa
 try dsimp only
 refine kL (λ_=>kM (λ_=>zH3a ?_ ?_ (λ_ _ _ _=>ih ?_ ?_ ?_ ?_ q0) (zKba ?_ λ_ _ _ _=>kM (λ_=>zvaa ?_ λ_ _ _ _ _=>zKba ?_ λ_ _ _ _=>kN (λ_=>kM (λ_=>kY ?_<|ih ?_ ?_ ?_ ?_ q0) λ_=>kY ?_<|ih ?_ ?_ ?_ ?_ q0) λ_=>kY ?_<|ih ?_ ?_ ?_ ?_ q0) λ_=>kM (λ_=>zDda ?_ λ_ _=>zKba ?_ λ_ _ _ _=>kN (λ_=>kM (λ_=>kY ?_<|ih ?_ ?_ ?_ ?_ q0) λ_=>kY ?_<|ih ?_ ?_ ?_ ?_ q0) λ_=>kY ?_<|ih ?_ ?_ ?_ ?_ q0) λ_=>kM (λ_=>zKba ?_ λ_ _ _ _=>kN (λ_=>kM (λ_=>kY ?_<|ih ?_ ?_ ?_ ?_ q0) λ_=>kY ?_<|ih ?_ ?_ ?_ ?_ q0) λ_=>kY ?_<|ih ?_ ?_ ?_ ?_ q0) λ_=>zKba ?_ λ_ _ _ _=>kN (λ_=>kM (λ_=>kY ?_<|ih ?_ ?_ ?_ ?_ q0) λ_=>kY ?_<|ih ?_ ?_ ?_ ?_ q0) λ_=>kY ?_<|ih ?_ ?_ ?_ ?_ q0)) λ_=>q0 _ _ ?_) λ_=>q0 _ _ ?_
 all_goals first|omega|assumption|(simp (disch:=omega) only[kA,kB,kC,kD,kE,kF,kG,kH,kI,kJ,kK]<;>omega)
theorem zeEa {a0:Tc} {K:Te→Tc→Option R} (p0:Cu a0) (hk:∀(r0:Te) (r1:Tc),(Cu r1)→Φ (K r0 r1)):Φ (zHda a0 K):=by
 unfold zHda zbaa
 try dsimp only
 refine zvaa ?_ λ_ _ _ _ _=>kL (λ_=>kM (λ_=>hk _ _ ?_) λ_=>hk _ _ ?_) λ_=>zcxa ?_ (λ_ _ _ _=>zbxa ?_ (λ_ _ _ _=>zaxa ?_ (λ_ _=>zZwa ?_ (λ_ _=>zdEa ?_ λ_ _ _ _ _=>zexa ?_ ?_ ?_ (zdaa ?_) (λ_ _ _=>hk _ _ ?_)))))
 all_goals first|with_reducible assumption|omega|with_reducible exact (zuaa _).1|with_reducible exact (zuaa _).2|rfl|(simp (disch:=omega) only[Cu,Rw,RwP,RwS,kA,kB,kC,kD,kE,kF,kG,kH,kI,kJ,kK]<;>omega)|((iterate 2 (try simp (disch:=omega) only[Cu,Rw,RwP,RwS,kA,kB,kC,kD,kE,kF,kG,kH,kI,kJ,kK]at *))<;>omega)
theorem ztsa {f12:Te} {f13:Int} {fc:Tc} {fm:It21} {k_normal:Te→Int→Tc→It21→Option R} (p0:Cu fc) (q0:(∀(w2:Tc),(Cu w2)→Φ (k_normal f12 f13 w2 fm))):Φ (zPca k_normal ⟨f12,f13,fc,fm⟩):=by
 unfold zPca zbaa
 try dsimp only
 refine kL (λ_=>kM (λ_=>q0 _ ?_) λ_=>q0 _ ?_) λ_=>q0 _ ?_
 all_goals omega
theorem zssa {f12:Te} {f13:Int} {fc:Tc} {fm:It21} {k_normal:Te→Int→Tc→It21→Option R} (p0:Cu fc) (q0:(∀(w2:Tc),(Cu w2)→Φ (k_normal f12 f13 w2 fm))):Φ (zOca k_normal ⟨f12,f13,fc,fm⟩):=by
 unfold zOca zbaa
 try dsimp only
 refine kM (λ_=>zvaa ?_ λ_ _ _ _ _=>kN (λ_=>kM (λ_=>q0 _ ?_) λ_=>q0 _ ?_) λ_=>q0 _ ?_) λ_=>q0 _ ?_
 all_goals omega
theorem zrsa {f12:Te} {f13:Int} {fc:Tc} {fm:It21} {k_normal:Te→Tc→It21→Option R} (p0:Cu fc) (q0:(∀(w0:Te) (w1:Tc),(Cu w1)→Φ (k_normal w0 w1 fm))):Φ (zNca k_normal ⟨f12,f13,fc,fm⟩):=by
 unfold zNca
 try dsimp only
 refine kM (λ_=>q0 _ _ ?_) λ_=>zVfa ?_ λ_ _ _=>q0 _ _ ?_
 all_goals omega
theorem zdxa {f3:Int} {fc:Tc} {k_normal:Int→Tc→Option R} (p0:Cu fc) (q0:(∀(w1:Tc),(Cu w1)→(w1.2.2.1=0→f3+w1.2.1≤w1.1.length)→Φ (k_normal f3 w1))):Φ (zUda k_normal ⟨f3,fc⟩):=by
 unfold zUda zbaa
 try dsimp only
 refine kM (λ_=>kL (λ_=>kM (λ_=>q0 _ ?_ ?_) λ_=>q0 _ ?_ ?_) λ_=>q0 _ ?_ ?_) λ_=>q0 _ ?_ ?_
 all_goals first|with_reducible assumption|omega|with_reducible exact (zuaa _).1|with_reducible exact (zuaa _).2|rfl|(simp (disch:=omega) only[Cu,Rw,RwP,RwS,kA,kB,kC,kD,kE,kF,kG,kH,kI,kJ,kK]<;>omega)|((iterate 2 (try simp (disch:=omega) only[Cu,Rw,RwP,RwS,kA,kB,kC,kD,kE,kF,kG,kH,kI,kJ,kK]at *))<;>omega)
theorem zupa {a0:Tc} {K:Tl→Tc→Option R} (p0:Cu a0) (hk:∀(r0:Tl) (r1:Tc),(r0.length≤1000000)→(Cu r1)→Φ (K r0 r1)):Φ (zgda a0 K):=by
 unfold zgda zfha
 try dsimp only
 try simp only[zKaa]
 refine zvaa ?_ λ_ _ _ _ _=>zdxa ?_ (λ_ _ _=>kN (λ_=>hk _ _ ?_ ?_) λ_=>kQ ?_ λ_=>zoKa ?_ λ_ _=>hk _ _ ?_ ?_)
 all_goals first|with_reducible assumption|omega|with_reducible exact (zuaa _).1|with_reducible exact (zuaa _).2|rfl|(simp (disch:=omega) only[Cu,Rw,RwP,RwS,kA,kB,kC,kD,kE,kF,kG,kH,kI,kJ,kK]<;>omega)|((iterate 2 (try simp (disch:=omega) only[Cu,Rw,RwP,RwS,kA,kB,kC,kD,kE,kF,kG,kH,kI,kJ,kK]at *))<;>omega)
theorem zCxa {a0:Tc} {a1:Int} {a2:It21} {K:Tc→It21→Option R} (p0:Cu a0) (p1:Rw a2 (100000000)) (p2:LocOk a2.2.2.1) (hk:∀(r0:Tc) (r1:It21),(Cu r0)→(RwS r1 a2)→(LocOk r1.2.2.1)→Φ (K r0 r1)):Φ (zGda a0 a1 a2 K):=by
 unfold zGda zNaa zOaa
 try dsimp only
 try simp only[zKaa]
 refine kM (λ_=>kM (λ_=>kN (λ_=>zkKa ?_ λ_ _ _ _ _=>kM (λ_=>kY ?_<|hk _ _ ?_ ?_ ?_) λ_=>kY ?_<|hk _ _ ?_ ?_ ?_) λ_=>kQ ?_ λ_=>zkKa ?_ λ_ _ _ _ _=>kM (λ_=>kY ?_<|hk _ _ ?_ ?_ ?_) λ_=>kY ?_<|hk _ _ ?_ ?_ ?_) λ_=>hk _ _ ?_ ?_ ?_) λ_=>kM (λ_=>zzja ?_ λ_ _ _=>zzja ?_ λ_ _ _=>zdda ?_ λ_ _ _=>zusa ?_ (λ_ _ _=>kY ?_<|hk _ _ ?_ ?_ ?_)) λ_=>kM (λ_=>zvaa ?_ λ_ _ _ _ _=>kY ?_<|hk _ _ ?_ ?_ ?_) λ_=>kM (λ_=>zDda ?_ λ_ _=>zdea ?_ λ_ _ _=>kY ?_<|hk _ _ ?_ ?_ ?_) λ_=>kM (λ_=>zdea ?_ λ_ _ _=>kY ?_<|hk _ _ ?_ ?_ ?_) λ_=>kM (λ_=>zEia ?_ λ_ _ _ _=>zdda ?_ λ_ _ _=>zVfa ?_ λ_ _ _=>kY ?_<|hk _ _ ?_ ?_ ?_) λ_=>kM (λ_=>zzja ?_ λ_ _ _=>zdda ?_ λ_ _ _=>zvaa ?_ λ_ _ _ _ _=>kY ?_<|hk _ _ ?_ ?_ ?_) λ_=>kM (λ_=>zeEa ?_ λ_ _ _=>kY ?_<|hk _ _ ?_ ?_ ?_) λ_=>kM (λ_=>zvaa ?_ λ_ _ _ _ _=>ztsa ?_ (λ_ _=>zssa ?_ (λ_ _=>zrsa ?_ (λ_ _ _=>zupa ?_ λ_ _ _ _=>kY ?_<|hk _ _ ?_ ?_ ?_)))) λ_=>hk _ _ ?_ ?_ ?_
 all_goals first|with_reducible assumption|omega|with_reducible exact (zuaa _).1|with_reducible exact (zuaa _).2|rfl|(simp (disch:=omega) only[Cu,Rw,RwP,RwS,kA,kB,kC,kD,kE,kF,kG,kH,kI,kJ,kK]<;>omega)|((iterate 2 (try simp (disch:=omega) only[Cu,Rw,RwP,RwS,kA,kB,kC,kD,kE,kF,kG,kH,kI,kJ,kK]at *))<;>omega)|with_reducible exact zv2a (by assumption) (Nat.zero_le _)
end Go.Trm.G1
namespace Go.Trm.G1
variable {R:Type} {Φ:Option R→Prop}
theorem ziEa {f1:Tl} {f7:Tc} {fm:It21} {k_normal:Tl→Tc→It21→Option R} (p0:Cu f7) (q0:(∀(w1:Tc),(Cu w1)→Φ (k_normal f1 w1 fm))):Φ (zAha k_normal ⟨f1,f7,fm⟩):=by
 unfold zAha zbaa
 try dsimp only
 try simp only[zKaa]
 refine zvaa ?_ λ_ _ _ _ _=>kN (λ_=>kM (λ_=>q0 _ ?_) λ_=>q0 _ ?_) λ_=>q0 _ ?_
 all_goals omega
theorem zPCa {f1:Tl} {f7:Tc} {f8 fk:Int} {f134:Tl} {f135:Tc} {f136 f137:Int} {fm:It21} {k_normal:Tl→Tc→Int→Int→Tl→Tc→Int→Int→It21→Option R} (p0:Cu f135) (p1:(fm.2.2.1.getD fk.toNat (0,[],[],())).2.1.length≤64) (q0:(∀(w5:Tc),(Cu w5)→(w5.2.2.1=0→f137+(fm.2.2.1.getD fk.toNat (0,[],[],())).2.1.length≤64)→Φ (k_normal f1 f7 f8 fk f134 w5 f136 f137 fm))):Φ (zrga k_normal ⟨f1,f7,f8,fk,f134,f135,f136,f137,fm⟩):=by
 unfold zrga zbaa
 try dsimp only
 refine kL (λ_=>kM (λ_=>q0 _ ?_ ?_) λ_=>q0 _ ?_ ?_) λ_=>q0 _ ?_ ?_
 all_goals first|with_reducible assumption|omega|with_reducible exact (zuaa _).1|with_reducible exact (zuaa _).2|rfl|(simp (disch:=omega) only[Cu,Rw,RwP,RwS,kA,kB,kC,kD,kE,kF,kG,kH,kI,kJ,kK]<;>omega)|((iterate 2 (try simp (disch:=omega) only[Cu,Rw,RwP,RwS,kA,kB,kC,kD,kE,kF,kG,kH,kI,kJ,kK]at *))<;>omega)
theorem zmAa {N L:Nat} {f1:Tl} {f7:Tc} {f8 fk:Int} {f134:Tl} {f135:Tc} {f136 f138:Int} {k_exit_2:Tl→Tc→Int→Int→Tl→Tc→Int→It21→Option R}:∀ {n:Nat} {f137:Int} {fm:It21},(Rw fm (N))→(fm.2.2.1.length=L)→(LocOk fm.2.2.1)→(0≤fk)→(fk<L)→(f137≤200000000000)→(f135.2.2.1=0→f137+(fm.2.2.1.getD fk.toNat (0,[],[],())).2.1.length≤64)→f137.toNat<n→(∀(w7:It21),(Rw w7 (N))→(w7.2.2.1.length=L)→(LocOk w7.2.2.1)→Φ (k_exit_2 f1 f7 f8 fk f134 f135 f136 w7))→Φ (loopN (zhfa k_exit_2) n ⟨f1,f7,f8,fk,f134,f135,f136,f137,f138,fm⟩):=by
 intro n; induction n; intros; omega; rename_i n ih; intro f137 fm i0 i1 i2 i3 i4 i5 i6 hm q0;have g:=zQVa i2 fk.toNat;rw[zaaa];unfold zhfa zZia
 try dsimp only
 refine kL (λ_=>kM (λ_=>kS ?_<|kY ?_<|ih ?_ ?_ ?_ ?_ ?_ ?_ ?_ ?_ q0) λ_=>q0 _ ?_ ?_ ?_) λ_=>q0 _ ?_ ?_ ?_
 all_goals first|with_reducible assumption|omega|with_reducible exact (zuaa _).1|with_reducible exact (zuaa _).2|rfl|(simp (disch:=omega) only[Cu,Rw,RwP,RwS,kA,kB,kC,kD,kE,kF,kG,kH,kI,kJ,kK]<;>omega)|((iterate 2 (try simp (disch:=omega) only[Cu,Rw,RwP,RwS,kA,kB,kC,kD,kE,kF,kG,kH,kI,kJ,kK]at *))<;>omega)|with_reducible exact zSZa (by assumption) (by simp only[List.length_append,List.length_set,List.length_replicate]; omega)|(simp (disch:=omega) only[zjca,w_i64,List.length_append,List.length_set,List.length_replicate]; omega)|exact Bool.and_eq_true_iff.2 ⟨beq_self_eq_true _,rfl⟩
theorem zRCa {N L:Nat} {f1:Tl} {f7:Tc} {f8 fk:Int} {f134:Tl} {k_exit_0:Tl→Tc→Int→Int→Tl→Tc→It21→Option R}:∀ {n:Nat} {f135:Tc} {f136:Int} {fm:It21},(Cu f135)→(Rw fm (N))→(fm.2.2.1.length=L)→(LocOk fm.2.2.1)→(0≤fk)→(fk<L)→(0≤f136)→(f136≤200000000000)→f136.toNat<n→(∀(w5:Tc) (w6:It21),(Cu w5)→(Rw w6 (N))→(w6.2.2.1.length=L)→(LocOk w6.2.2.1)→Φ (k_exit_0 f1 f7 f8 fk f134 w5 w6))→Φ (loopN (zuga k_exit_0) n ⟨f1,f7,f8,fk,f134,f135,f136,fm⟩):=by
 intro n; induction n; intros; omega; rename_i n ih; intro f135 f136 fm i0 i1 i2 i3 i4 i5 i6 i7 hm q0;have g:=zQVa i3 fk.toNat;rw[zaaa];unfold zuga zCka zDka
 try dsimp only
 refine kL (λ_=>kM (λ_=>zvaa ?_ λ_ _ _ _ _=>zPCa ?_ ?_ (λ_ _ _=>zEia ?_ λ_ _ _ _=>zmAa (N:=N) (L:=L) ?_ ?_ ?_ ?_ ?_ ?_ ?_ (zdaa ?_) (λ_ _ _ _=>ih ?_ ?_ ?_ ?_ ?_ ?_ ?_ ?_ ?_ q0))) λ_=>q0 _ _ ?_ ?_ ?_ ?_) λ_=>q0 _ _ ?_ ?_ ?_ ?_
 all_goals first|omega|assumption|(simp (disch:=omega) only[kA,kB,kC,kD,kE,kF,kG,kH,kI,kJ,kK]<;>omega)
theorem zhAa {f1:Tl} {f7:Tc} {f8:Int} {f134:Tl} {f135:Tc} {fm:It21} {k_normal:Tl→Tc→Int→Tc→It21→Option R} (q0:(∀(w3:Tc),Φ (k_normal f1 f7 f8 w3 fm))):Φ (zYea k_normal ⟨f1,f7,f8,f134,f135,fm⟩):=by
 unfold zYea zbaa
 try dsimp only
 exact kM (λ_=>kL (λ_=>kM (λ_=>q0 _) λ_=>q0 _) λ_=>q0 _) λ_=>q0 _
theorem zjEa {N L:Nat} {f1:Tl} {k_exit_3:Tl→Tc→It21→Option R}:∀ {n:Nat} {f7:Tc} {f8:Int} {fm:It21},(Cu f7)→(Rw fm (N))→(fm.2.2.1.length=L)→(LocOk fm.2.2.1)→(0≤f8)→(L≤100000000)→((L:Int)-f8).toNat<n→(∀(w1:Tc) (w2:It21),(Cu w1)→(Rw w2 (N))→(w2.2.2.1.length=L)→(LocOk w2.2.2.1)→Φ (k_exit_3 f1 w1 w2))→Φ (loopN (zBha k_exit_3) n ⟨f1,f7,f8,fm⟩):=by
 intro n; induction n; intros; omega; rename_i n ih; intro f7 f8 fm i0 i1 i2 i3 i4 i5 hm q0;have g:=zQVa i3 f8.toNat;rw[zaaa];unfold zBha zcma zbaa
 try dsimp only
 refine kL (λ_=>kM (λ_=>kP ?_ λ_=>zupa ?_ λ_ _ _ _=>kN (λ_=>ih ?_ ?_ ?_ ?_ ?_ ?_ ?_ q0) λ_=>zvaa ?_ λ_ _ _ _ _=>zRCa (N:=N) (L:=L) ?_ ?_ ?_ ?_ ?_ ?_ ?_ ?_ (zdaa ?_) (λ_ _ _ _ _ _=>zVfa ?_ λ_ _ _=>zhAa (λ_=>kM (λ_=>ih ?_ ?_ ?_ ?_ ?_ ?_ ?_ q0) λ_=>ih ?_ ?_ ?_ ?_ ?_ ?_ ?_ q0))) λ_=>q0 _ _ ?_ ?_ ?_ ?_) λ_=>q0 _ _ ?_ ?_ ?_ ?_
 all_goals first|with_reducible assumption|omega|with_reducible exact (zuaa _).1|with_reducible exact (zuaa _).2|rfl|(simp (disch:=omega) only[Cu,Rw,RwP,RwS,kA,kB,kC,kD,kE,kF,kG,kH,kI,kJ,kK]<;>omega)|((iterate 2 (try simp (disch:=omega) only[Cu,Rw,RwP,RwS,kA,kB,kC,kD,kE,kF,kG,kH,kI,kJ,kK]at *))<;>omega)|with_reducible exact zSZa (by assumption) (zQVa (by assumption) _)
theorem zbGa {f0:Int} {f1:Tl} {f7:Tc} {f9:Int} {fm:It21} {k_normal:Int→Tl→Tc→Int→It21→Option R} (p0:Cu f7) (q0:(∀(w2:Tc),(Cu w2)→Φ (k_normal f0 f1 w2 f9 fm))):Φ (zBia k_normal ⟨f0,f1,f7,f9,fm⟩):=by
 unfold zBia zbaa
 try dsimp only
 refine kM (λ_=>kM (λ_=>kP ?_ λ_=>kN (λ_=>kM (λ_=>q0 _ ?_) λ_=>q0 _ ?_) λ_=>q0 _ ?_) λ_=>q0 _ ?_) λ_=>q0 _ ?_
 all_goals omega
theorem zaGa {f0:Int} {f1:Tl} {f7:Tc} {f9:Int} {fm:It21} {k_normal:Int→Tl→Tc→Int→It21→Option R} (p0:Cu f7) (q0:(∀(w2:Tc),(Cu w2)→(w2.2.2.1=0→f9≤64)→Φ (k_normal f0 f1 w2 f9 fm))):Φ (zAia k_normal ⟨f0,f1,f7,f9,fm⟩):=by
 unfold zAia zbaa
 try dsimp only
 refine kL (λ_=>kM (λ_=>q0 _ ?_ ?_) λ_=>q0 _ ?_ ?_) λ_=>q0 _ ?_ ?_
 all_goals first|omega|assumption|(simp (disch:=omega) only[kA,kB,kC,kD,kE,kF,kG,kH,kI,kJ,kK]<;>omega)
theorem zcGa {N:Nat} {f0:Int} {f1:Tl} {k_exit_1:Tl→Tc→It21→Option R}:∀ {n:Nat} {f7:Tc} {f9:Int} {fm:It21},(Cu f7)→(0≤f9)→(f9≤200000000000)→(N≤10000000)→(Rw fm (N+64))→(f7.2.2.1=0→RwP fm f9 (N+64))→(LocOk fm.2.2.1)→f9.toNat<n→(∀(w1:Tc) (w2:It21),(Rw w2 (N+64))→(LocOk w2.2.2.1)→(Cu w1)→Φ (k_exit_1 f1 w1 w2))→Φ (loopN (zCia k_exit_1) n ⟨f0,f1,f7,f9,fm⟩):=by
 intro n; induction n; intros; omega; rename_i n ih; intro f7 f9 fm i0 i1 i2 i3 i4 i5 i6 hm q0;rw[zaaa];unfold zCia zdma
 try dsimp only
 refine kL (λ_=>kM (λ_=>zCxa ?_ ?_ ?_ λ_ _ _ _ _=>ih ?_ ?_ ?_ ?_ ?_ ?_ ?_ ?_ q0) λ_=>q0 _ _ ?_ ?_ ?_) λ_=>q0 _ _ ?_ ?_ ?_
 all_goals first|omega|assumption|(simp (disch:=omega) only[kA,kB,kC,kD,kE,kF,kG,kH,kI,kJ,kK]<;>omega)
theorem zdNa {N:Nat} {a0:Int} {a1:Tl} {a2:It21} {K:Int→It21→Option R} (p0:a1.length≤1000000) (p1:Rw a2 (N)) (p2:N≤10000000) (p3:LocOk a2.2.2.1) (hk:∀(r0:Int) (r1:It21),(Rw r1 (N+64))→(LocOk r1.2.2.1)→Φ (K r0 r1)):Φ (zlma a0 a1 a2 K):=by
 unfold zlma zbma zama zbaa
 try dsimp only
 refine kM (λ_=>zvaa ?_ λ_ _ _ _ _=>kM (λ_=>kL (λ_=>kM (λ_=>hk _ _ ?_ ?_) λ_=>hk _ _ ?_ ?_) λ_=>hk _ _ ?_ ?_) λ_=>hk _ _ ?_ ?_) λ_=>kM (λ_=>zvaa ?_ λ_ _ _ _ _=>kM (λ_=>kL (λ_=>kM (λ_=>hk _ _ ?_ ?_) λ_=>hk _ _ ?_ ?_) λ_=>hk _ _ ?_ ?_) λ_=>hk _ _ ?_ ?_) λ_=>kM (λ_=>ziEa ?_ (λ_ _=>zjEa (N:=N) (L:=a2.2.2.1.length) ?_ ?_ ?_ ?_ ?_ ?_ (zdaa ?_) (λ_ _ _ _ _ _=>kM (λ_=>kL (λ_=>kM (λ_=>hk _ _ ?_ ?_) λ_=>hk _ _ ?_ ?_) λ_=>hk _ _ ?_ ?_) λ_=>hk _ _ ?_ ?_))) λ_=>zvaa ?_ λ_ _ _ _ _=>zbGa ?_ (λ_ _=>zaGa ?_ (λ_ _ _=>zcGa (N:=N) ?_ ?_ ?_ ?_ ?_ ?_ ?_ (zdaa ?_) (λ_ _ _ _ _=>kM (λ_=>kL (λ_=>kM (λ_=>hk _ _ ?_ ?_) λ_=>hk _ _ ?_ ?_) λ_=>hk _ _ ?_ ?_) λ_=>hk _ _ ?_ ?_)))
 all_goals first|with_reducible assumption|omega|with_reducible exact (zuaa _).1|with_reducible exact (zuaa _).2|rfl|(simp (disch:=omega) only[Cu,Rw,RwP,RwS,kA,kB,kC,kD,kE,kF,kG,kH,kI,kJ,kK]<;>omega)|((iterate 2 (try simp (disch:=omega) only[Cu,Rw,RwP,RwS,kA,kB,kC,kD,kE,kF,kG,kH,kI,kJ,kK]at *))<;>omega)
theorem zO3a {f2:It21} {f4:List Ts} {f5:Int} {f6:It21} {f7:List Bool} {f8:Int} {k_normal:It21→List Ts→Int→It21→List Bool→Int→Int→Option R} (p0:0≤f8∧f8<f4.length) (p1:∀y∈f4,SpOk y) (p2:f8≤65536) (p3:Rw f6 (64*f8)) (p4:LocOk f6.2.2.1) (q0:(∀(w3:It21) (w6:Int),(Rw w3 (64*f8+64))→(LocOk w3.2.2.1)→Φ (k_normal f2 f4 f5 w3 f7 f8 w6))):Φ (zKna k_normal ⟨f2,f4,f5,f6,f7,f8⟩):=by
 have ⟨g,g2⟩:=spget p1 f8.toNat;unfold zKna
 try dsimp only
 try simp only[zKaa]
 refine kP ?_ λ_=>kP ?_ λ_=>zdNa (N:=(64*f8).toNat) ?_ ?_ ?_ ?_ λ_ _ _ _=>q0 _ _ ?_ ?_
 all_goals omega
theorem zGIa {f2:It21} {f4:List Ts} {f5:Int} {k_ret:It21→Int→Option R} {k_exit_0:It21→Int→It21→List Bool→Option R}:∀ {n:Nat} {f6:It21} {f7:List Bool} {f8:Int},(0≤f8)→(f4.length≤1000000000)→(f8≤f4.length)→(∀y∈f4,SpOk y)→(f4.length≤65536)→(f7.length=13)→(Rw f6 (64*f8))→(LocOk f6.2.2.1)→((f4.length:Int)-f8).toNat<n→(∀(w0:It21) (w1:Int),Φ (k_ret w0 w1))→(∀(w2:It21) (w3:List Bool),(w3.length=13)→Φ (k_exit_0 f2 f5 w2 w3))→Φ (loopN (zVka k_ret k_exit_0) n ⟨f2,f4,f5,f6,f7,f8⟩):=by
 intro n; induction n; intros; omega; rename_i n ih; intro f6 f7 f8 i0 i1 i2 i3 i4 i5 i6 i7 hm q0 q1;have ⟨g,g2⟩:=spget i3 f8.toNat;rw[zaaa];unfold zVka zdra
 try dsimp only
 refine kL (λ_=>kP ?_ λ_=>kP ?_ λ_=>kP ?_ λ_=>kM (λ_=>kP ?_ λ_=>zjPa ?_ λ_ _ _=>kN (λ_=>q0 _ _) λ_=>kY ?_<|ih ?_ ?_ ?_ ?_ ?_ ?_ ?_ ?_ ?_ q0 q1) λ_=>zO3a ?_ ?_ ?_ ?_ ?_ (λ_ _ _ _=>kN (λ_=>q0 _ _) λ_=>ih ?_ ?_ ?_ ?_ ?_ ?_ ?_ ?_ ?_ q0 q1)) λ_=>q1 _ _ ?_
 all_goals first|with_reducible assumption|omega|with_reducible exact (zuaa _).1|with_reducible exact (zuaa _).2|rfl|(simp (disch:=omega) only[Cu,Rw,RwP,RwS,kA,kB,kC,kD,kE,kF,kG,kH,kI,kJ,kK]<;>omega)|((iterate 2 (try simp (disch:=omega) only[Cu,Rw,RwP,RwS,kA,kB,kC,kD,kE,kF,kG,kH,kI,kJ,kK]at *))<;>omega)
theorem ziPa {a0:Tl} {K:It21→Int→Option R} (hk:∀(r0:It21) (r1:Int),Φ (K r0 r1)):Φ (zGoa a0 K):=by
 unfold zGoa zJna
 try dsimp only
 refine zwRa λ_ _ _ _=>zGIa ?_ ?_ ?_ ?_ ?_ ?_ ?_ ?_ (zdaa ?_) (λ_ _=>hk _ _) (λ_ _ _=>kN (λ_=>hk _ _) λ_=>kL (λ_=>kP ?_ λ_=>kU (kO (λ_=>kL (λ_=>kP ?_ λ_=>kL (λ_=>kP ?_ λ_=>kU (kO (λ_=>hk _ _) λ_=>hk _ _)) λ_=>hk _ _) λ_=>hk _ _) λ_=>hk _ _)) λ_=>kL (λ_=>kP ?_ λ_=>kL (λ_=>kP ?_ λ_=>kU (kO (λ_=>hk _ _) λ_=>hk _ _)) λ_=>hk _ _) λ_=>hk _ _)
 all_goals first|with_reducible exact zu2a|with_reducible assumption|omega|with_reducible exact (zuaa _).1|with_reducible exact (zuaa _).2|rfl|(simp (disch:=omega) only[Cu,Rw,RwP,RwS,kA,kB,kC,kD,kE,kF,kG,kH,kI,kJ,kK]<;>omega)|((iterate 2 (try simp (disch:=omega) only[Cu,Rw,RwP,RwS,kA,kB,kC,kD,kE,kF,kG,kH,kI,kJ,kK]at *))<;>omega)
end Go.Trm.G1
namespace Go.Trm.G1
theorem zcva {α:Type} {P:α→Prop} {l:List α} {d:α} {i:Int} (h0:0≤i) (hb:i<9223372036854775807) (h:∀j:Nat,(j:Int)<i→P (l.getD j d)) (hp:P (l.getD i.toNat d)):∀j:Nat,(j:Int)<IntKind.i64.wrap (i+1)→P (l.getD j d):=by
 intro j hj;rw[w_i64 (by omega)]at hj;by_cases q:(j:Int)<i
 ·exact h j q
 ·have:i.toNat=j:=by omega
  rw[←this]; exact hp
theorem ztEa {α:Type} {P:α→Prop} {l:List α} {d:α} {i:Int} (h:∀j:Nat,(j:Int)<i→P (l.getD j d)) (hi:(l.length:Int)≤i):∀y∈l,P y:=by
 intro y hy;obtain ⟨j,hj,e⟩:=List.getElem_of_mem hy;have:=h j (by omega);rw[List.getD_eq_getElem?_getD,List.getElem?_eq_getElem hj,e]at this;exact this
theorem zQ0a (l:List InsT) (i:Int):(l.length:Int)≤i→lszT l i=lsz l:=by
 intro h;unfold lszT;rw[List.take_of_length_le (by omega)]
def Sz (l:List InsT):Prop:=l.length+lsz l≤3000
def FnS (y:Int×List Int×List InsT×Unit):Prop:=y.2.1.length≤3000∧Sz y.2.2.1
def GvS (y:Int×Bool×List InsT×Unit):Prop:=Sz y.2.2.1
def ElS (y:Int×List InsT×List Int×Unit):Prop:=Sz y.2.1∧y.2.2.1.length≤3000
structure RawOk (m:It21):Prop where
 rows:m.1.length≤9223372036854775807∧m.2.1.length≤9223372036854775807∧m.2.2.1.length≤9223372036854775807∧m.2.2.2.1.length≤9223372036854775807∧m.2.2.2.2.1.length≤9223372036854775807∧m.2.2.2.2.2.1.length≤9223372036854775807∧m.2.2.2.2.2.2.1.length≤9223372036854775807∧m.2.2.2.2.2.2.2.1.length≤9223372036854775807∧m.2.2.2.2.2.2.2.2.1.length≤9223372036854775807∧m.2.2.2.2.2.2.2.2.2.1.length≤9223372036854775807∧m.2.2.2.2.2.2.2.2.2.2.1.length≤9223372036854775807∧m.2.2.2.2.2.2.2.2.2.2.2.1.length≤9223372036854775807
 fn:∀y∈m.2.2.1,∀x∈y.2.2.1,InsOk x
 gl:∀y∈m.2.2.2.2.2.1,∀x∈y.2.2.1,InsOk x
 el:∀y∈m.2.2.2.2.2.2.2.2.1,∀x∈y.2.1,InsOk x
 da:∀y∈m.2.2.2.2.2.2.2.2.2.2.1,∀x∈y.2.1,InsOk x
theorem sm_of {m:It21} {w:Int} (hr:RawOk m) (h7:∀y∈List.set (List.set (List.set (List.set (List.set (List.set (List.set (List.set (List.set (List.set (List.set (List.set (List.replicate 12 (0:Int)) 0 (((List.length m.1:Nat):Int))) 1 (((List.length m.2.1:Nat):Int))) 2 (((List.length m.2.2.1:Nat):Int))) 3 (((List.length m.2.2.2.1:Nat):Int))) 4 (((List.length m.2.2.2.2.1:Nat):Int))) 5 (((List.length m.2.2.2.2.2.1:Nat):Int))) 6 (((List.length m.2.2.2.2.2.2.1:Nat):Int))) 7 (((List.length m.2.2.2.2.2.2.2.1:Nat):Int))) 8 (((List.length m.2.2.2.2.2.2.2.2.1:Nat):Int))) 9 (((List.length m.2.2.2.2.2.2.2.2.2.1:Nat):Int))) 10 (((List.length m.2.2.2.2.2.2.2.2.2.2.1:Nat):Int))) 11 (((List.length m.2.2.2.2.2.2.2.2.2.2.2.1:Nat):Int)),y≤70) (hq:0≤w→(((((((∀y∈m.1,TyOk y)∧∀y∈m.2.1,ImOk y)∧∀y∈m.2.2.1,FnS y)∧∀y∈m.2.2.2.2.2.1,GvS y)∧∀y∈m.2.2.2.2.2.2.1,ExOk y)∧∀y∈m.2.2.2.2.2.2.2.2.1,ElS y)∧∀y∈m.2.2.2.2.2.2.2.2.2.2.1,ElS y)∧∀y∈m.2.2.2.2.2.2.2.2.2.2.2.1,CuOk y) (hd:decide (w≥0)=true):SM m:=by
 obtain ⟨⟨⟨⟨⟨⟨⟨h1,h2⟩,h3⟩,h4⟩,h5⟩,h6⟩,h8⟩,h9⟩:=hq (of_decide_eq_true hd);have h7':∀y∈[(m.1.length:Int),(m.2.1.length:Int),(m.2.2.1.length:Int),(m.2.2.2.1.length:Int),(m.2.2.2.2.1.length:Int),(m.2.2.2.2.2.1.length:Int),(m.2.2.2.2.2.2.1.length:Int),(m.2.2.2.2.2.2.2.1.length:Int),(m.2.2.2.2.2.2.2.2.1.length:Int),(m.2.2.2.2.2.2.2.2.2.1.length:Int),(m.2.2.2.2.2.2.2.2.2.2.1.length:Int),(m.2.2.2.2.2.2.2.2.2.2.2.1.length:Int)],y≤70:=h7;simp only[List.forall_mem_cons]at h7';exact ⟨by omega,h1,h2,λy hy=>⟨(h3 y hy).1,(h3 y hy).2,hr.fn y hy⟩,λy hy=>⟨h4 y hy,hr.gl y hy⟩,h5,λy hy=>⟨⟨(h6 y hy).1,hr.el y hy⟩,(h6 y hy).2⟩,λy hy=>⟨⟨(h8 y hy).1,hr.da y hy⟩,(h8 y hy).2⟩,h9⟩
theorem mm4 {l:List Int} {k:Int} (h:l.length=4):0≤minI (maxI k 0) 3∧minI (maxI k 0) 3<(l.length:Int):=by
 unfold minI maxI
 repeat' split
 all_goals omega
theorem tr2 {p q:Prop} (h:p→True∧q):p→q:=λa=>(h a).2
theorem zP2a {b:Bool} {e:Int} {p q r:Prop} (h1:b=true→p) (hb:b=true) (hq:q) (hr:e=0→r):(e==0)=true→p∧q∧r:=λh=>⟨h1 hb,hq,hr (eq_of_beq h)⟩
abbrev Cn (x:List (List Int×List Int×Unit)×List Int×It2) (T n:Int):Prop:=(x.1.length:Int)≤T∧(x.2.1.length:Int)≤n∧(x.2.2.1.length:Int)≤n∧(x.2.2.2.1.length:Int)≤n∧(x.2.2.2.2.1.length:Int)≤n∧(0≤x.2.2.2.2.2.2.2.1∧x.2.2.2.2.2.2.2.1≤70)∧(0≤x.2.2.2.2.2.2.2.2.1∧x.2.2.2.2.2.2.2.2.1≤70)
theorem zc1a {r:Bool} {p:Prop} (h:r=true→p) (hr:r=true):p:=h hr
theorem zG2a {r:Bool} {a v l:Int} (h:r=true→0≤a∧a<minI v l) (hr:r=true):0≤a∧a<l:=by
 have:=h hr;unfold minI at this;split at this<;>omega
theorem zZ2a {l:List (List Int×List Int×Unit)} {z y:List Int×List Int×Unit} (h:∀t∈l,TyOk t) (h1:y.1.length≤3000) (h2:y.2.1.length≤3000):∀t∈l++List.set (List.replicate 1 z) 0 y,TyOk t:=by
 intro x hx;rcases List.mem_append.1 hx with q|q
 ·exact h x q
 ·have:x∈[y]:=q;rw[List.mem_singleton]at this; subst this; exact ⟨h1,h2⟩
theorem zY2a:∀t∈([]:List (List Int×List Int×Unit)),TyOk t:=λ_ h=>by cases h
end Go.Trm.G1
namespace Go.Trm.G1
variable {R:Type} {Φ:Option R→Prop}
theorem zLTa {a0 a1:Tq} {K:Bool→Option R} (p0:a0.1.length≤3000) (p1:a0.2.1.length≤3000) (hk:∀(r0:Bool),Φ (K r0)):Φ (zfva a0 a1 K):=by
 unfold zfva
 try dsimp only
 refine zeda ?_ λ_=>kO (λ_=>zeda ?_ λ_=>hk _) λ_=>hk _
 all_goals omega
theorem zxBa {f2 f3:It21} {k_exit_0:It21→It21→Bool→Option R}:∀ {n:Nat} {f5:Bool} {f6:Int},(0≤f6)→(f2.1.length≤1000000000)→(f6≤f2.1.length)→(SM f2)→(f3.1.length=f2.1.length)→((f2.1.length:Int)-f6).toNat<n→(∀(w2:Bool),Φ (k_exit_0 f2 f3 w2))→Φ (loopN (zUka k_exit_0) n ⟨f2,f3,f5,f6⟩):=by
 intro n; induction n; intros; omega; rename_i n ih; intro f5 f6 i0 i1 i2 i3 i4 hm q0;have ⟨z,y1,y2,y3,y4,y5,y6,y7,y8⟩:=i3;have ⟨g,g2⟩:=tget y1 f6.toNat;rw[zaaa];unfold zUka
 try dsimp only
 refine kL (λ_=>kO (λ_=>kP ?_ λ_=>kP ?_ λ_=>zLTa ?_ ?_ λ_=>ih ?_ ?_ ?_ ?_ ?_ ?_ q0) λ_=>ih ?_ ?_ ?_ ?_ ?_ ?_ q0) λ_=>q0 _
 all_goals first|omega|assumption|(simp (disch:=omega) only[kA,kB,kC,kD,kE,kF,kG,kH,kI,kJ,kK]<;>omega)
theorem zwBa {f2 f3:It21} {k_exit_2:It21→It21→Bool→Option R}:∀ {n:Nat} {f5:Bool} {f7:Int},(0≤f7)→(f2.2.1.length≤1000000000)→(f7≤f2.2.1.length)→(SM f2)→(f3.2.1.length=f2.2.1.length)→((f2.2.1.length:Int)-f7).toNat<n→(∀(w2:Bool),Φ (k_exit_2 f2 f3 w2))→Φ (loopN (zTka k_exit_2) n ⟨f2,f3,f5,f7⟩):=by
 intro n; induction n; intros; omega; rename_i n ih; intro f5 f7 i0 i1 i2 i3 i4 hm q0;have ⟨z,y1,y2,y3,y4,y5,y6,y7,y8⟩:=i3;rw[zaaa];unfold zTka
 try dsimp only
 refine kL (λ_=>kO (λ_=>kP ?_ λ_=>kP ?_ λ_=>ih ?_ ?_ ?_ ?_ ?_ ?_ q0) λ_=>ih ?_ ?_ ?_ ?_ ?_ ?_ q0) λ_=>q0 _
 all_goals first|omega|assumption|(simp (disch:=omega) only[kA,kB,kC,kD,kE,kF,kG,kH,kI,kJ,kK]<;>omega)
theorem zNxa {f2 f3:It21} {k_exit_4:It21→It21→Bool→Option R}:∀ {n:Nat} {f5:Bool} {f8:Int},(0≤f8)→(f2.2.2.1.length≤1000000000)→(f8≤f2.2.2.1.length)→(SM f2)→(f3.2.2.1.length=f2.2.2.1.length)→((f2.2.2.1.length:Int)-f8).toNat<n→(∀(w2:Bool),Φ (k_exit_4 f2 f3 w2))→Φ (loopN (zqia k_exit_4) n ⟨f2,f3,f5,f8⟩):=by
 intro n; induction n; intros; omega; rename_i n ih; intro f5 f8 i0 i1 i2 i3 i4 hm q0;have ⟨z,y1,y2,y3,y4,y5,y6,y7,y8⟩:=i3;have ⟨g,g2⟩:=fget y3 f8.toNat;rw[zaaa];unfold zqia
 try dsimp only
 refine kL (λ_=>kO (λ_=>kP ?_ λ_=>kP ?_ λ_=>kM (λ_=>kP ?_ λ_=>kP ?_ λ_=>zeda ?_ λ_=>kO (λ_=>kP ?_ λ_=>kP ?_ λ_=>zRha ?_ λ_=>ih ?_ ?_ ?_ ?_ ?_ ?_ q0) λ_=>ih ?_ ?_ ?_ ?_ ?_ ?_ q0) λ_=>ih ?_ ?_ ?_ ?_ ?_ ?_ q0) λ_=>ih ?_ ?_ ?_ ?_ ?_ ?_ q0) λ_=>q0 _
 all_goals first|omega|assumption|(simp (disch:=omega) only[kA,kB,kC,kD,kE,kF,kG,kH,kI,kJ,kK]<;>omega)
theorem zMxa {f2 f3:It21} {k_exit_6:It21→It21→Bool→Option R}:∀ {n:Nat} {f5:Bool} {f9:Int},(0≤f9)→(f2.2.2.2.1.length≤1000000000)→(f9≤f2.2.2.2.1.length)→(SM f2)→(f3.2.2.2.1.length=f2.2.2.2.1.length)→((f2.2.2.2.1.length:Int)-f9).toNat<n→(∀(w2:Bool),Φ (k_exit_6 f2 f3 w2))→Φ (loopN (zpia k_exit_6) n ⟨f2,f3,f5,f9⟩):=by
 intro n; induction n; intros; omega; rename_i n ih; intro f5 f9 i0 i1 i2 i3 i4 hm q0;have ⟨z,y1,y2,y3,y4,y5,y6,y7,y8⟩:=i3;rw[zaaa];unfold zpia
 try dsimp only
 refine kL (λ_=>kO (λ_=>kP ?_ λ_=>kP ?_ λ_=>ih ?_ ?_ ?_ ?_ ?_ ?_ q0) λ_=>ih ?_ ?_ ?_ ?_ ?_ ?_ q0) λ_=>q0 _
 all_goals first|omega|assumption|(simp (disch:=omega) only[kA,kB,kC,kD,kE,kF,kG,kH,kI,kJ,kK]<;>omega)
theorem zLxa {f2 f3:It21} {k_exit_8:It21→It21→Bool→Option R}:∀ {n:Nat} {f5:Bool} {f10:Int},(0≤f10)→(f2.2.2.2.2.1.length≤1000000000)→(f10≤f2.2.2.2.2.1.length)→(SM f2)→(f3.2.2.2.2.1.length=f2.2.2.2.2.1.length)→((f2.2.2.2.2.1.length:Int)-f10).toNat<n→(∀(w2:Bool),Φ (k_exit_8 f2 f3 w2))→Φ (loopN (zoia k_exit_8) n ⟨f2,f3,f5,f10⟩):=by
 intro n; induction n; intros; omega; rename_i n ih; intro f5 f10 i0 i1 i2 i3 i4 hm q0;have ⟨z,y1,y2,y3,y4,y5,y6,y7,y8⟩:=i3;rw[zaaa];unfold zoia
 try dsimp only
 refine kL (λ_=>kO (λ_=>kP ?_ λ_=>kP ?_ λ_=>ih ?_ ?_ ?_ ?_ ?_ ?_ q0) λ_=>ih ?_ ?_ ?_ ?_ ?_ ?_ q0) λ_=>q0 _
 all_goals first|omega|assumption|(simp (disch:=omega) only[kA,kB,kC,kD,kE,kF,kG,kH,kI,kJ,kK]<;>omega)
theorem zKxa {f2 f3:It21} {k_exit_10:It21→It21→Bool→Option R}:∀ {n:Nat} {f5:Bool} {f11:Int},(0≤f11)→(f2.2.2.2.2.2.1.length≤1000000000)→(f11≤f2.2.2.2.2.2.1.length)→(SM f2)→(f3.2.2.2.2.2.1.length=f2.2.2.2.2.2.1.length)→((f2.2.2.2.2.2.1.length:Int)-f11).toNat<n→(∀(w2:Bool),Φ (k_exit_10 f2 f3 w2))→Φ (loopN (znia k_exit_10) n ⟨f2,f3,f5,f11⟩):=by
 intro n; induction n; intros; omega; rename_i n ih; intro f5 f11 i0 i1 i2 i3 i4 hm q0;have ⟨z,y1,y2,y3,y4,y5,y6,y7,y8⟩:=i3;have g:=gget y4 f11.toNat;rw[zaaa];unfold znia
 try dsimp only
 refine kL (λ_=>kO (λ_=>kP ?_ λ_=>kP ?_ λ_=>kM (λ_=>kP ?_ λ_=>kP ?_ λ_=>kM (λ_=>kP ?_ λ_=>kP ?_ λ_=>zRha ?_ λ_=>ih ?_ ?_ ?_ ?_ ?_ ?_ q0) λ_=>ih ?_ ?_ ?_ ?_ ?_ ?_ q0) λ_=>ih ?_ ?_ ?_ ?_ ?_ ?_ q0) λ_=>ih ?_ ?_ ?_ ?_ ?_ ?_ q0) λ_=>q0 _
 all_goals first|omega|assumption|(simp (disch:=omega) only[kA,kB,kC,kD,kE,kF,kG,kH,kI,kJ,kK]<;>omega)
theorem zJxa {f2 f3:It21} {k_exit_12:It21→It21→Bool→Option R}:∀ {n:Nat} {f5:Bool} {f12:Int},(0≤f12)→(f2.2.2.2.2.2.2.1.length≤1000000000)→(f12≤f2.2.2.2.2.2.2.1.length)→(SM f2)→(f3.2.2.2.2.2.2.1.length=f2.2.2.2.2.2.2.1.length)→((f2.2.2.2.2.2.2.1.length:Int)-f12).toNat<n→(∀(w2:Bool),Φ (k_exit_12 f2 f3 w2))→Φ (loopN (zmia k_exit_12) n ⟨f2,f3,f5,f12⟩):=by
 intro n; induction n; intros; omega; rename_i n ih; intro f5 f12 i0 i1 i2 i3 i4 hm q0;have ⟨z,y1,y2,y3,y4,y5,y6,y7,y8⟩:=i3;rw[zaaa];unfold zmia
 try dsimp only
 refine kL (λ_=>kO (λ_=>kP ?_ λ_=>kP ?_ λ_=>ih ?_ ?_ ?_ ?_ ?_ ?_ q0) λ_=>ih ?_ ?_ ?_ ?_ ?_ ?_ q0) λ_=>q0 _
 all_goals first|omega|assumption|(simp (disch:=omega) only[kA,kB,kC,kD,kE,kF,kG,kH,kI,kJ,kK]<;>omega)
theorem zIxa {f2 f3:It21} {k_exit_14:It21→It21→Bool→Option R}:∀ {n:Nat} {f5:Bool} {f13:Int},(0≤f13)→(f2.2.2.2.2.2.2.2.2.1.length≤1000000000)→(f13≤f2.2.2.2.2.2.2.2.2.1.length)→(SM f2)→(f3.2.2.2.2.2.2.2.2.1.length=f2.2.2.2.2.2.2.2.2.1.length)→((f2.2.2.2.2.2.2.2.2.1.length:Int)-f13).toNat<n→(∀(w2:Bool),Φ (k_exit_14 f2 f3 w2))→Φ (loopN (zlia k_exit_14) n ⟨f2,f3,f5,f13⟩):=by
 intro n; induction n; intros; omega; rename_i n ih; intro f5 f13 i0 i1 i2 i3 i4 hm q0;have ⟨z,y1,y2,y3,y4,y5,y6,y7,y8⟩:=i3;have ⟨g,g2⟩:=eget y6 f13.toNat;rw[zaaa];unfold zlia
 try dsimp only
 refine kL (λ_=>kO (λ_=>kP ?_ λ_=>kP ?_ λ_=>kM (λ_=>kP ?_ λ_=>kP ?_ λ_=>zRha ?_ λ_=>kO (λ_=>kP ?_ λ_=>kP ?_ λ_=>zeda ?_ λ_=>ih ?_ ?_ ?_ ?_ ?_ ?_ q0) λ_=>ih ?_ ?_ ?_ ?_ ?_ ?_ q0) λ_=>ih ?_ ?_ ?_ ?_ ?_ ?_ q0) λ_=>ih ?_ ?_ ?_ ?_ ?_ ?_ q0) λ_=>q0 _
 all_goals first|omega|assumption|(simp (disch:=omega) only[kA,kB,kC,kD,kE,kF,kG,kH,kI,kJ,kK]<;>omega)
theorem zHxa {f2 f3:It21} {k_exit_16:It21→It21→Bool→Option R}:∀ {n:Nat} {f5:Bool} {f14:Int},(0≤f14)→(f2.2.2.2.2.2.2.2.2.2.2.1.length≤1000000000)→(f14≤f2.2.2.2.2.2.2.2.2.2.2.1.length)→(SM f2)→(f3.2.2.2.2.2.2.2.2.2.2.1.length=f2.2.2.2.2.2.2.2.2.2.2.1.length)→((f2.2.2.2.2.2.2.2.2.2.2.1.length:Int)-f14).toNat<n→(∀(w2:Bool),Φ (k_exit_16 f2 f3 w2))→Φ (loopN (zkia k_exit_16) n ⟨f2,f3,f5,f14⟩):=by
 intro n; induction n; intros; omega; rename_i n ih; intro f5 f14 i0 i1 i2 i3 i4 hm q0;have ⟨z,y1,y2,y3,y4,y5,y6,y7,y8⟩:=i3;have ⟨g,g2⟩:=eget y7 f14.toNat;rw[zaaa];unfold zkia
 try dsimp only
 refine kL (λ_=>kO (λ_=>kP ?_ λ_=>kP ?_ λ_=>kM (λ_=>kP ?_ λ_=>kP ?_ λ_=>zRha ?_ λ_=>kO (λ_=>kP ?_ λ_=>kP ?_ λ_=>zvua ?_ λ_=>ih ?_ ?_ ?_ ?_ ?_ ?_ q0) λ_=>ih ?_ ?_ ?_ ?_ ?_ ?_ q0) λ_=>ih ?_ ?_ ?_ ?_ ?_ ?_ q0) λ_=>ih ?_ ?_ ?_ ?_ ?_ ?_ q0) λ_=>q0 _
 all_goals first|omega|assumption|(simp (disch:=omega) only[kA,kB,kC,kD,kE,kF,kG,kH,kI,kJ,kK]<;>omega)
theorem zGxa {f2 f3:It21} {k_exit_18:Bool→Option R}:∀ {n:Nat} {f5:Bool} {f15:Int},(0≤f15)→(f2.2.2.2.2.2.2.2.2.2.2.2.1.length≤1000000000)→(f15≤f2.2.2.2.2.2.2.2.2.2.2.2.1.length)→(SM f2)→(f3.2.2.2.2.2.2.2.2.2.2.2.1.length=f2.2.2.2.2.2.2.2.2.2.2.2.1.length)→((f2.2.2.2.2.2.2.2.2.2.2.2.1.length:Int)-f15).toNat<n→(∀(w0:Bool),Φ (k_exit_18 w0))→Φ (loopN (zjia k_exit_18) n ⟨f2,f3,f5,f15⟩):=by
 intro n; induction n; intros; omega; rename_i n ih; intro f5 f15 i0 i1 i2 i3 i4 hm q0;have ⟨z,y1,y2,y3,y4,y5,y6,y7,y8⟩:=i3;have ⟨g,g2⟩:=cget y8 f15.toNat;rw[zaaa];unfold zjia
 try dsimp only
 refine kL (λ_=>kO (λ_=>kP ?_ λ_=>kP ?_ λ_=>kM (λ_=>kP ?_ λ_=>kP ?_ λ_=>zvua ?_ λ_=>ih ?_ ?_ ?_ ?_ ?_ ?_ q0) λ_=>ih ?_ ?_ ?_ ?_ ?_ ?_ q0) λ_=>ih ?_ ?_ ?_ ?_ ?_ ?_ q0) λ_=>q0 _
 all_goals first|omega|assumption|(simp (disch:=omega) only[kA,kB,kC,kD,kE,kF,kG,kH,kI,kJ,kK]<;>omega)
theorem zJTa {a0 a1:It21} {K:Bool→Option R} (p0:SM a0) (hk:∀(r0:Bool),Φ (K r0)):Φ (zdva a0 a1 K):=by
 have z:=p0.rows;unfold zdva
 try dsimp only
 refine kN (λ_=>hk _) λ_=>kN (λ_=>hk _) λ_=>kN (λ_=>hk _) λ_=>kN (λ_=>hk _) λ_=>kN (λ_=>hk _) λ_=>kN (λ_=>hk _) λ_=>kN (λ_=>hk _) λ_=>kN (λ_=>hk _) λ_=>kN (λ_=>hk _) λ_=>kN (λ_=>hk _) λ_=>zeda ?_ λ_=>kO (λ_=>zeda ?_ λ_=>zxBa ?_ ?_ ?_ ?_ ?_ (zdaa ?_) (λ_=>zwBa ?_ ?_ ?_ ?_ ?_ (zdaa ?_) (λ_=>zNxa ?_ ?_ ?_ ?_ ?_ (zdaa ?_) (λ_=>zMxa ?_ ?_ ?_ ?_ ?_ (zdaa ?_) (λ_=>zLxa ?_ ?_ ?_ ?_ ?_ (zdaa ?_) (λ_=>zKxa ?_ ?_ ?_ ?_ ?_ (zdaa ?_) (λ_=>zJxa ?_ ?_ ?_ ?_ ?_ (zdaa ?_) (λ_=>zIxa ?_ ?_ ?_ ?_ ?_ (zdaa ?_) (λ_=>zHxa ?_ ?_ ?_ ?_ ?_ (zdaa ?_) (λ_=>zGxa ?_ ?_ ?_ ?_ ?_ (zdaa ?_) (λ_=>hk _))))))))))) λ_=>zxBa ?_ ?_ ?_ ?_ ?_ (zdaa ?_) (λ_=>zwBa ?_ ?_ ?_ ?_ ?_ (zdaa ?_) (λ_=>zNxa ?_ ?_ ?_ ?_ ?_ (zdaa ?_) (λ_=>zMxa ?_ ?_ ?_ ?_ ?_ (zdaa ?_) (λ_=>zLxa ?_ ?_ ?_ ?_ ?_ (zdaa ?_) (λ_=>zKxa ?_ ?_ ?_ ?_ ?_ (zdaa ?_) (λ_=>zJxa ?_ ?_ ?_ ?_ ?_ (zdaa ?_) (λ_=>zIxa ?_ ?_ ?_ ?_ ?_ (zdaa ?_) (λ_=>zHxa ?_ ?_ ?_ ?_ ?_ (zdaa ?_) (λ_=>zGxa ?_ ?_ ?_ ?_ ?_ (zdaa ?_) (λ_=>hk _))))))))))
 all_goals omega
theorem zhPa {a0:It21} {K:Bool→Option R} (p0:SM a0) (hk:∀(r0:Bool),Φ (K r0)):Φ (zFoa a0 K):=by
 unfold zFoa
 try dsimp only
 refine ztRa ?_ λ_=>kU (kO (λ_=>zvRa ?_ λ_ _ _=>kN (λ_=>hk _) λ_=>ziPa λ_ _=>kM (λ_=>zJTa ?_ λ_=>hk _) λ_=>hk _) λ_=>hk _)
 all_goals omega
theorem zrKa {f1:It21} {f58:Tl} {f59:Int} {k_ret:Bool→Option R} {k_exit_0:It21→Option R}:∀ {n:Nat} {f60:Int},(f59=(f58.length:Int))→(f58.length≤9223372036854775807)→(0≤f60)→(∀j:Nat,(j:Int)<f60→f58.getD j 0≤70)→(f59-f60).toNat<n→(∀(w0:Bool),(w0=false)→Φ (k_ret w0))→((∀y∈f58,y≤70)→Φ (k_exit_0 f1))→Φ (loopN (zsma k_ret k_exit_0) n ⟨f1,f58,f59,f60⟩):=by
 intro n; induction n; intros; omega; rename_i n ih; intro f60 i0 i1 i2 i3 hm q0 q1;rw[zaaa];unfold zsma
 try dsimp only
 refine kL (λ_=>kP ?_ λ_=>kL (λ_=>q0 _ ?_) λ_=>ih ?_ ?_ ?_ ?_ ?_ q0 q1) λ_=>q1 ?_
 all_goals first|with_reducible assumption|omega|with_reducible exact (zuaa _).1|with_reducible exact (zuaa _).2|rfl|(simp (disch:=omega) only[kA,kB,kC,kD,kE,kF,kG,kH,kI,kJ,kK]<;>omega)|((iterate 2 (try simp (disch:=omega) only[kA,kB,kC,kD,kE,kF,kG,kH,kI,kJ,kK]at *))<;>omega)|exact zcva (P:=λy:Int=>y≤70) i2 (by omega) i3 (by omega)|exact ztEa (P:=λy:Int=>y≤70) i3 (by omega)
theorem zTca {a0 a1:Int} {K:Int→Option R} (p0:a0≤3000) (p1:0≤a1) (hk:∀(r0:Int),(r0≤3000)→(0≤r0→0≤a0∧a1≤3000∧r0=a0+a1)→Φ (K r0)):Φ (zJba a0 a1 K):=by
 unfold zJba
 try dsimp only
 refine kL (λ_=>hk _ ?_ ?_) λ_=>kL (λ_=>hk _ ?_ ?_) λ_=>kL (λ_=>hk _ ?_ ?_) λ_=>hk _ ?_ ?_
 all_goals first|with_reducible assumption|omega|with_reducible exact (zuaa _).1|with_reducible exact (zuaa _).2|rfl|(simp (disch:=omega) only[kA,kB,kC,kD,kE,kF,kG,kH,kI,kJ,kK]<;>omega)|((iterate 2 (try simp (disch:=omega) only[kA,kB,kC,kD,kE,kF,kG,kH,kI,kJ,kK]at *))<;>omega)|(intro _; exact ⟨by omega,by omega,w_i64 (by omega)⟩)
theorem zqKa {Q:Prop} {f1:It21} {f68:List Tq} {f69:Int} {k_exit_2:It21→Int→Option R}:∀ {n:Nat} {f5 f70:Int},(f69=(f68.length:Int))→(f68.length≤9223372036854775807)→(0≤f70)→(f5≤3000)→(0≤f5→Q)→(0≤f5→∀j:Nat,(j:Int)<f70→TyOk (f68.getD j ([],[],())))→(f69-f70).toNat<n→(∀(w1:Int),(w1≤3000)→(0≤w1→Q∧∀y∈f68,TyOk y)→Φ (k_exit_2 f1 w1))→Φ (loopN (zrma k_exit_2) n ⟨f1,f5,f68,f69,f70⟩):=by
 intro n; induction n; intros; omega; rename_i n ih; intro f5 f70 i0 i1 i2 i3 i4 i5 hm q0;rw[zaaa];unfold zrma
 try dsimp only
 refine kL (λ_=>kP ?_ λ_=>zTca ?_ ?_ λ_ _ _=>zTca ?_ ?_ λ_ _ _=>ih ?_ ?_ ?_ ?_ ?_ ?_ ?_ q0) λ_=>q0 _ ?_ ?_
 all_goals first|with_reducible assumption|omega|(simp (disch:=omega) only[w_i64]<;>omega)|exact λh=>i4 (by omega)|exact λh=>zcva i2 (by omega) (i5 (by omega)) (⟨by omega,by omega⟩)|exact λh=>⟨i4 h,ztEa (i5 h) (by omega)⟩
theorem zFIa {Q:Prop} {f1:It21} {f85:List Tp} {f86:Int} {k_exit_4:It21→Int→Option R}:∀ {n:Nat} {f5 f87:Int},(f86=(f85.length:Int))→(f85.length≤9223372036854775807)→(0≤f87)→(f5≤3000)→(0≤f5→Q)→(0≤f5→∀j:Nat,(j:Int)<f87→ImOk (f85.getD j ([],[],0,0,(0,false,0,()),false,())))→(f86-f87).toNat<n→(∀(w1:Int),(w1≤3000)→(0≤w1→Q∧∀y∈f85,ImOk y)→Φ (k_exit_4 f1 w1))→Φ (loopN (zSka k_exit_4) n ⟨f1,f5,f85,f86,f87⟩):=by
 intro n; induction n; intros; omega; rename_i n ih; intro f5 f87 i0 i1 i2 i3 i4 i5 hm q0;rw[zaaa];unfold zSka
 try dsimp only
 refine kL (λ_=>kP ?_ λ_=>zTca ?_ ?_ λ_ _ _=>zTca ?_ ?_ λ_ _ _=>ih ?_ ?_ ?_ ?_ ?_ ?_ ?_ q0) λ_=>q0 _ ?_ ?_
 all_goals first|with_reducible assumption|omega|(simp (disch:=omega) only[w_i64]<;>omega)|exact λh=>i4 (by omega)|exact λh=>zcva i2 (by omega) (i5 (by omega)) (⟨by omega,by omega⟩)|exact λh=>⟨i4 h,ztEa (i5 h) (by omega)⟩
theorem zkEa {A:Int} {f1:Tj} {k_exit_0:Int→Option R}:∀ {n:Nat} {f0 f5:Int},(0≤f5)→(f5≤3000)→(f0≤3000)→(0≤f0→0≤A∧f1.length≤3000∧A+f1.length+lszT f1 f5=f0)→(3001-f5).toNat<n→(∀(w0:Int),(w0≤3000)→(0≤w0→0≤A∧f1.length+lsz f1≤3000)→Φ (k_exit_0 w0))→Φ (loopN (zCha k_exit_0) n ⟨f0,f1,f5⟩):=by
 intro n; induction n; intros; omega; rename_i n ih; intro f0 f5 i0 i1 i2 i3 hm q0;have g:=zOVa f1 i0 (by omega);have g1:=zQ0a f1 f5;rw[zaaa];unfold zCha
 try dsimp only
 refine kL (λ_=>kL (λ_=>kP ?_ λ_=>zTca ?_ ?_ λ_ _ _=>ih ?_ ?_ ?_ ?_ ?_ q0) λ_=>q0 _ ?_ ?_) λ_=>q0 _ ?_ ?_
 all_goals first|omega|assumption|(simp (disch:=omega) only[kA,kB,kC,kD,kE,kF,kG,kH,kI,kJ,kK]<;>omega)
theorem zAja {a0:Int} {a1:Tj} {K:Int→Option R} (p0:a0≤3000) (hk:∀(r0:Int),(r0≤3000)→(0≤r0→0≤a0∧a1.length+lsz a1≤3000)→Φ (K r0)):Φ (zhda a0 a1 K):=by
 have g:=zr2a a1;unfold zhda
 try dsimp only
 refine zTca ?_ ?_ λ_ _ _=>zkEa (A:=a0) ?_ ?_ ?_ ?_ (zdaa ?_) (λ_ _ _=>hk _ ?_ ?_)
 all_goals omega
theorem zEIa {Q:Prop} {f1:It21} {f102:List Tf} {f103:Int} {k_exit_6:It21→Int→Option R}:∀ {n:Nat} {f5 f104:Int},(f103=(f102.length:Int))→(f102.length≤9223372036854775807)→(0≤f104)→(f5≤3000)→(0≤f5→Q)→(0≤f5→∀j:Nat,(j:Int)<f104→FnS (f102.getD j (0,[],[],())))→(f103-f104).toNat<n→(∀(w1:Int),(w1≤3000)→(0≤w1→Q∧∀y∈f102,FnS y)→Φ (k_exit_6 f1 w1))→Φ (loopN (zRka k_exit_6) n ⟨f1,f5,f102,f103,f104⟩):=by
 intro n; induction n; intros; omega; rename_i n ih; intro f5 f104 i0 i1 i2 i3 i4 i5 hm q0;rw[zaaa];unfold zRka
 try dsimp only
 refine kL (λ_=>kP ?_ λ_=>zTca ?_ ?_ λ_ _ _=>zAja ?_ λ_ _ _=>ih ?_ ?_ ?_ ?_ ?_ ?_ ?_ q0) λ_=>q0 _ ?_ ?_
 all_goals first|with_reducible assumption|omega|(simp (disch:=omega) only[w_i64]<;>omega)|exact λh=>i4 (by omega)|exact λh=>zcva i2 (by omega) (i5 (by omega)) (⟨by omega,by unfold Sz; omega⟩)|exact λh=>⟨i4 h,ztEa (i5 h) (by omega)⟩
theorem zDIa {Q:Prop} {f1:It21} {f118:List Tg} {f119:Int} {k_exit_8:It21→Int→Option R}:∀ {n:Nat} {f5 f120:Int},(f119=(f118.length:Int))→(f118.length≤9223372036854775807)→(0≤f120)→(f5≤3000)→(0≤f5→Q)→(0≤f5→∀j:Nat,(j:Int)<f120→GvS (f118.getD j (0,false,[],())))→(f119-f120).toNat<n→(∀(w1:Int),(w1≤3000)→(0≤w1→Q∧∀y∈f118,GvS y)→Φ (k_exit_8 f1 w1))→Φ (loopN (zQka k_exit_8) n ⟨f1,f5,f118,f119,f120⟩):=by
 intro n; induction n; intros; omega; rename_i n ih; intro f5 f120 i0 i1 i2 i3 i4 i5 hm q0;rw[zaaa];unfold zQka
 try dsimp only
 refine kL (λ_=>kP ?_ λ_=>zAja ?_ λ_ _ _=>ih ?_ ?_ ?_ ?_ ?_ ?_ ?_ q0) λ_=>q0 _ ?_ ?_
 all_goals first|with_reducible assumption|omega|(simp (disch:=omega) only[w_i64]<;>omega)|exact λh=>i4 (by omega)|exact λh=>zcva i2 (by omega) (i5 (by omega)) (by unfold GvS Sz; omega)|exact λh=>⟨i4 h,ztEa (i5 h) (by omega)⟩
theorem zCIa {Q:Prop} {f1:It21} {f130:List Tx} {f131:Int} {k_exit_10:It21→Int→Option R}:∀ {n:Nat} {f5 f132:Int},(f131=(f130.length:Int))→(f130.length≤9223372036854775807)→(0≤f132)→(f5≤3000)→(0≤f5→Q)→(0≤f5→∀j:Nat,(j:Int)<f132→ExOk (f130.getD j ([],0,0,())))→(f131-f132).toNat<n→(∀(w1:Int),(w1≤3000)→(0≤w1→Q∧∀y∈f130,ExOk y)→Φ (k_exit_10 f1 w1))→Φ (loopN (zPka k_exit_10) n ⟨f1,f5,f130,f131,f132⟩):=by
 intro n; induction n; intros; omega; rename_i n ih; intro f5 f132 i0 i1 i2 i3 i4 i5 hm q0;rw[zaaa];unfold zPka
 try dsimp only
 refine kL (λ_=>kP ?_ λ_=>zTca ?_ ?_ λ_ _ _=>ih ?_ ?_ ?_ ?_ ?_ ?_ ?_ q0) λ_=>q0 _ ?_ ?_
 all_goals first|with_reducible assumption|omega|(simp (disch:=omega) only[w_i64]<;>omega)|exact λh=>i4 (by omega)|exact λh=>zcva i2 (by omega) (i5 (by omega)) (by unfold ExOk; omega)|exact λh=>⟨i4 h,ztEa (i5 h) (by omega)⟩
theorem zBIa {Q:Prop} {f1:It21} {f143:List Te} {f144:Int} {k_exit_12:It21→Int→Option R}:∀ {n:Nat} {f5 f145:Int},(f144=(f143.length:Int))→(f143.length≤9223372036854775807)→(0≤f145)→(f5≤3000)→(0≤f5→Q)→(0≤f5→∀j:Nat,(j:Int)<f145→ElS (f143.getD j (0,[],[],())))→(f144-f145).toNat<n→(∀(w1:Int),(w1≤3000)→(0≤w1→Q∧∀y∈f143,ElS y)→Φ (k_exit_12 f1 w1))→Φ (loopN (zOka k_exit_12) n ⟨f1,f5,f143,f144,f145⟩):=by
 intro n; induction n; intros; omega; rename_i n ih; intro f5 f145 i0 i1 i2 i3 i4 i5 hm q0;rw[zaaa];unfold zOka
 try dsimp only
 refine kL (λ_=>kP ?_ λ_=>zTca ?_ ?_ λ_ _ _=>zAja ?_ λ_ _ _=>ih ?_ ?_ ?_ ?_ ?_ ?_ ?_ q0) λ_=>q0 _ ?_ ?_
 all_goals first|with_reducible assumption|omega|(simp (disch:=omega) only[w_i64]<;>omega)|exact λh=>i4 (by omega)|exact λh=>zcva i2 (by omega) (i5 (by omega)) (⟨by unfold Sz; omega,by omega⟩)|exact λh=>⟨i4 h,ztEa (i5 h) (by omega)⟩
theorem zAIa {Q:Prop} {f1:It21} {f159:List Te} {f160:Int} {k_exit_14:It21→Int→Option R}:∀ {n:Nat} {f5 f161:Int},(f160=(f159.length:Int))→(f159.length≤9223372036854775807)→(0≤f161)→(f5≤3000)→(0≤f5→Q)→(0≤f5→∀j:Nat,(j:Int)<f161→ElS (f159.getD j (0,[],[],())))→(f160-f161).toNat<n→(∀(w1:Int),(w1≤3000)→(0≤w1→Q∧∀y∈f159,ElS y)→Φ (k_exit_14 f1 w1))→Φ (loopN (zNka k_exit_14) n ⟨f1,f5,f159,f160,f161⟩):=by
 intro n; induction n; intros; omega; rename_i n ih; intro f5 f161 i0 i1 i2 i3 i4 i5 hm q0;rw[zaaa];unfold zNka
 try dsimp only
 refine kL (λ_=>kP ?_ λ_=>zTca ?_ ?_ λ_ _ _=>zAja ?_ λ_ _ _=>ih ?_ ?_ ?_ ?_ ?_ ?_ ?_ q0) λ_=>q0 _ ?_ ?_
 all_goals first|with_reducible assumption|omega|(simp (disch:=omega) only[w_i64]<;>omega)|exact λh=>i4 (by omega)|exact λh=>zcva i2 (by omega) (i5 (by omega)) (⟨by unfold Sz; omega,by omega⟩)|exact λh=>⟨i4 h,ztEa (i5 h) (by omega)⟩
theorem zzIa {Q:Prop} {f175:List Tv} {f176:Int} {k_exit_16:Int→Option R}:∀ {n:Nat} {f5 f177:Int},(f176=(f175.length:Int))→(f175.length≤9223372036854775807)→(0≤f177)→(f5≤3000)→(0≤f5→Q)→(0≤f5→∀j:Nat,(j:Int)<f177→CuOk (f175.getD j ([],[],())))→(f176-f177).toNat<n→(∀(w0:Int),(w0≤3000)→(0≤w0→Q∧∀y∈f175,CuOk y)→Φ (k_exit_16 w0))→Φ (loopN (zMka k_exit_16) n ⟨f5,f175,f176,f177⟩):=by
 intro n; induction n; intros; omega; rename_i n ih; intro f5 f177 i0 i1 i2 i3 i4 i5 hm q0;rw[zaaa];unfold zMka
 try dsimp only
 refine kL (λ_=>kP ?_ λ_=>zTca ?_ ?_ λ_ _ _=>zTca ?_ ?_ λ_ _ _=>ih ?_ ?_ ?_ ?_ ?_ ?_ ?_ q0) λ_=>q0 _ ?_ ?_
 all_goals first|with_reducible assumption|omega|(simp (disch:=omega) only[w_i64]<;>omega)|exact λh=>i4 (by omega)|exact λh=>zcva i2 (by omega) (i5 (by omega)) (⟨by omega,by omega⟩)|exact λh=>⟨i4 h,ztEa (i5 h) (by omega)⟩
theorem zuRa {a0:It21} {K:Bool→Option R} (p0:RawOk a0) (hk:∀(r0:Bool),(r0=true→SM a0)→Φ (K r0)):Φ (zKra a0 K):=by
 have z:=p0.rows;unfold zKra
 try dsimp only
 refine zrKa ?_ ?_ ?_ ?_ (zdaa ?_) (λ_ _=>hk _ ?_) (λ_=>zqKa (Q:=True) ?_ ?_ ?_ ?_ ?_ ?_ (zdaa ?_) (λ_ _ _=>zFIa (Q:=∀y∈a0.1,TyOk y) ?_ ?_ ?_ ?_ ?_ ?_ (zdaa ?_) (λ_ _ _=>zEIa (Q:=(∀y∈a0.1,TyOk y)∧∀y∈a0.2.1,ImOk y) ?_ ?_ ?_ ?_ ?_ ?_ (zdaa ?_) (λ_ _ _=>zDIa (Q:=((∀y∈a0.1,TyOk y)∧∀y∈a0.2.1,ImOk y)∧∀y∈a0.2.2.1,FnS y) ?_ ?_ ?_ ?_ ?_ ?_ (zdaa ?_) (λ_ _ _=>zCIa (Q:=(((∀y∈a0.1,TyOk y)∧∀y∈a0.2.1,ImOk y)∧∀y∈a0.2.2.1,FnS y)∧∀y∈a0.2.2.2.2.2.1,GvS y) ?_ ?_ ?_ ?_ ?_ ?_ (zdaa ?_) (λ_ _ _=>zBIa (Q:=((((∀y∈a0.1,TyOk y)∧∀y∈a0.2.1,ImOk y)∧∀y∈a0.2.2.1,FnS y)∧∀y∈a0.2.2.2.2.2.1,GvS y)∧∀y∈a0.2.2.2.2.2.2.1,ExOk y) ?_ ?_ ?_ ?_ ?_ ?_ (zdaa ?_) (λ_ _ _=>zAIa (Q:=(((((∀y∈a0.1,TyOk y)∧∀y∈a0.2.1,ImOk y)∧∀y∈a0.2.2.1,FnS y)∧∀y∈a0.2.2.2.2.2.1,GvS y)∧∀y∈a0.2.2.2.2.2.2.1,ExOk y)∧∀y∈a0.2.2.2.2.2.2.2.2.1,ElS y) ?_ ?_ ?_ ?_ ?_ ?_ (zdaa ?_) (λ_ _ _=>zzIa (Q:=((((((∀y∈a0.1,TyOk y)∧∀y∈a0.2.1,ImOk y)∧∀y∈a0.2.2.1,FnS y)∧∀y∈a0.2.2.2.2.2.1,GvS y)∧∀y∈a0.2.2.2.2.2.2.1,ExOk y)∧∀y∈a0.2.2.2.2.2.2.2.2.1,ElS y)∧∀y∈a0.2.2.2.2.2.2.2.2.2.2.1,ElS y) ?_ ?_ ?_ ?_ ?_ ?_ (zdaa ?_) (λ_ _ _=>hk _ ?_)))))))))
 all_goals first|with_reducible assumption|omega|rfl|exact λ_=>trivial|exact tr2 (by assumption)|(intro _ j hj; exact absurd hj (by omega))|(intro j hj; exact absurd hj (by omega))|(intro h; subst h; contradiction)|(simp only[List.length_set,List.length_replicate]; omega)|exact λh=>sm_of p0 (by assumption) (by assumption) h
end Go.Trm.G1
namespace Go.Trm.G1
variable {R:Type} {Φ:Option R→Prop}
theorem zAwa {a0:Tl} {K:Tl→Option R} (p0:a0.length≤3000) (hk:∀(r0:Tl),(r0.length≤a0.length)→Φ (K r0)):Φ (zUca a0 K):=by
 have hm:most=4294967296:=rfl;unfold zUca;dsimp only;refine kO (λh=>?_) λ_=>kR (by simp only[List.length_replicate]; omega) λ_=>hk _ (by simp)
 obtain rfl:a0=[]:=List.isEmpty_iff.1 h;have e:List.replicate 0 (0:Int)=[]:=rfl;simp only[e,List.length_nil,zDaa,List.nil_append];rw[if_pos (by omega)];simp only[zKaa];exact hk _ (Nat.le_refl _)
theorem zpKa {a0:Tq} {K:Tq→Option R} (p0:a0.1.length≤3000) (p1:a0.2.1.length≤3000) (hk:∀(r0:Tq),(r0.1.length≤3000)→(r0.2.1.length≤3000)→Φ (K r0)):Φ (zPea a0 K):=by
 unfold zPea
 try dsimp only
 refine zAwa ?_ λ_ _=>zAwa ?_ λ_ _=>hk _ ?_ ?_
 all_goals first|omega|assumption|(simp (disch:=omega) only[kA,kB,kC,kD,kE,kF,kG,kH,kI,kJ,kK]<;>omega)
theorem zP3a {f1:It21} {f2:List Tq×Tl×It2} {f4:It36} {f16:List Tq} {f17 f18:Int} {k_normal:It21→List Tq×Tl×It2→It36→List Tq→Int→Int→Option R} (p0:0≤f18∧f18<f16.length) (p1:∀y∈f16,TyOk y) (p2:f18≤70) (p3:∀t∈f4.1.1,TyOk t) (p4:Cn (f4.1) (f18) (0)) (q0:(∀(w2:It36),(∀t∈w2.1.1,TyOk t)→(Cn (w2.1) (f18+1) (0))→Φ (k_normal f1 f2 w2 f16 f17 f18))):Φ (zZMa k_normal ⟨f1,f2,f4,f16,f17,f18⟩):=by
 have ⟨g,g2⟩:=tget p1 f18.toNat;unfold zZMa
 try dsimp only
 try simp only[zKaa]
 refine kP ?_ λ_=>zpKa ?_ ?_ λ_ _ _=>kY ?_<|q0 _ ?_ ?_
 all_goals first|with_reducible assumption|omega|with_reducible exact (zuaa _).1|with_reducible exact (zuaa _).2|rfl|(simp (disch:=omega) only[Cn,kA,kB,kC,kD,kE,kF,kG,kH,kI,kJ,kK]<;>omega)|((iterate 2 (try simp (disch:=omega) only[Cn,kA,kB,kC,kD,kE,kF,kG,kH,kI,kJ,kK]at *))<;>omega)|with_reducible exact zZ2a (by assumption) (by assumption) (by assumption)
theorem zkWa {f1:It21} {f2:List Tq×Tl×It2} {f16:List Tq} {f17:Int} {k_exit_0:It21→List Tq×Tl×It2→It36→Option R}:∀ {n:Nat} {f4:It36} {f18:Int},(f17=(f16.length:Int))→(0≤f18)→(f16.length≤1000000000)→(f18≤f17)→(∀y∈f16,TyOk y)→(f17≤70)→(∀t∈f4.1.1,TyOk t)→(Cn (f4.1) (f18) (0))→(f17-f18).toNat<n→(∀(w2:It36),(∀t∈w2.1.1,TyOk t)→(Cn (w2.1) (70) (0))→Φ (k_exit_0 f1 f2 w2))→Φ (loopN (zXFa k_exit_0) n ⟨f1,f2,f4,f16,f17,f18⟩):=by
 intro n; induction n; intros; omega; rename_i n ih; intro f4 f18 i0 i1 i2 i3 i4 i5 i6 i7 hm q0;have ⟨g,g2⟩:=tget i4 f18.toNat;rw[zaaa];unfold zXFa
 try dsimp only
 refine kL (λ_=>zP3a ?_ ?_ ?_ ?_ ?_ (λ_ _ _=>ih ?_ ?_ ?_ ?_ ?_ ?_ ?_ ?_ ?_ q0)) λ_=>q0 _ ?_ ?_
 all_goals first|with_reducible assumption|omega|with_reducible exact (zuaa _).1|with_reducible exact (zuaa _).2|rfl|(simp (disch:=omega) only[Cn,kA,kB,kC,kD,kE,kF,kG,kH,kI,kJ,kK]<;>omega)|((iterate 2 (try simp (disch:=omega) only[Cn,kA,kB,kC,kD,kE,kF,kG,kH,kI,kJ,kK]at *))<;>omega)|with_reducible exact zZ2a (by assumption) (by assumption) (by assumption)
theorem zFja {a0 a1:Int} {K:Bool→Option R} (hk:∀(r0:Bool),(r0=true→0≤a0∧a0<a1)→Φ (K r0)):Φ (zLda a0 a1 K):=by
 unfold zLda
 try dsimp only
 refine kL (λ_=>hk _ ?_) λ_=>hk _ ?_
 all_goals first|exact λh=>⟨by assumption,of_decide_eq_true h⟩|exact λh=>by cases h
theorem zgaa {n:Int} {a0:It36} {a1:Bool} {a2:Int} {K:It36→Option R} (p0:∀t∈a0.1.1,TyOk t) (p1:Cn (a0.1) (70) (n)) (hk:∀(r0:It36),(∀t∈r0.1.1,TyOk t)→(Cn (r0.1) (70) (n))→Φ (K r0)):Φ (zeaa a0 a1 a2 K):=by
 unfold zeaa
 try dsimp only
 refine kU (kO (λ_=>hk _ ?_ ?_) λ_=>kM (λ_=>hk _ ?_ ?_) λ_=>hk _ ?_ ?_)
 all_goals omega
theorem zQza {a0:Tm} {K:Int→Option R} (hk:∀(r0:Int),Φ (K r0)):Φ (zOla a0 K):=by
 unfold zOla
 try dsimp only
 exact kL (λ_=>hk _) λ_=>kO (λ_=>kL (λ_=>hk _) λ_=>kL (λ_=>hk _) λ_=>hk _) λ_=>kL (λ_=>hk _) λ_=>hk _
theorem zwua {a0:Tm} {K:Int→Option R} (hk:∀(r0:Int),Φ (K r0)):Φ (zVia a0 K):=by
 unfold zVia
 try dsimp only
 exact kL (λ_=>hk _) λ_=>kL (λ_=>hk _) λ_=>kO (λ_=>kL (λ_=>hk _) λ_=>kL (λ_=>hk _) λ_=>kL (λ_=>hk _) λ_=>hk _) λ_=>kL (λ_=>hk _) λ_=>hk _
theorem zG3a {f6:List Tp} {f7 f8:Int} {fc:It36} {k_normal:List Tp→Int→Int→It36→Option R} (p0:0≤f8∧f8<f6.length) (p1:f8≤70) (p2:∀t∈fc.1.1,TyOk t) (p3:Cn (fc.1) (70) (f8)) (q0:(∀(w3:It36),(∀t∈w3.1.1,TyOk t)→(Cn (w3.1) (70) (f8+1))→Φ (k_normal f6 f7 f8 w3))):Φ (zdfa k_normal ⟨f6,f7,f8,fc⟩):=by
 unfold zdfa zUfa zTfa zgfa zffa zefa
 try dsimp only
 try simp only[zKaa]
 refine kP ?_ λ_=>kM (λ_=>zFja λ_ _=>zgaa (n:=f8) ?_ ?_ λ_ _ _=>kY ?_<|q0 _ ?_ ?_) λ_=>kM (λ_=>zQza λ_=>zQza λ_=>zgaa (n:=f8) ?_ ?_ λ_ _ _=>kY ?_<|q0 _ ?_ ?_) λ_=>kM (λ_=>zwua λ_=>zwua λ_=>zgaa (n:=f8) ?_ ?_ λ_ _ _=>kY ?_<|q0 _ ?_ ?_) λ_=>kM (λ_=>kY ?_<|q0 _ ?_ ?_) λ_=>q0 _ ?_ ?_
 all_goals first|with_reducible assumption|omega|with_reducible exact (zuaa _).1|with_reducible exact (zuaa _).2|rfl|(simp (disch:=omega) only[Cn,kA,kB,kC,kD,kE,kF,kG,kH,kI,kJ,kK]<;>omega)|((iterate 2 (try simp (disch:=omega) only[Cn,kA,kB,kC,kD,kE,kF,kG,kH,kI,kJ,kK]at *))<;>omega)
theorem zDua {f6:List Tp} {f7:Int} {k_exit_0:It36→Option R}:∀ {n:Nat} {f8:Int} {fc:It36},(f7=(f6.length:Int))→(0≤f8)→(f6.length≤1000000000)→(f8≤f7)→(f7≤70)→(∀t∈fc.1.1,TyOk t)→(Cn (fc.1) (70) (f8))→(f7-f8).toNat<n→(∀(w0:It36),(∀t∈w0.1.1,TyOk t)→(Cn (w0.1) (70) (70))→Φ (k_exit_0 w0))→Φ (loopN (zAda k_exit_0) n ⟨f6,f7,f8,fc⟩):=by
 intro n; induction n; intros; omega; rename_i n ih; intro f8 fc i0 i1 i2 i3 i4 i5 i6 hm q0;rw[zaaa];unfold zAda
 try dsimp only
 refine kL (λ_=>zG3a ?_ ?_ ?_ ?_ (λ_ _ _=>ih ?_ ?_ ?_ ?_ ?_ ?_ ?_ ?_ q0)) λ_=>q0 _ ?_ ?_
 all_goals first|with_reducible assumption|omega|with_reducible exact (zuaa _).1|with_reducible exact (zuaa _).2|rfl|(simp (disch:=omega) only[Cn,kA,kB,kC,kD,kE,kF,kG,kH,kI,kJ,kK]<;>omega)|((iterate 2 (try simp (disch:=omega) only[Cn,kA,kB,kC,kD,kE,kF,kG,kH,kI,kJ,kK]at *))<;>omega)
theorem zgAa {a0:It36} {a1:List Tp} {K:It36→Option R} (p0:a1.length≤70) (p1:∀t∈a0.1.1,TyOk t) (p2:Cn (a0.1) (70) (0)) (hk:∀(r0:It36),(∀t∈r0.1.1,TyOk t)→(Cn (r0.1) (70) (70))→Φ (K r0)):Φ (zgea a0 a1 K):=by
 unfold zgea
 try dsimp only
 refine zDua ?_ ?_ ?_ ?_ ?_ ?_ ?_ (zdaa ?_) (λ_ _ _=>hk _ ?_ ?_)
 all_goals omega
theorem zN3a {f3:It21} {f13:List Tf} {f14 f15:Int} {fc:It36} {k_normal:It21→List Tf→Int→Int→It36→Option R} (p0:0≤f15∧f15<f13.length) (p1:f15≤70) (p2:∀t∈fc.1.1,TyOk t) (p3:Cn (fc.1) (70) (70+f15)) (q0:(∀(w4:It36),(∀t∈w4.1.1,TyOk t)→(Cn (w4.1) (70) (70+f15+1))→Φ (k_normal f3 f13 f14 f15 w4))):Φ (zJka k_normal ⟨f3,f13,f14,f15,fc⟩):=by
 unfold zJka zKka
 try dsimp only
 try simp only[zKaa]
 refine kP ?_ λ_=>zFja λ_ _=>zgaa (n:=70+f15) ?_ ?_ λ_ _ _=>kY ?_<|q0 _ ?_ ?_
 all_goals first|with_reducible assumption|omega|with_reducible exact (zuaa _).1|with_reducible exact (zuaa _).2|rfl|(simp (disch:=omega) only[Cn,kA,kB,kC,kD,kE,kF,kG,kH,kI,kJ,kK]<;>omega)|((iterate 2 (try simp (disch:=omega) only[Cn,kA,kB,kC,kD,kE,kF,kG,kH,kI,kJ,kK]at *))<;>omega)
theorem zYCa {f3:It21} {f13:List Tf} {f14:Int} {k_exit_0:It21→It36→Option R}:∀ {n:Nat} {f15:Int} {fc:It36},(f14=(f13.length:Int))→(0≤f15)→(f13.length≤1000000000)→(f15≤f14)→(f14≤70)→(∀t∈fc.1.1,TyOk t)→(Cn (fc.1) (70) (70+f15))→(f14-f15).toNat<n→(∀(w1:It36),(∀t∈w1.1.1,TyOk t)→(Cn (w1.1) (70) (140))→Φ (k_exit_0 f3 w1))→Φ (loopN (zBga k_exit_0) n ⟨f3,f13,f14,f15,fc⟩):=by
 intro n; induction n; intros; omega; rename_i n ih; intro f15 fc i0 i1 i2 i3 i4 i5 i6 hm q0;rw[zaaa];unfold zBga
 try dsimp only
 refine kL (λ_=>zN3a ?_ ?_ ?_ ?_ (λ_ _ _=>ih ?_ ?_ ?_ ?_ ?_ ?_ ?_ ?_ q0)) λ_=>q0 _ ?_ ?_
 all_goals first|with_reducible assumption|omega|with_reducible exact (zuaa _).1|with_reducible exact (zuaa _).2|rfl|(simp (disch:=omega) only[Cn,kA,kB,kC,kD,kE,kF,kG,kH,kI,kJ,kK]<;>omega)|((iterate 2 (try simp (disch:=omega) only[Cn,kA,kB,kC,kD,kE,kF,kG,kH,kI,kJ,kK]at *))<;>omega)
theorem zL3a {f3:It21} {f45:List Tm} {f46 f47:Int} {fc:It36} {k_normal:It21→List Tm→Int→Int→It36→Option R} (p0:0≤f47∧f47<f45.length) (p1:f47≤70) (p2:∀t∈fc.1.1,TyOk t) (p3:Cn (fc.1) (70) (140+f47)) (q0:(∀(w4:It36),(∀t∈w4.1.1,TyOk t)→(Cn (w4.1) (70) (140+f47+1))→Φ (k_normal f3 f45 f46 f47 w4))):Φ (zfja k_normal ⟨f3,f45,f46,f47,fc⟩):=by
 unfold zfja zgja
 try dsimp only
 try simp only[zKaa]
 refine kP ?_ λ_=>zQza λ_=>zQza λ_=>zgaa (n:=140+f47) ?_ ?_ λ_ _ _=>kY ?_<|q0 _ ?_ ?_
 all_goals first|with_reducible assumption|omega|with_reducible exact (zuaa _).1|with_reducible exact (zuaa _).2|rfl|(simp (disch:=omega) only[Cn,kA,kB,kC,kD,kE,kF,kG,kH,kI,kJ,kK]<;>omega)|((iterate 2 (try simp (disch:=omega) only[Cn,kA,kB,kC,kD,kE,kF,kG,kH,kI,kJ,kK]at *))<;>omega)
theorem zXCa {f3:It21} {f45:List Tm} {f46:Int} {k_exit_2:It21→It36→Option R}:∀ {n:Nat} {f47:Int} {fc:It36},(f46=(f45.length:Int))→(0≤f47)→(f45.length≤1000000000)→(f47≤f46)→(f46≤70)→(∀t∈fc.1.1,TyOk t)→(Cn (fc.1) (70) (140+f47))→(f46-f47).toNat<n→(∀(w1:It36),(∀t∈w1.1.1,TyOk t)→(Cn (w1.1) (70) (210))→Φ (k_exit_2 f3 w1))→Φ (loopN (zAga k_exit_2) n ⟨f3,f45,f46,f47,fc⟩):=by
 intro n; induction n; intros; omega; rename_i n ih; intro f47 fc i0 i1 i2 i3 i4 i5 i6 hm q0;rw[zaaa];unfold zAga
 try dsimp only
 refine kL (λ_=>zL3a ?_ ?_ ?_ ?_ (λ_ _ _=>ih ?_ ?_ ?_ ?_ ?_ ?_ ?_ ?_ q0)) λ_=>q0 _ ?_ ?_
 all_goals first|with_reducible assumption|omega|with_reducible exact (zuaa _).1|with_reducible exact (zuaa _).2|rfl|(simp (disch:=omega) only[Cn,kA,kB,kC,kD,kE,kF,kG,kH,kI,kJ,kK]<;>omega)|((iterate 2 (try simp (disch:=omega) only[Cn,kA,kB,kC,kD,kE,kF,kG,kH,kI,kJ,kK]at *))<;>omega)
theorem zK3a {f3:It21} {f72:List Tm} {f73 f74:Int} {fc:It36} {k_normal:It21→List Tm→Int→Int→It36→Option R} (p0:0≤f74∧f74<f72.length) (p1:f74≤70) (p2:∀t∈fc.1.1,TyOk t) (p3:Cn (fc.1) (70) (210+f74)) (q0:(∀(w4:It36),(∀t∈w4.1.1,TyOk t)→(Cn (w4.1) (70) (210+f74+1))→Φ (k_normal f3 f72 f73 f74 w4))):Φ (zdja k_normal ⟨f3,f72,f73,f74,fc⟩):=by
 unfold zdja zeja
 try dsimp only
 try simp only[zKaa]
 refine kP ?_ λ_=>zwua λ_=>zwua λ_=>zgaa (n:=210+f74) ?_ ?_ λ_ _ _=>kY ?_<|q0 _ ?_ ?_
 all_goals first|with_reducible assumption|omega|with_reducible exact (zuaa _).1|with_reducible exact (zuaa _).2|rfl|(simp (disch:=omega) only[Cn,kA,kB,kC,kD,kE,kF,kG,kH,kI,kJ,kK]<;>omega)|((iterate 2 (try simp (disch:=omega) only[Cn,kA,kB,kC,kD,kE,kF,kG,kH,kI,kJ,kK]at *))<;>omega)
theorem zpAa {f3:It21} {f72:List Tm} {f73:Int} {k_exit_4:It21→It36→Option R}:∀ {n:Nat} {f74:Int} {fc:It36},(f73=(f72.length:Int))→(0≤f74)→(f72.length≤1000000000)→(f74≤f73)→(f73≤70)→(∀t∈fc.1.1,TyOk t)→(Cn (fc.1) (70) (210+f74))→(f73-f74).toNat<n→(∀(w1:It36),(∀t∈w1.1.1,TyOk t)→(Cn (w1.1) (70) (280))→Φ (k_exit_4 f3 w1))→Φ (loopN (zkfa k_exit_4) n ⟨f3,f72,f73,f74,fc⟩):=by
 intro n; induction n; intros; omega; rename_i n ih; intro f74 fc i0 i1 i2 i3 i4 i5 i6 hm q0;rw[zaaa];unfold zkfa
 try dsimp only
 refine kL (λ_=>zK3a ?_ ?_ ?_ ?_ (λ_ _ _=>ih ?_ ?_ ?_ ?_ ?_ ?_ ?_ ?_ q0)) λ_=>q0 _ ?_ ?_
 all_goals first|with_reducible assumption|omega|with_reducible exact (zuaa _).1|with_reducible exact (zuaa _).2|rfl|(simp (disch:=omega) only[Cn,kA,kB,kC,kD,kE,kF,kG,kH,kI,kJ,kK]<;>omega)|((iterate 2 (try simp (disch:=omega) only[Cn,kA,kB,kC,kD,kE,kF,kG,kH,kI,kJ,kK]at *))<;>omega)
theorem zyua {a0:List Tq×Tl×It2} {a1:Tj} {a2:Int} {K:Bool→Option R} (hk:∀(r0:Bool),Φ (K r0)):Φ (zvha a0 a1 a2 K):=by
 unfold zvha
 try dsimp only
 refine kN (λ_=>hk _) λ_=>kP ?_ λ_=>kN (λ_=>hk _) λ_=>kP ?_ λ_=>kM (λ_=>hk _) λ_=>kM (λ_=>hk _) λ_=>kM (λ_=>zFja λ_ _=>kO (λ_=>kP ?_ λ_=>hk _) λ_=>hk _) λ_=>hk _
 all_goals first|with_reducible assumption|omega|with_reducible exact (zuaa _).1|with_reducible exact (zuaa _).2|rfl|(simp (disch:=omega) only[Cn,kA,kB,kC,kD,kE,kF,kG,kH,kI,kJ,kK]<;>omega)|((iterate 2 (try simp (disch:=omega) only[Cn,kA,kB,kC,kD,kE,kF,kG,kH,kI,kJ,kK]at *))<;>omega)|with_reducible exact zG2a (by assumption) (by assumption)
theorem zJ3a {f117:List Tg} {f118 f119:Int} {fc:It36} {k_normal:List Tg→Int→Int→It36→Option R} (p0:0≤f119∧f119<f117.length) (p1:f119≤70) (p2:∀t∈fc.1.1,TyOk t) (p3:Cn (fc.1) (70) (280+f119)) (q0:(∀(w3:It36),(∀t∈w3.1.1,TyOk t)→(Cn (w3.1) (70) (280+f119+1))→Φ (k_normal f117 f118 f119 w3))):Φ (zbja k_normal ⟨f117,f118,f119,fc⟩):=by
 unfold zbja zcja
 try dsimp only
 try simp only[zKaa]
 refine kP ?_ λ_=>zyua λ_=>zgaa (n:=280+f119) ?_ ?_ λ_ _ _=>kY ?_<|q0 _ ?_ ?_
 all_goals first|with_reducible assumption|omega|with_reducible exact (zuaa _).1|with_reducible exact (zuaa _).2|rfl|(simp (disch:=omega) only[Cn,kA,kB,kC,kD,kE,kF,kG,kH,kI,kJ,kK]<;>omega)|((iterate 2 (try simp (disch:=omega) only[Cn,kA,kB,kC,kD,kE,kF,kG,kH,kI,kJ,kK]at *))<;>omega)
theorem zoAa {f117:List Tg} {f118:Int} {k_exit_6:It36→Option R}:∀ {n:Nat} {f119:Int} {fc:It36},(f118=(f117.length:Int))→(0≤f119)→(f117.length≤1000000000)→(f119≤f118)→(f118≤70)→(∀t∈fc.1.1,TyOk t)→(Cn (fc.1) (70) (280+f119))→(f118-f119).toNat<n→(∀(w0:It36),(∀t∈w0.1.1,TyOk t)→(Cn (w0.1) (70) (350))→Φ (k_exit_6 w0))→Φ (loopN (zjfa k_exit_6) n ⟨f117,f118,f119,fc⟩):=by
 intro n; induction n; intros; omega; rename_i n ih; intro f119 fc i0 i1 i2 i3 i4 i5 i6 hm q0;rw[zaaa];unfold zjfa
 try dsimp only
 refine kL (λ_=>zJ3a ?_ ?_ ?_ ?_ (λ_ _ _=>ih ?_ ?_ ?_ ?_ ?_ ?_ ?_ ?_ q0)) λ_=>q0 _ ?_ ?_
 all_goals first|with_reducible assumption|omega|with_reducible exact (zuaa _).1|with_reducible exact (zuaa _).2|rfl|(simp (disch:=omega) only[Cn,kA,kB,kC,kD,kE,kF,kG,kH,kI,kJ,kK]<;>omega)|((iterate 2 (try simp (disch:=omega) only[Cn,kA,kB,kC,kD,kE,kF,kG,kH,kI,kJ,kK]at *))<;>omega)
theorem zyIa {a0:It36} {a1:It21} {K:It36→Option R} (p0:SM a1) (p1:∀t∈a0.1.1,TyOk t) (p2:Cn (a0.1) (70) (70)) (hk:∀(r0:It36),(∀t∈r0.1.1,TyOk t)→(Cn (r0.1) (70) (350))→Φ (K r0)):Φ (zyia a0 a1 K):=by
 have z:=p0.rows;unfold zyia
 try dsimp only
 refine zYCa ?_ ?_ ?_ ?_ ?_ ?_ ?_ (zdaa ?_) (λ_ _ _=>zXCa ?_ ?_ ?_ ?_ ?_ ?_ ?_ (zdaa ?_) (λ_ _ _=>zpAa ?_ ?_ ?_ ?_ ?_ ?_ ?_ (zdaa ?_) (λ_ _ _=>zgaa (n:=280) ?_ ?_ λ_ _ _=>zgaa (n:=280) ?_ ?_ λ_ _ _=>zoAa ?_ ?_ ?_ ?_ ?_ ?_ ?_ (zdaa ?_) (λ_ _ _=>hk _ ?_ ?_))))
 all_goals omega
theorem zhna {f1:List Tx} {f4:Tl} {f6:Tx} {f32:List Tx} {f33 f34:Int} {f76:List Tx} {f83:Int} {fc:It36} {k_ret:List Tx→Tl→Tx→List Tx→Int→Int→Int→It36→Option R} {k_exit_0:List Tx→Tl→Tx→List Tx→Int→Int→It36→Option R}:∀ {n:Nat} {f84:Int},(f83=(f76.length:Int))→(0≤f84)→(f76.length≤1000000000)→(f84≤f83)→(f83-f84).toNat<n→(∀(w6:Int),Φ (k_ret f1 f4 f6 f32 f33 f34 w6 fc))→(Φ (k_exit_0 f1 f4 f6 f32 f33 f34 fc))→Φ (loopN (zVba k_ret k_exit_0) n ⟨f1,f4,f6,f32,f33,f34,f76,f83,f84,fc⟩):=by
 intro n; induction n; intros; omega; rename_i n ih; intro f84 i0 i1 i2 i3 hm q0 q1;rw[zaaa];unfold zVba
 try dsimp only
 refine kL (λ_=>kP ?_ λ_=>kM (λ_=>q0 _) λ_=>ih ?_ ?_ ?_ ?_ ?_ q0 q1) λ_=>q1
 all_goals first|omega|assumption|(simp (disch:=omega) only[kA,kB,kC,kD,kE,kF,kG,kH,kI,kJ,kK]<;>omega)
theorem zF3a {f1:List Tx} {f4:Tl} {f32:List Tx} {f33 f34:Int} {fc:It36} {k_normal:List Tx→Tl→List Tx→Int→Int→It36→Option R} (p0:0≤f34∧f34<f32.length) (p1:f4.length=4) (p2:f34≤f1.length) (p3:f1.length≤1000000000) (p4:∀t∈fc.1.1,TyOk t) (p5:Cn (fc.1) (70) (350)) (q0:(∀(w5:It36),(∀t∈w5.1.1,TyOk t)→(Cn (w5.1) (70) (350))→Φ (k_normal f1 f4 f32 f33 f34 w5))):Φ (zyea k_normal ⟨f1,f4,f32,f33,f34,fc⟩):=by
 unfold zyea
 try dsimp only
 try simp only[zKaa]
 refine kP ?_ λ_=>kQ ?_ λ_=>zhna ?_ ?_ ?_ ?_ (zdaa ?_) (λ_=>zgaa (n:=350) ?_ ?_ λ_ _ _=>zFja λ_ _=>kO (λ_=>kP ?_ λ_=>zFja λ_ _=>zgaa (n:=350) ?_ ?_ λ_ _ _=>q0 _ ?_ ?_) λ_=>zgaa (n:=350) ?_ ?_ λ_ _ _=>q0 _ ?_ ?_) (zgaa (n:=350) ?_ ?_ λ_ _ _=>zFja λ_ _=>kO (λ_=>kP ?_ λ_=>zFja λ_ _=>zgaa (n:=350) ?_ ?_ λ_ _ _=>q0 _ ?_ ?_) λ_=>zgaa (n:=350) ?_ ?_ λ_ _ _=>q0 _ ?_ ?_)
 all_goals first|with_reducible exact mm4 (by assumption)|with_reducible assumption|omega|with_reducible exact (zuaa _).1|with_reducible exact (zuaa _).2|rfl|(simp (disch:=omega) only[Cn,kA,kB,kC,kD,kE,kF,kG,kH,kI,kJ,kK]<;>omega)|((iterate 2 (try simp (disch:=omega) only[Cn,kA,kB,kC,kD,kE,kF,kG,kH,kI,kJ,kK]at *))<;>omega)
theorem zzsa {f1:List Tx} {f4:Tl} {f32:List Tx} {f33:Int} {k_exit_0:It36→Option R}:∀ {n:Nat} {f34:Int} {fc:It36},(f33=(f32.length:Int))→(0≤f34)→(f32.length≤1000000000)→(f34≤f33)→(f4.length=4)→(f1=f32)→(∀t∈fc.1.1,TyOk t)→(Cn (fc.1) (70) (350))→(f33-f34).toNat<n→(∀(w0:It36),(∀t∈w0.1.1,TyOk t)→(Cn (w0.1) (70) (350))→Φ (k_exit_0 w0))→Φ (loopN (zSca k_exit_0) n ⟨f1,f4,f32,f33,f34,fc⟩):=by
 intro n; induction n; intros; omega; rename_i n ih; intro f34 fc i0 i1 i2 i3 i4 i5 i6 i7 hm q0;rw[zaaa];unfold zSca
 try dsimp only
 refine kL (λ_=>zF3a ?_ ?_ ?_ ?_ ?_ ?_ (λ_ _ _=>ih ?_ ?_ ?_ ?_ ?_ ?_ ?_ ?_ ?_ q0)) λ_=>q0 _ ?_ ?_
 all_goals first|with_reducible exact mm4 (by assumption)|with_reducible assumption|omega|with_reducible exact (zuaa _).1|with_reducible exact (zuaa _).2|rfl|(simp (disch:=omega) only[Cn,kA,kB,kC,kD,kE,kF,kG,kH,kI,kJ,kK]<;>omega)|((iterate 2 (try simp (disch:=omega) only[Cn,kA,kB,kC,kD,kE,kF,kG,kH,kI,kJ,kK]at *))<;>omega)|(subst i5; omega)
theorem zYwa {a0:It36} {a1:List Tx} {K:It36→Option R} (p0:a1.length≤70) (p1:∀t∈a0.1.1,TyOk t) (p2:Cn (a0.1) (70) (350)) (hk:∀(r0:It36),(∀t∈r0.1.1,TyOk t)→(Cn (r0.1) (70) (350))→Φ (K r0)):Φ (zuda a0 a1 K):=by
 unfold zuda
 try dsimp only
 try simp only[zKaa]
 refine zzsa ?_ ?_ ?_ ?_ ?_ ?_ ?_ ?_ (zdaa ?_) (λ_ _ _=>hk _ ?_ ?_)
 all_goals first|omega|assumption|(simp (disch:=omega) only[kA,kB,kC,kD,kE,kF,kG,kH,kI,kJ,kK]<;>omega)
theorem zdXa {a0:List Tq×Tl×It2} {a1:Int} {K:Tq→Bool→Option R} (p0:∀t∈a0.1,TyOk t) (hk:∀(r0:Tq) (r1:Bool),Φ (K r0 r1)):Φ (zPga a0 a1 K):=by
 have ⟨g,g2⟩:=tget p0 (List.getD a0.2.1 a1.toNat (0:Int)).toNat;unfold zPga
 try dsimp only
 refine zFja λ_ _=>kU (kO (λ_=>kP ?_ λ_=>zFja λ_ _=>kU (kO (λ_=>kP ?_ λ_=>kP ?_ λ_=>zpKa ?_ ?_ λ_ _ _=>hk _ _) λ_=>hk _ _)) λ_=>hk _ _)
 all_goals first|with_reducible assumption|omega|with_reducible exact (zuaa _).1|with_reducible exact (zuaa _).2|rfl|(simp (disch:=omega) only[Cn,kA,kB,kC,kD,kE,kF,kG,kH,kI,kJ,kK]<;>omega)|((iterate 2 (try simp (disch:=omega) only[Cn,kA,kB,kC,kD,kE,kF,kG,kH,kI,kJ,kK]at *))<;>omega)|with_reducible exact zc1a (by assumption) (by assumption)
theorem zQTa {f1:It21} {f2:List Tq×Tl×It2} {f70:Tl} {f71:Int} {k_exit_2:It21→List Tq×Tl×It2→It36→Option R}:∀ {n:Nat} {f4:It36} {f72:Int},(f71=(f70.length:Int))→(0≤f72)→(f70.length≤1000000000)→(f72≤f71)→(∀t∈f4.1.1,TyOk t)→(Cn (f4.1) (70) (350))→(f71-f72).toNat<n→(∀(w2:It36),(∀t∈w2.1.1,TyOk t)→(Cn (w2.1) (70) (350))→Φ (k_exit_2 f1 f2 w2))→Φ (loopN (zfAa k_exit_2) n ⟨f1,f2,f4,f70,f71,f72⟩):=by
 intro n; induction n; intros; omega; rename_i n ih; intro f4 f72 i0 i1 i2 i3 i4 i5 hm q0;rw[zaaa];unfold zfAa
 try dsimp only
 refine kL (λ_=>kP ?_ λ_=>zdXa ?_ λ_ _=>zgaa (n:=350) ?_ ?_ λ_ _ _=>zgaa (n:=350) ?_ ?_ λ_ _ _=>ih ?_ ?_ ?_ ?_ ?_ ?_ ?_ q0) λ_=>q0 _ ?_ ?_
 all_goals first|omega|assumption|(simp (disch:=omega) only[kA,kB,kC,kD,kE,kF,kG,kH,kI,kJ,kK]<;>omega)
theorem zAea {f3:It21} {f9:List Te} {f10 f11:Int} {f84:Tl} {f91:Int} {fc:It36} {k_ret:It21→List Te→Int→Int→Int→It36→Option R} {k_exit_0:It21→List Te→Int→Int→It36→Option R}:∀ {n:Nat} {f92:Int},(f91=(f84.length:Int))→(0≤f92)→(f84.length≤1000000000)→(f92≤f91)→(f91-f92).toNat<n→(∀(w4:Int),Φ (k_ret f3 f9 f10 f11 w4 fc))→(Φ (k_exit_0 f3 f9 f10 f11 fc))→Φ (loopN (zhba k_ret k_exit_0) n ⟨f3,f9,f10,f11,f84,f91,f92,fc⟩):=by
 intro n; induction n; intros; omega; rename_i n ih; intro f92 i0 i1 i2 i3 hm q0 q1;rw[zaaa];unfold zhba
 try dsimp only
 refine kL (λ_=>kP ?_ λ_=>kN (λ_=>zFja λ_ _=>kU (kO (λ_=>ih ?_ ?_ ?_ ?_ ?_ q0 q1) λ_=>q0 _)) λ_=>ih ?_ ?_ ?_ ?_ ?_ q0 q1) λ_=>q1
 all_goals first|omega|assumption|(simp (disch:=omega) only[kA,kB,kC,kD,kE,kF,kG,kH,kI,kJ,kK]<;>omega)
theorem zkra {f3:It21} {f9:List Te} {f10:Int} {k_exit_0:It21→It36→Option R}:∀ {n:Nat} {f11:Int} {fc:It36},(f10=(f9.length:Int))→(0≤f11)→(f9.length≤1000000000)→(f11≤f10)→(∀y∈f9,ElOk y)→(∀t∈fc.1.1,TyOk t)→(Cn (fc.1) (70) (350))→(f10-f11).toNat<n→(∀(w1:It36),(∀t∈w1.1.1,TyOk t)→(Cn (w1.1) (70) (350))→Φ (k_exit_0 f3 w1))→Φ (loopN (zyca k_exit_0) n ⟨f3,f9,f10,f11,fc⟩):=by
 intro n; induction n; intros; omega; rename_i n ih; intro f11 fc i0 i1 i2 i3 i4 i5 i6 hm q0;have ⟨g,g2⟩:=eget i4 f11.toNat;rw[zaaa];unfold zyca
 try dsimp only
 refine kL (λ_=>kP ?_ λ_=>kM (λ_=>zgaa (n:=350) ?_ ?_ λ_ _ _=>zyua λ_=>zgaa (n:=350) ?_ ?_ λ_ _ _=>zAea ?_ ?_ ?_ ?_ (zdaa ?_) (λ_=>zgaa (n:=350) ?_ ?_ λ_ _ _=>ih ?_ ?_ ?_ ?_ ?_ ?_ ?_ ?_ q0) (zgaa (n:=350) ?_ ?_ λ_ _ _=>ih ?_ ?_ ?_ ?_ ?_ ?_ ?_ ?_ q0)) λ_=>zAea ?_ ?_ ?_ ?_ (zdaa ?_) (λ_=>zgaa (n:=350) ?_ ?_ λ_ _ _=>ih ?_ ?_ ?_ ?_ ?_ ?_ ?_ ?_ q0) (zgaa (n:=350) ?_ ?_ λ_ _ _=>ih ?_ ?_ ?_ ?_ ?_ ?_ ?_ ?_ q0)) λ_=>q0 _ ?_ ?_
 all_goals first|omega|assumption|(simp (disch:=omega) only[kA,kB,kC,kD,kE,kF,kG,kH,kI,kJ,kK]<;>omega)
theorem zwpa {f45:List Te} {f46:Int} {k_exit_2:It36→Option R}:∀ {n:Nat} {f47:Int} {fc:It36},(f46=(f45.length:Int))→(0≤f47)→(f45.length≤1000000000)→(f47≤f46)→(∀t∈fc.1.1,TyOk t)→(Cn (fc.1) (70) (350))→(f46-f47).toNat<n→(∀(w0:It36),(∀t∈w0.1.1,TyOk t)→(Cn (w0.1) (70) (350))→Φ (k_exit_2 w0))→Φ (loopN (zlca k_exit_2) n ⟨f45,f46,f47,fc⟩):=by
 intro n; induction n; intros; omega; rename_i n ih; intro f47 fc i0 i1 i2 i3 i4 i5 hm q0;rw[zaaa];unfold zlca
 try dsimp only
 refine kL (λ_=>kP ?_ λ_=>kM (λ_=>zgaa (n:=350) ?_ ?_ λ_ _ _=>zyua λ_=>zgaa (n:=350) ?_ ?_ λ_ _ _=>ih ?_ ?_ ?_ ?_ ?_ ?_ ?_ q0) λ_=>ih ?_ ?_ ?_ ?_ ?_ ?_ ?_ q0) λ_=>q0 _ ?_ ?_
 all_goals first|omega|assumption|(simp (disch:=omega) only[kA,kB,kC,kD,kE,kF,kG,kH,kI,kJ,kK]<;>omega)
theorem zxua {a0:It36} {a1:It21} {K:It36→Option R} (p0:SM a1) (p1:∀t∈a0.1.1,TyOk t) (p2:Cn (a0.1) (70) (350)) (hk:∀(r0:It36),(∀t∈r0.1.1,TyOk t)→(Cn (r0.1) (70) (350))→Φ (K r0)):Φ (zYca a0 a1 K):=by
 have ⟨z,y1,y2,y3,y4,y5,y6,y7,y8⟩:=p0;unfold zYca
 try dsimp only
 refine zkra ?_ ?_ ?_ ?_ ?_ ?_ ?_ (zdaa ?_) (λ_ _ _=>zwpa ?_ ?_ ?_ ?_ ?_ ?_ (zdaa ?_) (λ_ _ _=>hk _ ?_ ?_))
 all_goals omega
theorem zPTa {f2:List Tq×Tl×It2} {f103:List Tf} {f104:Int} {k_exit_4:List Tq×Tl×It2→It36→Option R}:∀ {n:Nat} {f4:It36} {f105:Int},(f104=(f103.length:Int))→(0≤f105)→(f103.length≤1000000000)→(f105≤f104)→(∀t∈f4.1.1,TyOk t)→(Cn (f4.1) (70) (350))→(f104-f105).toNat<n→(∀(w1:It36),(∀t∈w1.1.1,TyOk t)→(Cn (w1.1) (70) (350))→Φ (k_exit_4 f2 w1))→Φ (loopN (zeAa k_exit_4) n ⟨f2,f4,f103,f104,f105⟩):=by
 intro n; induction n; intros; omega; rename_i n ih; intro f4 f105 i0 i1 i2 i3 i4 i5 hm q0;rw[zaaa];unfold zeAa ztHa
 try dsimp only
 refine kL (λ_=>kP ?_ λ_=>zFja λ_ _=>kO (λ_=>kP ?_ λ_=>zgaa (n:=350) ?_ ?_ λ_ _ _=>ih ?_ ?_ ?_ ?_ ?_ ?_ ?_ q0) λ_=>ih ?_ ?_ ?_ ?_ ?_ ?_ ?_ q0) λ_=>q0 _ ?_ ?_
 all_goals first|with_reducible assumption|omega|with_reducible exact (zuaa _).1|with_reducible exact (zuaa _).2|rfl|(simp (disch:=omega) only[Cn,kA,kB,kC,kD,kE,kF,kG,kH,kI,kJ,kK]<;>omega)|((iterate 2 (try simp (disch:=omega) only[Cn,kA,kB,kC,kD,kE,kF,kG,kH,kI,kJ,kK]at *))<;>omega)|with_reducible exact zc1a (by assumption) (by assumption)
theorem zg0a {a0:It21} {K:List Tq×Tl×It2→Int→Option R} (p0:SM a0) (hk:∀(r0:List Tq×Tl×It2) (r1:Int),(r1=0→Cn r0 (70) (350))→(∀t∈r0.1,TyOk t)→Φ (K r0 r1)):Φ (zzPa a0 K):=by
 have ⟨z,y1,y2,y3,y4,y5,y6,y7,y8⟩:=p0;unfold zzPa
 try dsimp only
 try simp only[zKaa]
 refine zkWa ?_ ?_ ?_ ?_ ?_ ?_ ?_ ?_ (zdaa ?_) (λ_ _ _=>zgAa ?_ ?_ ?_ λ_ _ _=>zyIa ?_ ?_ ?_ λ_ _ _=>zYwa ?_ ?_ ?_ λ_ _ _=>zQTa ?_ ?_ ?_ ?_ ?_ ?_ (zdaa ?_) (λ_ _ _=>zxua ?_ ?_ ?_ λ_ _ _=>zPTa ?_ ?_ ?_ ?_ ?_ ?_ (zdaa ?_) (λ_ _ _=>kN (λ_=>hk _ _ ?_ ?_) λ_=>hk _ _ ?_ ?_)))
 all_goals first|with_reducible exact zY2a|with_reducible assumption|omega|with_reducible exact (zuaa _).1|with_reducible exact (zuaa _).2|rfl|(simp (disch:=omega) only[Cn,kA,kB,kC,kD,kE,kF,kG,kH,kI,kJ,kK]<;>omega)|((iterate 2 (try simp (disch:=omega) only[Cn,kA,kB,kC,kD,kE,kF,kG,kH,kI,kJ,kK]at *))<;>omega)
theorem zeNa {a0:It21} {K:List Tq×Tl×It2→Bool→Option R} (p0:RawOk a0) (hk:∀(r0:List Tq×Tl×It2) (r1:Bool),(r1=true→SM a0∧(∀t∈r0.1,TyOk t)∧Cn r0 (70) (350))→Φ (K r0 r1)):Φ (zZda a0 K):=by
 unfold zZda
 try dsimp only
 refine zuRa ?_ λ_ _=>kU (kO (λ_=>zhPa ?_ λ_=>kU (kO (λ_=>zg0a ?_ λ_ _ _ _=>hk _ _ ?_) λ_=>hk _ _ ?_)) λ_=>hk _ _ ?_)
 all_goals first|with_reducible assumption|omega|with_reducible exact (zuaa _).1|with_reducible exact (zuaa _).2|rfl|(simp (disch:=omega) only[Cn,kA,kB,kC,kD,kE,kF,kG,kH,kI,kJ,kK]<;>omega)|((iterate 2 (try simp (disch:=omega) only[Cn,kA,kB,kC,kD,kE,kF,kG,kH,kI,kJ,kK]at *))<;>omega)|exact λh=>by cases h|with_reducible exact zc1a (by assumption) (by assumption)|exact zP2a (by assumption) (by assumption) (by assumption) (by assumption)
end Go.Trm.G1
