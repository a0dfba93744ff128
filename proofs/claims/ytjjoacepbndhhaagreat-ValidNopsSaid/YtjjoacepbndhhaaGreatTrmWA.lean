import Derived.Test.YtjjoacepbndhhaaGreatTrmW9h
set_option linter.unusedVariables false
set_option linter.unusedSimpArgs false
namespace Go.Trm.G1
variable {R:Type} {Φ:Option R→Prop}
theorem zLTa {a0 a1:Tq} {K:Bool→Option R} (p0:a0.1.length≤3000) (p1:a0.2.1.length≤3000) (hk:∀(r0:Bool),Φ (K r0)):Φ (zfva a0 a1 K):=by
 unfold zfva
 try dsimp only
 refine zeda ?_ fun _=>zcba (fun _=>zeda ?_ fun _=>hk _) fun _=>hk _
 all_goals omega
theorem zxBa {f2 f3:It21} {k_exit_0:It21→It21→Bool→Option R}:∀ {n:Nat} {f5:Bool} {f6:Int},(0≤f6)→(f2.1.length≤1000000000)→(f6≤f2.1.length)→(SM f2)→(f3.1.length=f2.1.length)→((f2.1.length:Int)-f6).toNat<n→(∀(w2:Bool),Φ (k_exit_0 f2 f3 w2))→Φ (loopN (zUka k_exit_0) n ⟨f2,f3,f5,f6⟩):=by
 intro n
 induction n with
 |zero=>intros; omega
 |succ n ih =>
  intro f5 f6 i0 i1 i2 i3 i4 hm q0;have ⟨z,y1,y2,y3,y4,y5,y6,y7,y8⟩:=i3;have ⟨g,g2⟩:=tget y1 f6.toNat;rw[zaaa];unfold zUka
  try dsimp only
  refine w_dec (fun _=>zcba (fun _=>w_inB ?_ fun _=>w_inB ?_ fun _=>zLTa ?_ ?_ fun _=>ih ?_ ?_ ?_ ?_ ?_ ?_ q0) fun _=>ih ?_ ?_ ?_ ?_ ?_ ?_ q0) fun _=>q0 _
  all_goals first|omega|assumption|(simp (disch:=omega) only[kA,kB,kC,kD,kE,kF,kG,kH,kI,kJ,kK]<;>omega)
theorem zwBa {f2 f3:It21} {k_exit_2:It21→It21→Bool→Option R}:∀ {n:Nat} {f5:Bool} {f7:Int},(0≤f7)→(f2.2.1.length≤1000000000)→(f7≤f2.2.1.length)→(SM f2)→(f3.2.1.length=f2.2.1.length)→((f2.2.1.length:Int)-f7).toNat<n→(∀(w2:Bool),Φ (k_exit_2 f2 f3 w2))→Φ (loopN (zTka k_exit_2) n ⟨f2,f3,f5,f7⟩):=by
 intro n
 induction n with
 |zero=>intros; omega
 |succ n ih =>
  intro f5 f7 i0 i1 i2 i3 i4 hm q0;have ⟨z,y1,y2,y3,y4,y5,y6,y7,y8⟩:=i3;rw[zaaa];unfold zTka
  try dsimp only
  refine w_dec (fun _=>zcba (fun _=>w_inB ?_ fun _=>w_inB ?_ fun _=>ih ?_ ?_ ?_ ?_ ?_ ?_ q0) fun _=>ih ?_ ?_ ?_ ?_ ?_ ?_ q0) fun _=>q0 _
  all_goals first|omega|assumption|(simp (disch:=omega) only[kA,kB,kC,kD,kE,kF,kG,kH,kI,kJ,kK]<;>omega)
theorem zNxa {f2 f3:It21} {k_exit_4:It21→It21→Bool→Option R}:∀ {n:Nat} {f5:Bool} {f8:Int},(0≤f8)→(f2.2.2.1.length≤1000000000)→(f8≤f2.2.2.1.length)→(SM f2)→(f3.2.2.1.length=f2.2.2.1.length)→((f2.2.2.1.length:Int)-f8).toNat<n→(∀(w2:Bool),Φ (k_exit_4 f2 f3 w2))→Φ (loopN (zqia k_exit_4) n ⟨f2,f3,f5,f8⟩):=by
 intro n
 induction n with
 |zero=>intros; omega
 |succ n ih =>
  intro f5 f8 i0 i1 i2 i3 i4 hm q0;have ⟨z,y1,y2,y3,y4,y5,y6,y7,y8⟩:=i3;have ⟨g,g2⟩:=fget y3 f8.toNat;rw[zaaa];unfold zqia
  try dsimp only
  refine w_dec (fun _=>zcba (fun _=>w_inB ?_ fun _=>w_inB ?_ fun _=>w_eq (fun _=>w_inB ?_ fun _=>w_inB ?_ fun _=>zeda ?_ fun _=>zcba (fun _=>w_inB ?_ fun _=>w_inB ?_ fun _=>zRha ?_ fun _=>ih ?_ ?_ ?_ ?_ ?_ ?_ q0) fun _=>ih ?_ ?_ ?_ ?_ ?_ ?_ q0) fun _=>ih ?_ ?_ ?_ ?_ ?_ ?_ q0) fun _=>ih ?_ ?_ ?_ ?_ ?_ ?_ q0) fun _=>q0 _
  all_goals first|omega|assumption|(simp (disch:=omega) only[kA,kB,kC,kD,kE,kF,kG,kH,kI,kJ,kK]<;>omega)
theorem zMxa {f2 f3:It21} {k_exit_6:It21→It21→Bool→Option R}:∀ {n:Nat} {f5:Bool} {f9:Int},(0≤f9)→(f2.2.2.2.1.length≤1000000000)→(f9≤f2.2.2.2.1.length)→(SM f2)→(f3.2.2.2.1.length=f2.2.2.2.1.length)→((f2.2.2.2.1.length:Int)-f9).toNat<n→(∀(w2:Bool),Φ (k_exit_6 f2 f3 w2))→Φ (loopN (zpia k_exit_6) n ⟨f2,f3,f5,f9⟩):=by
 intro n
 induction n with
 |zero=>intros; omega
 |succ n ih =>
  intro f5 f9 i0 i1 i2 i3 i4 hm q0;have ⟨z,y1,y2,y3,y4,y5,y6,y7,y8⟩:=i3;rw[zaaa];unfold zpia
  try dsimp only
  refine w_dec (fun _=>zcba (fun _=>w_inB ?_ fun _=>w_inB ?_ fun _=>ih ?_ ?_ ?_ ?_ ?_ ?_ q0) fun _=>ih ?_ ?_ ?_ ?_ ?_ ?_ q0) fun _=>q0 _
  all_goals first|omega|assumption|(simp (disch:=omega) only[kA,kB,kC,kD,kE,kF,kG,kH,kI,kJ,kK]<;>omega)
theorem zLxa {f2 f3:It21} {k_exit_8:It21→It21→Bool→Option R}:∀ {n:Nat} {f5:Bool} {f10:Int},(0≤f10)→(f2.2.2.2.2.1.length≤1000000000)→(f10≤f2.2.2.2.2.1.length)→(SM f2)→(f3.2.2.2.2.1.length=f2.2.2.2.2.1.length)→((f2.2.2.2.2.1.length:Int)-f10).toNat<n→(∀(w2:Bool),Φ (k_exit_8 f2 f3 w2))→Φ (loopN (zoia k_exit_8) n ⟨f2,f3,f5,f10⟩):=by
 intro n
 induction n with
 |zero=>intros; omega
 |succ n ih =>
  intro f5 f10 i0 i1 i2 i3 i4 hm q0;have ⟨z,y1,y2,y3,y4,y5,y6,y7,y8⟩:=i3;rw[zaaa];unfold zoia
  try dsimp only
  refine w_dec (fun _=>zcba (fun _=>w_inB ?_ fun _=>w_inB ?_ fun _=>ih ?_ ?_ ?_ ?_ ?_ ?_ q0) fun _=>ih ?_ ?_ ?_ ?_ ?_ ?_ q0) fun _=>q0 _
  all_goals first|omega|assumption|(simp (disch:=omega) only[kA,kB,kC,kD,kE,kF,kG,kH,kI,kJ,kK]<;>omega)
theorem zKxa {f2 f3:It21} {k_exit_10:It21→It21→Bool→Option R}:∀ {n:Nat} {f5:Bool} {f11:Int},(0≤f11)→(f2.2.2.2.2.2.1.length≤1000000000)→(f11≤f2.2.2.2.2.2.1.length)→(SM f2)→(f3.2.2.2.2.2.1.length=f2.2.2.2.2.2.1.length)→((f2.2.2.2.2.2.1.length:Int)-f11).toNat<n→(∀(w2:Bool),Φ (k_exit_10 f2 f3 w2))→Φ (loopN (znia k_exit_10) n ⟨f2,f3,f5,f11⟩):=by
 intro n
 induction n with
 |zero=>intros; omega
 |succ n ih =>
  intro f5 f11 i0 i1 i2 i3 i4 hm q0;have ⟨z,y1,y2,y3,y4,y5,y6,y7,y8⟩:=i3;have g:=gget y4 f11.toNat;rw[zaaa];unfold znia
  try dsimp only
  refine w_dec (fun _=>zcba (fun _=>w_inB ?_ fun _=>w_inB ?_ fun _=>w_eq (fun _=>w_inB ?_ fun _=>w_inB ?_ fun _=>w_eq (fun _=>w_inB ?_ fun _=>w_inB ?_ fun _=>zRha ?_ fun _=>ih ?_ ?_ ?_ ?_ ?_ ?_ q0) fun _=>ih ?_ ?_ ?_ ?_ ?_ ?_ q0) fun _=>ih ?_ ?_ ?_ ?_ ?_ ?_ q0) fun _=>ih ?_ ?_ ?_ ?_ ?_ ?_ q0) fun _=>q0 _
  all_goals first|omega|assumption|(simp (disch:=omega) only[kA,kB,kC,kD,kE,kF,kG,kH,kI,kJ,kK]<;>omega)
theorem zJxa {f2 f3:It21} {k_exit_12:It21→It21→Bool→Option R}:∀ {n:Nat} {f5:Bool} {f12:Int},(0≤f12)→(f2.2.2.2.2.2.2.1.length≤1000000000)→(f12≤f2.2.2.2.2.2.2.1.length)→(SM f2)→(f3.2.2.2.2.2.2.1.length=f2.2.2.2.2.2.2.1.length)→((f2.2.2.2.2.2.2.1.length:Int)-f12).toNat<n→(∀(w2:Bool),Φ (k_exit_12 f2 f3 w2))→Φ (loopN (zmia k_exit_12) n ⟨f2,f3,f5,f12⟩):=by
 intro n
 induction n with
 |zero=>intros; omega
 |succ n ih =>
  intro f5 f12 i0 i1 i2 i3 i4 hm q0;have ⟨z,y1,y2,y3,y4,y5,y6,y7,y8⟩:=i3;rw[zaaa];unfold zmia
  try dsimp only
  refine w_dec (fun _=>zcba (fun _=>w_inB ?_ fun _=>w_inB ?_ fun _=>ih ?_ ?_ ?_ ?_ ?_ ?_ q0) fun _=>ih ?_ ?_ ?_ ?_ ?_ ?_ q0) fun _=>q0 _
  all_goals first|omega|assumption|(simp (disch:=omega) only[kA,kB,kC,kD,kE,kF,kG,kH,kI,kJ,kK]<;>omega)
theorem zIxa {f2 f3:It21} {k_exit_14:It21→It21→Bool→Option R}:∀ {n:Nat} {f5:Bool} {f13:Int},(0≤f13)→(f2.2.2.2.2.2.2.2.2.1.length≤1000000000)→(f13≤f2.2.2.2.2.2.2.2.2.1.length)→(SM f2)→(f3.2.2.2.2.2.2.2.2.1.length=f2.2.2.2.2.2.2.2.2.1.length)→((f2.2.2.2.2.2.2.2.2.1.length:Int)-f13).toNat<n→(∀(w2:Bool),Φ (k_exit_14 f2 f3 w2))→Φ (loopN (zlia k_exit_14) n ⟨f2,f3,f5,f13⟩):=by
 intro n
 induction n with
 |zero=>intros; omega
 |succ n ih =>
  intro f5 f13 i0 i1 i2 i3 i4 hm q0;have ⟨z,y1,y2,y3,y4,y5,y6,y7,y8⟩:=i3;have ⟨g,g2⟩:=eget y6 f13.toNat;rw[zaaa];unfold zlia
  try dsimp only
  refine w_dec (fun _=>zcba (fun _=>w_inB ?_ fun _=>w_inB ?_ fun _=>w_eq (fun _=>w_inB ?_ fun _=>w_inB ?_ fun _=>zRha ?_ fun _=>zcba (fun _=>w_inB ?_ fun _=>w_inB ?_ fun _=>zeda ?_ fun _=>ih ?_ ?_ ?_ ?_ ?_ ?_ q0) fun _=>ih ?_ ?_ ?_ ?_ ?_ ?_ q0) fun _=>ih ?_ ?_ ?_ ?_ ?_ ?_ q0) fun _=>ih ?_ ?_ ?_ ?_ ?_ ?_ q0) fun _=>q0 _
  all_goals first|omega|assumption|(simp (disch:=omega) only[kA,kB,kC,kD,kE,kF,kG,kH,kI,kJ,kK]<;>omega)
theorem zHxa {f2 f3:It21} {k_exit_16:It21→It21→Bool→Option R}:∀ {n:Nat} {f5:Bool} {f14:Int},(0≤f14)→(f2.2.2.2.2.2.2.2.2.2.2.1.length≤1000000000)→(f14≤f2.2.2.2.2.2.2.2.2.2.2.1.length)→(SM f2)→(f3.2.2.2.2.2.2.2.2.2.2.1.length=f2.2.2.2.2.2.2.2.2.2.2.1.length)→((f2.2.2.2.2.2.2.2.2.2.2.1.length:Int)-f14).toNat<n→(∀(w2:Bool),Φ (k_exit_16 f2 f3 w2))→Φ (loopN (zkia k_exit_16) n ⟨f2,f3,f5,f14⟩):=by
 intro n
 induction n with
 |zero=>intros; omega
 |succ n ih =>
  intro f5 f14 i0 i1 i2 i3 i4 hm q0;have ⟨z,y1,y2,y3,y4,y5,y6,y7,y8⟩:=i3;have ⟨g,g2⟩:=eget y7 f14.toNat;rw[zaaa];unfold zkia
  try dsimp only
  refine w_dec (fun _=>zcba (fun _=>w_inB ?_ fun _=>w_inB ?_ fun _=>w_eq (fun _=>w_inB ?_ fun _=>w_inB ?_ fun _=>zRha ?_ fun _=>zcba (fun _=>w_inB ?_ fun _=>w_inB ?_ fun _=>zvua ?_ fun _=>ih ?_ ?_ ?_ ?_ ?_ ?_ q0) fun _=>ih ?_ ?_ ?_ ?_ ?_ ?_ q0) fun _=>ih ?_ ?_ ?_ ?_ ?_ ?_ q0) fun _=>ih ?_ ?_ ?_ ?_ ?_ ?_ q0) fun _=>q0 _
  all_goals first|omega|assumption|(simp (disch:=omega) only[kA,kB,kC,kD,kE,kF,kG,kH,kI,kJ,kK]<;>omega)
theorem zGxa {f2 f3:It21} {k_exit_18:Bool→Option R}:∀ {n:Nat} {f5:Bool} {f15:Int},(0≤f15)→(f2.2.2.2.2.2.2.2.2.2.2.2.1.length≤1000000000)→(f15≤f2.2.2.2.2.2.2.2.2.2.2.2.1.length)→(SM f2)→(f3.2.2.2.2.2.2.2.2.2.2.2.1.length=f2.2.2.2.2.2.2.2.2.2.2.2.1.length)→((f2.2.2.2.2.2.2.2.2.2.2.2.1.length:Int)-f15).toNat<n→(∀(w0:Bool),Φ (k_exit_18 w0))→Φ (loopN (zjia k_exit_18) n ⟨f2,f3,f5,f15⟩):=by
 intro n
 induction n with
 |zero=>intros; omega
 |succ n ih =>
  intro f5 f15 i0 i1 i2 i3 i4 hm q0;have ⟨z,y1,y2,y3,y4,y5,y6,y7,y8⟩:=i3;have ⟨g,g2⟩:=cget y8 f15.toNat;rw[zaaa];unfold zjia
  try dsimp only
  refine w_dec (fun _=>zcba (fun _=>w_inB ?_ fun _=>w_inB ?_ fun _=>w_eq (fun _=>w_inB ?_ fun _=>w_inB ?_ fun _=>zvua ?_ fun _=>ih ?_ ?_ ?_ ?_ ?_ ?_ q0) fun _=>ih ?_ ?_ ?_ ?_ ?_ ?_ q0) fun _=>ih ?_ ?_ ?_ ?_ ?_ ?_ q0) fun _=>q0 _
  all_goals first|omega|assumption|(simp (disch:=omega) only[kA,kB,kC,kD,kE,kF,kG,kH,kI,kJ,kK]<;>omega)
theorem zJTa {a0 a1:It21} {K:Bool→Option R} (p0:SM a0) (hk:∀(r0:Bool),Φ (K r0)):Φ (zdva a0 a1 K):=by
 have z:=p0.rows;unfold zdva
 try dsimp only
 refine w_ne (fun _=>hk _) fun _=>w_ne (fun _=>hk _) fun _=>w_ne (fun _=>hk _) fun _=>w_ne (fun _=>hk _) fun _=>w_ne (fun _=>hk _) fun _=>w_ne (fun _=>hk _) fun _=>w_ne (fun _=>hk _) fun _=>w_ne (fun _=>hk _) fun _=>w_ne (fun _=>hk _) fun _=>w_ne (fun _=>hk _) fun _=>zeda ?_ fun _=>zcba (fun _=>zeda ?_ fun _=>zxBa ?_ ?_ ?_ ?_ ?_ (zdaa ?_) (fun _=>zwBa ?_ ?_ ?_ ?_ ?_ (zdaa ?_) (fun _=>zNxa ?_ ?_ ?_ ?_ ?_ (zdaa ?_) (fun _=>zMxa ?_ ?_ ?_ ?_ ?_ (zdaa ?_) (fun _=>zLxa ?_ ?_ ?_ ?_ ?_ (zdaa ?_) (fun _=>zKxa ?_ ?_ ?_ ?_ ?_ (zdaa ?_) (fun _=>zJxa ?_ ?_ ?_ ?_ ?_ (zdaa ?_) (fun _=>zIxa ?_ ?_ ?_ ?_ ?_ (zdaa ?_) (fun _=>zHxa ?_ ?_ ?_ ?_ ?_ (zdaa ?_) (fun _=>zGxa ?_ ?_ ?_ ?_ ?_ (zdaa ?_) (fun _=>hk _))))))))))) fun _=>zxBa ?_ ?_ ?_ ?_ ?_ (zdaa ?_) (fun _=>zwBa ?_ ?_ ?_ ?_ ?_ (zdaa ?_) (fun _=>zNxa ?_ ?_ ?_ ?_ ?_ (zdaa ?_) (fun _=>zMxa ?_ ?_ ?_ ?_ ?_ (zdaa ?_) (fun _=>zLxa ?_ ?_ ?_ ?_ ?_ (zdaa ?_) (fun _=>zKxa ?_ ?_ ?_ ?_ ?_ (zdaa ?_) (fun _=>zJxa ?_ ?_ ?_ ?_ ?_ (zdaa ?_) (fun _=>zIxa ?_ ?_ ?_ ?_ ?_ (zdaa ?_) (fun _=>zHxa ?_ ?_ ?_ ?_ ?_ (zdaa ?_) (fun _=>zGxa ?_ ?_ ?_ ?_ ?_ (zdaa ?_) (fun _=>hk _))))))))))
 all_goals omega
theorem zhPa {a0:It21} {K:Bool→Option R} (p0:SM a0) (hk:∀(r0:Bool),Φ (K r0)):Φ (zFoa a0 K):=by
 unfold zFoa
 try dsimp only
 refine ztRa ?_ fun _=>w_not (zcba (fun _=>zvRa ?_ fun _ _ _=>w_ne (fun _=>hk _) fun _=>ziPa fun _ _=>w_eq (fun _=>zJTa ?_ fun _=>hk _) fun _=>hk _) fun _=>hk _)
 all_goals omega
theorem zrKa {f1:It21} {f58:Tl} {f59:Int} {k_ret:Bool→Option R} {k_exit_0:It21→Option R}:∀ {n:Nat} {f60:Int},(f59=(f58.length:Int))→(f58.length≤9223372036854775807)→(0≤f60)→(∀j:Nat,(j:Int)<f60→f58.getD j 0≤70)→(f59-f60).toNat<n→(∀(w0:Bool),(w0=false)→Φ (k_ret w0))→((∀y∈f58,y≤70)→Φ (k_exit_0 f1))→Φ (loopN (zsma k_ret k_exit_0) n ⟨f1,f58,f59,f60⟩):=by
 intro n
 induction n with
 |zero=>intros; omega
 |succ n ih =>
  intro f60 i0 i1 i2 i3 hm q0 q1;rw[zaaa];unfold zsma
  try dsimp only
  refine w_dec (fun _=>w_inB ?_ fun _=>w_dec (fun _=>q0 _ ?_) fun _=>ih ?_ ?_ ?_ ?_ ?_ q0 q1) fun _=>q1 ?_
  all_goals first|with_reducible assumption|omega|with_reducible exact (zuaa _).1|with_reducible exact (zuaa _).2|rfl|(simp (disch:=omega) only[kA,kB,kC,kD,kE,kF,kG,kH,kI,kJ,kK]<;>omega)|((iterate 2 (try simp (disch:=omega) only[kA,kB,kC,kD,kE,kF,kG,kH,kI,kJ,kK]at *))<;>omega)|exact zcva (P:=fun y:Int=>y≤70) i2 (by omega) i3 (by omega)|exact ztEa (P:=fun y:Int=>y≤70) i3 (by omega)
theorem zTca {a0 a1:Int} {K:Int→Option R} (p0:a0≤3000) (p1:0≤a1) (hk:∀(r0:Int),(r0≤3000)→(0≤r0→0≤a0∧a1≤3000∧r0=a0+a1)→Φ (K r0)):Φ (zJba a0 a1 K):=by
 unfold zJba
 try dsimp only
 refine w_dec (fun _=>hk _ ?_ ?_) fun _=>w_dec (fun _=>hk _ ?_ ?_) fun _=>w_dec (fun _=>hk _ ?_ ?_) fun _=>hk _ ?_ ?_
 all_goals first|with_reducible assumption|omega|with_reducible exact (zuaa _).1|with_reducible exact (zuaa _).2|rfl|(simp (disch:=omega) only[kA,kB,kC,kD,kE,kF,kG,kH,kI,kJ,kK]<;>omega)|((iterate 2 (try simp (disch:=omega) only[kA,kB,kC,kD,kE,kF,kG,kH,kI,kJ,kK]at *))<;>omega)|(intro _; exact ⟨by omega,by omega,w_i64 (by omega)⟩)
theorem zqKa {Q:Prop} {f1:It21} {f68:List Tq} {f69:Int} {k_exit_2:It21→Int→Option R}:∀ {n:Nat} {f5 f70:Int},(f69=(f68.length:Int))→(f68.length≤9223372036854775807)→(0≤f70)→(f5≤3000)→(0≤f5→Q)→(0≤f5→∀j:Nat,(j:Int)<f70→TyOk (f68.getD j ([],[],())))→(f69-f70).toNat<n→(∀(w1:Int),(w1≤3000)→(0≤w1→Q∧∀y∈f68,TyOk y)→Φ (k_exit_2 f1 w1))→Φ (loopN (zrma k_exit_2) n ⟨f1,f5,f68,f69,f70⟩):=by
 intro n
 induction n with
 |zero=>intros; omega
 |succ n ih =>
  intro f5 f70 i0 i1 i2 i3 i4 i5 hm q0;rw[zaaa];unfold zrma
  try dsimp only
  refine w_dec (fun _=>w_inB ?_ fun _=>zTca ?_ ?_ fun _ _ _=>zTca ?_ ?_ fun _ _ _=>ih ?_ ?_ ?_ ?_ ?_ ?_ ?_ q0) fun _=>q0 _ ?_ ?_
  all_goals first|with_reducible assumption|omega|(simp (disch:=omega) only[w_i64]<;>omega)|exact fun h=>i4 (by omega)|exact fun h=>zcva i2 (by omega) (i5 (by omega)) (⟨by omega,by omega⟩)|exact fun h=>⟨i4 h,ztEa (i5 h) (by omega)⟩
theorem zFIa {Q:Prop} {f1:It21} {f85:List Tp} {f86:Int} {k_exit_4:It21→Int→Option R}:∀ {n:Nat} {f5 f87:Int},(f86=(f85.length:Int))→(f85.length≤9223372036854775807)→(0≤f87)→(f5≤3000)→(0≤f5→Q)→(0≤f5→∀j:Nat,(j:Int)<f87→ImOk (f85.getD j ([],[],0,0,(0,false,0,()),false,())))→(f86-f87).toNat<n→(∀(w1:Int),(w1≤3000)→(0≤w1→Q∧∀y∈f85,ImOk y)→Φ (k_exit_4 f1 w1))→Φ (loopN (zSka k_exit_4) n ⟨f1,f5,f85,f86,f87⟩):=by
 intro n
 induction n with
 |zero=>intros; omega
 |succ n ih =>
  intro f5 f87 i0 i1 i2 i3 i4 i5 hm q0;rw[zaaa];unfold zSka
  try dsimp only
  refine w_dec (fun _=>w_inB ?_ fun _=>zTca ?_ ?_ fun _ _ _=>zTca ?_ ?_ fun _ _ _=>ih ?_ ?_ ?_ ?_ ?_ ?_ ?_ q0) fun _=>q0 _ ?_ ?_
  all_goals first|with_reducible assumption|omega|(simp (disch:=omega) only[w_i64]<;>omega)|exact fun h=>i4 (by omega)|exact fun h=>zcva i2 (by omega) (i5 (by omega)) (⟨by omega,by omega⟩)|exact fun h=>⟨i4 h,ztEa (i5 h) (by omega)⟩
theorem zkEa {A:Int} {f1:Tj} {k_exit_0:Int→Option R}:∀ {n:Nat} {f0 f5:Int},(0≤f5)→(f5≤3000)→(f0≤3000)→(0≤f0→0≤A∧f1.length≤3000∧A+f1.length+lszT f1 f5=f0)→(3001-f5).toNat<n→(∀(w0:Int),(w0≤3000)→(0≤w0→0≤A∧f1.length+lsz f1≤3000)→Φ (k_exit_0 w0))→Φ (loopN (zCha k_exit_0) n ⟨f0,f1,f5⟩):=by
 intro n
 induction n with
 |zero=>intros; omega
 |succ n ih =>
  intro f0 f5 i0 i1 i2 i3 hm q0;have g:=zOVa f1 i0 (by omega);have g1:=zQ0a f1 f5;rw[zaaa];unfold zCha
  try dsimp only
  refine w_dec (fun _=>w_dec (fun _=>w_inB ?_ fun _=>zTca ?_ ?_ fun _ _ _=>ih ?_ ?_ ?_ ?_ ?_ q0) fun _=>q0 _ ?_ ?_) fun _=>q0 _ ?_ ?_
  all_goals first|omega|assumption|(simp (disch:=omega) only[kA,kB,kC,kD,kE,kF,kG,kH,kI,kJ,kK]<;>omega)
theorem zAja {a0:Int} {a1:Tj} {K:Int→Option R} (p0:a0≤3000) (hk:∀(r0:Int),(r0≤3000)→(0≤r0→0≤a0∧a1.length+lsz a1≤3000)→Φ (K r0)):Φ (zhda a0 a1 K):=by
 have g:=zr2a a1;unfold zhda
 try dsimp only
 refine zTca ?_ ?_ fun _ _ _=>zkEa (A:=a0) ?_ ?_ ?_ ?_ (zdaa ?_) (fun _ _ _=>hk _ ?_ ?_)
 all_goals omega
theorem zEIa {Q:Prop} {f1:It21} {f102:List Tf} {f103:Int} {k_exit_6:It21→Int→Option R}:∀ {n:Nat} {f5 f104:Int},(f103=(f102.length:Int))→(f102.length≤9223372036854775807)→(0≤f104)→(f5≤3000)→(0≤f5→Q)→(0≤f5→∀j:Nat,(j:Int)<f104→FnS (f102.getD j (0,[],[],())))→(f103-f104).toNat<n→(∀(w1:Int),(w1≤3000)→(0≤w1→Q∧∀y∈f102,FnS y)→Φ (k_exit_6 f1 w1))→Φ (loopN (zRka k_exit_6) n ⟨f1,f5,f102,f103,f104⟩):=by
 intro n
 induction n with
 |zero=>intros; omega
 |succ n ih =>
  intro f5 f104 i0 i1 i2 i3 i4 i5 hm q0;rw[zaaa];unfold zRka
  try dsimp only
  refine w_dec (fun _=>w_inB ?_ fun _=>zTca ?_ ?_ fun _ _ _=>zAja ?_ fun _ _ _=>ih ?_ ?_ ?_ ?_ ?_ ?_ ?_ q0) fun _=>q0 _ ?_ ?_
  all_goals first|with_reducible assumption|omega|(simp (disch:=omega) only[w_i64]<;>omega)|exact fun h=>i4 (by omega)|exact fun h=>zcva i2 (by omega) (i5 (by omega)) (⟨by omega,by unfold Sz; omega⟩)|exact fun h=>⟨i4 h,ztEa (i5 h) (by omega)⟩
theorem zDIa {Q:Prop} {f1:It21} {f118:List Tg} {f119:Int} {k_exit_8:It21→Int→Option R}:∀ {n:Nat} {f5 f120:Int},(f119=(f118.length:Int))→(f118.length≤9223372036854775807)→(0≤f120)→(f5≤3000)→(0≤f5→Q)→(0≤f5→∀j:Nat,(j:Int)<f120→GvS (f118.getD j (0,false,[],())))→(f119-f120).toNat<n→(∀(w1:Int),(w1≤3000)→(0≤w1→Q∧∀y∈f118,GvS y)→Φ (k_exit_8 f1 w1))→Φ (loopN (zQka k_exit_8) n ⟨f1,f5,f118,f119,f120⟩):=by
 intro n
 induction n with
 |zero=>intros; omega
 |succ n ih =>
  intro f5 f120 i0 i1 i2 i3 i4 i5 hm q0;rw[zaaa];unfold zQka
  try dsimp only
  refine w_dec (fun _=>w_inB ?_ fun _=>zAja ?_ fun _ _ _=>ih ?_ ?_ ?_ ?_ ?_ ?_ ?_ q0) fun _=>q0 _ ?_ ?_
  all_goals first|with_reducible assumption|omega|(simp (disch:=omega) only[w_i64]<;>omega)|exact fun h=>i4 (by omega)|exact fun h=>zcva i2 (by omega) (i5 (by omega)) (by unfold GvS Sz; omega)|exact fun h=>⟨i4 h,ztEa (i5 h) (by omega)⟩
theorem zCIa {Q:Prop} {f1:It21} {f130:List Tx} {f131:Int} {k_exit_10:It21→Int→Option R}:∀ {n:Nat} {f5 f132:Int},(f131=(f130.length:Int))→(f130.length≤9223372036854775807)→(0≤f132)→(f5≤3000)→(0≤f5→Q)→(0≤f5→∀j:Nat,(j:Int)<f132→ExOk (f130.getD j ([],0,0,())))→(f131-f132).toNat<n→(∀(w1:Int),(w1≤3000)→(0≤w1→Q∧∀y∈f130,ExOk y)→Φ (k_exit_10 f1 w1))→Φ (loopN (zPka k_exit_10) n ⟨f1,f5,f130,f131,f132⟩):=by
 intro n
 induction n with
 |zero=>intros; omega
 |succ n ih =>
  intro f5 f132 i0 i1 i2 i3 i4 i5 hm q0;rw[zaaa];unfold zPka
  try dsimp only
  refine w_dec (fun _=>w_inB ?_ fun _=>zTca ?_ ?_ fun _ _ _=>ih ?_ ?_ ?_ ?_ ?_ ?_ ?_ q0) fun _=>q0 _ ?_ ?_
  all_goals first|with_reducible assumption|omega|(simp (disch:=omega) only[w_i64]<;>omega)|exact fun h=>i4 (by omega)|exact fun h=>zcva i2 (by omega) (i5 (by omega)) (by unfold ExOk; omega)|exact fun h=>⟨i4 h,ztEa (i5 h) (by omega)⟩
theorem zBIa {Q:Prop} {f1:It21} {f143:List Te} {f144:Int} {k_exit_12:It21→Int→Option R}:∀ {n:Nat} {f5 f145:Int},(f144=(f143.length:Int))→(f143.length≤9223372036854775807)→(0≤f145)→(f5≤3000)→(0≤f5→Q)→(0≤f5→∀j:Nat,(j:Int)<f145→ElS (f143.getD j (0,[],[],())))→(f144-f145).toNat<n→(∀(w1:Int),(w1≤3000)→(0≤w1→Q∧∀y∈f143,ElS y)→Φ (k_exit_12 f1 w1))→Φ (loopN (zOka k_exit_12) n ⟨f1,f5,f143,f144,f145⟩):=by
 intro n
 induction n with
 |zero=>intros; omega
 |succ n ih =>
  intro f5 f145 i0 i1 i2 i3 i4 i5 hm q0;rw[zaaa];unfold zOka
  try dsimp only
  refine w_dec (fun _=>w_inB ?_ fun _=>zTca ?_ ?_ fun _ _ _=>zAja ?_ fun _ _ _=>ih ?_ ?_ ?_ ?_ ?_ ?_ ?_ q0) fun _=>q0 _ ?_ ?_
  all_goals first|with_reducible assumption|omega|(simp (disch:=omega) only[w_i64]<;>omega)|exact fun h=>i4 (by omega)|exact fun h=>zcva i2 (by omega) (i5 (by omega)) (⟨by unfold Sz; omega,by omega⟩)|exact fun h=>⟨i4 h,ztEa (i5 h) (by omega)⟩
theorem zAIa {Q:Prop} {f1:It21} {f159:List Te} {f160:Int} {k_exit_14:It21→Int→Option R}:∀ {n:Nat} {f5 f161:Int},(f160=(f159.length:Int))→(f159.length≤9223372036854775807)→(0≤f161)→(f5≤3000)→(0≤f5→Q)→(0≤f5→∀j:Nat,(j:Int)<f161→ElS (f159.getD j (0,[],[],())))→(f160-f161).toNat<n→(∀(w1:Int),(w1≤3000)→(0≤w1→Q∧∀y∈f159,ElS y)→Φ (k_exit_14 f1 w1))→Φ (loopN (zNka k_exit_14) n ⟨f1,f5,f159,f160,f161⟩):=by
 intro n
 induction n with
 |zero=>intros; omega
 |succ n ih =>
  intro f5 f161 i0 i1 i2 i3 i4 i5 hm q0;rw[zaaa];unfold zNka
  try dsimp only
  refine w_dec (fun _=>w_inB ?_ fun _=>zTca ?_ ?_ fun _ _ _=>zAja ?_ fun _ _ _=>ih ?_ ?_ ?_ ?_ ?_ ?_ ?_ q0) fun _=>q0 _ ?_ ?_
  all_goals first|with_reducible assumption|omega|(simp (disch:=omega) only[w_i64]<;>omega)|exact fun h=>i4 (by omega)|exact fun h=>zcva i2 (by omega) (i5 (by omega)) (⟨by unfold Sz; omega,by omega⟩)|exact fun h=>⟨i4 h,ztEa (i5 h) (by omega)⟩
theorem zzIa {Q:Prop} {f175:List Tv} {f176:Int} {k_exit_16:Int→Option R}:∀ {n:Nat} {f5 f177:Int},(f176=(f175.length:Int))→(f175.length≤9223372036854775807)→(0≤f177)→(f5≤3000)→(0≤f5→Q)→(0≤f5→∀j:Nat,(j:Int)<f177→CuOk (f175.getD j ([],[],())))→(f176-f177).toNat<n→(∀(w0:Int),(w0≤3000)→(0≤w0→Q∧∀y∈f175,CuOk y)→Φ (k_exit_16 w0))→Φ (loopN (zMka k_exit_16) n ⟨f5,f175,f176,f177⟩):=by
 intro n
 induction n with
 |zero=>intros; omega
 |succ n ih =>
  intro f5 f177 i0 i1 i2 i3 i4 i5 hm q0;rw[zaaa];unfold zMka
  try dsimp only
  refine w_dec (fun _=>w_inB ?_ fun _=>zTca ?_ ?_ fun _ _ _=>zTca ?_ ?_ fun _ _ _=>ih ?_ ?_ ?_ ?_ ?_ ?_ ?_ q0) fun _=>q0 _ ?_ ?_
  all_goals first|with_reducible assumption|omega|(simp (disch:=omega) only[w_i64]<;>omega)|exact fun h=>i4 (by omega)|exact fun h=>zcva i2 (by omega) (i5 (by omega)) (⟨by omega,by omega⟩)|exact fun h=>⟨i4 h,ztEa (i5 h) (by omega)⟩
theorem zuRa {a0:It21} {K:Bool→Option R} (p0:RawOk a0) (hk:∀(r0:Bool),(r0=true→SM a0)→Φ (K r0)):Φ (zKra a0 K):=by
 have z:=p0.rows;unfold zKra
 try dsimp only
 refine zrKa ?_ ?_ ?_ ?_ (zdaa ?_) (fun _ _=>hk _ ?_) (fun _=>zqKa (Q:=True) ?_ ?_ ?_ ?_ ?_ ?_ (zdaa ?_) (fun _ _ _=>zFIa (Q:=∀y∈a0.1,TyOk y) ?_ ?_ ?_ ?_ ?_ ?_ (zdaa ?_) (fun _ _ _=>zEIa (Q:=(∀y∈a0.1,TyOk y)∧∀y∈a0.2.1,ImOk y) ?_ ?_ ?_ ?_ ?_ ?_ (zdaa ?_) (fun _ _ _=>zDIa (Q:=((∀y∈a0.1,TyOk y)∧∀y∈a0.2.1,ImOk y)∧∀y∈a0.2.2.1,FnS y) ?_ ?_ ?_ ?_ ?_ ?_ (zdaa ?_) (fun _ _ _=>zCIa (Q:=(((∀y∈a0.1,TyOk y)∧∀y∈a0.2.1,ImOk y)∧∀y∈a0.2.2.1,FnS y)∧∀y∈a0.2.2.2.2.2.1,GvS y) ?_ ?_ ?_ ?_ ?_ ?_ (zdaa ?_) (fun _ _ _=>zBIa (Q:=((((∀y∈a0.1,TyOk y)∧∀y∈a0.2.1,ImOk y)∧∀y∈a0.2.2.1,FnS y)∧∀y∈a0.2.2.2.2.2.1,GvS y)∧∀y∈a0.2.2.2.2.2.2.1,ExOk y) ?_ ?_ ?_ ?_ ?_ ?_ (zdaa ?_) (fun _ _ _=>zAIa (Q:=(((((∀y∈a0.1,TyOk y)∧∀y∈a0.2.1,ImOk y)∧∀y∈a0.2.2.1,FnS y)∧∀y∈a0.2.2.2.2.2.1,GvS y)∧∀y∈a0.2.2.2.2.2.2.1,ExOk y)∧∀y∈a0.2.2.2.2.2.2.2.2.1,ElS y) ?_ ?_ ?_ ?_ ?_ ?_ (zdaa ?_) (fun _ _ _=>zzIa (Q:=((((((∀y∈a0.1,TyOk y)∧∀y∈a0.2.1,ImOk y)∧∀y∈a0.2.2.1,FnS y)∧∀y∈a0.2.2.2.2.2.1,GvS y)∧∀y∈a0.2.2.2.2.2.2.1,ExOk y)∧∀y∈a0.2.2.2.2.2.2.2.2.1,ElS y)∧∀y∈a0.2.2.2.2.2.2.2.2.2.2.1,ElS y) ?_ ?_ ?_ ?_ ?_ ?_ (zdaa ?_) (fun _ _ _=>hk _ ?_)))))))))
 all_goals first|with_reducible assumption|omega|rfl|exact fun _=>trivial|exact tr2 (by assumption)|(intro _ j hj; exact absurd hj (by omega))|(intro j hj; exact absurd hj (by omega))|(intro h; subst h; contradiction)|(simp only[List.length_set,List.length_replicate]; omega)|exact fun h=>sm_of p0 (by assumption) (by assumption) h
end Go.Trm.G1
namespace Go.Trm.G1
variable {R:Type} {Φ:Option R→Prop}
theorem zAwa {a0:Tl} {K:Tl→Option R} (p0:a0.length≤3000) (hk:∀(r0:Tl),(r0.length≤a0.length)→Φ (K r0)):Φ (zUca a0 K):=by
 have hm:most=4294967296:=rfl;unfold zUca;dsimp only;refine zcba (fun h=>?_) fun _=>w_chk (by simp only[List.length_replicate]; omega) fun _=>hk _ (by simp)
 obtain rfl:a0=[]:=List.isEmpty_iff.1 h;have e:List.replicate 0 (0:Int)=[]:=rfl;simp only[e,List.length_nil,zDaa,List.nil_append];rw[if_pos (by omega)];simp only[zKaa];exact hk _ (Nat.le_refl _)
theorem zpKa {a0:Tq} {K:Tq→Option R} (p0:a0.1.length≤3000) (p1:a0.2.1.length≤3000) (hk:∀(r0:Tq),(r0.1.length≤3000)→(r0.2.1.length≤3000)→Φ (K r0)):Φ (zPea a0 K):=by
 unfold zPea
 try dsimp only
 refine zAwa ?_ fun _ _=>zAwa ?_ fun _ _=>hk _ ?_ ?_
 all_goals first|omega|assumption|(simp (disch:=omega) only[kA,kB,kC,kD,kE,kF,kG,kH,kI,kJ,kK]<;>omega)
theorem wJ_ctx_Of_6 {f1:It21} {f2:List Tq×Tl×It2} {f4:It36} {f16:List Tq} {f17 f18:Int} {k_normal:It21→List Tq×Tl×It2→It36→List Tq→Int→Int→Option R} (p0:0≤f18∧f18<f16.length) (p1:∀y∈f16,TyOk y) (p2:f18≤70) (p3:∀t∈f4.1.1,TyOk t) (p4:Cn (f4.1) (f18) (0)) (q0:(∀(w2:It36),(∀t∈w2.1.1,TyOk t)→(Cn (w2.1) (f18+1) (0))→Φ (k_normal f1 f2 w2 f16 f17 f18))):Φ (zZMa k_normal ⟨f1,f2,f4,f16,f17,f18⟩):=by
 have ⟨g,g2⟩:=tget p1 f18.toNat;unfold zZMa
 try dsimp only
 try simp only[zKaa]
 refine w_inB ?_ fun _=>zpKa ?_ ?_ fun _ _ _=>w_mst ?_<|q0 _ ?_ ?_
 all_goals first|with_reducible assumption|omega|with_reducible exact (zuaa _).1|with_reducible exact (zuaa _).2|rfl|(simp (disch:=omega) only[Cn,kA,kB,kC,kD,kE,kF,kG,kH,kI,kJ,kK]<;>omega)|((iterate 2 (try simp (disch:=omega) only[Cn,kA,kB,kC,kD,kE,kF,kG,kH,kI,kJ,kK]at *))<;>omega)|with_reducible exact zZ2a (by assumption) (by assumption) (by assumption)
theorem zkWa {f1:It21} {f2:List Tq×Tl×It2} {f16:List Tq} {f17:Int} {k_exit_0:It21→List Tq×Tl×It2→It36→Option R}:∀ {n:Nat} {f4:It36} {f18:Int},(f17=(f16.length:Int))→(0≤f18)→(f16.length≤1000000000)→(f18≤f17)→(∀y∈f16,TyOk y)→(f17≤70)→(∀t∈f4.1.1,TyOk t)→(Cn (f4.1) (f18) (0))→(f17-f18).toNat<n→(∀(w2:It36),(∀t∈w2.1.1,TyOk t)→(Cn (w2.1) (70) (0))→Φ (k_exit_0 f1 f2 w2))→Φ (loopN (zXFa k_exit_0) n ⟨f1,f2,f4,f16,f17,f18⟩):=by
 intro n
 induction n with
 |zero=>intros; omega
 |succ n ih =>
  intro f4 f18 i0 i1 i2 i3 i4 i5 i6 i7 hm q0;have ⟨g,g2⟩:=tget i4 f18.toNat;rw[zaaa];unfold zXFa
  try dsimp only
  refine w_dec (fun _=>wJ_ctx_Of_6 ?_ ?_ ?_ ?_ ?_ (fun _ _ _=>ih ?_ ?_ ?_ ?_ ?_ ?_ ?_ ?_ ?_ q0)) fun _=>q0 _ ?_ ?_
  all_goals first|with_reducible assumption|omega|with_reducible exact (zuaa _).1|with_reducible exact (zuaa _).2|rfl|(simp (disch:=omega) only[Cn,kA,kB,kC,kD,kE,kF,kG,kH,kI,kJ,kK]<;>omega)|((iterate 2 (try simp (disch:=omega) only[Cn,kA,kB,kC,kD,kE,kF,kG,kH,kI,kJ,kK]at *))<;>omega)|with_reducible exact zZ2a (by assumption) (by assumption) (by assumption)
theorem zFja {a0 a1:Int} {K:Bool→Option R} (hk:∀(r0:Bool),(r0=true→0≤a0∧a0<a1)→Φ (K r0)):Φ (zLda a0 a1 K):=by
 unfold zLda
 try dsimp only
 refine w_dec (fun _=>hk _ ?_) fun _=>hk _ ?_
 all_goals first|exact fun h=>⟨by assumption,of_decide_eq_true h⟩|exact fun h=>by cases h
theorem zgaa {n:Int} {a0:It36} {a1:Bool} {a2:Int} {K:It36→Option R} (p0:∀t∈a0.1.1,TyOk t) (p1:Cn (a0.1) (70) (n)) (hk:∀(r0:It36),(∀t∈r0.1.1,TyOk t)→(Cn (r0.1) (70) (n))→Φ (K r0)):Φ (zeaa a0 a1 a2 K):=by
 unfold zeaa
 try dsimp only
 refine w_not (zcba (fun _=>hk _ ?_ ?_) fun _=>w_eq (fun _=>hk _ ?_ ?_) fun _=>hk _ ?_ ?_)
 all_goals omega
theorem zQza {a0:Tm} {K:Int→Option R} (hk:∀(r0:Int),Φ (K r0)):Φ (zOla a0 K):=by
 unfold zOla
 try dsimp only
 exact w_dec (fun _=>hk _) fun _=>zcba (fun _=>w_dec (fun _=>hk _) fun _=>w_dec (fun _=>hk _) fun _=>hk _) fun _=>w_dec (fun _=>hk _) fun _=>hk _
theorem zwua {a0:Tm} {K:Int→Option R} (hk:∀(r0:Int),Φ (K r0)):Φ (zVia a0 K):=by
 unfold zVia
 try dsimp only
 exact w_dec (fun _=>hk _) fun _=>w_dec (fun _=>hk _) fun _=>zcba (fun _=>w_dec (fun _=>hk _) fun _=>w_dec (fun _=>hk _) fun _=>w_dec (fun _=>hk _) fun _=>hk _) fun _=>w_dec (fun _=>hk _) fun _=>hk _
theorem wJ_ctx_checker_imports_17 {f6:List Tp} {f7 f8:Int} {f1000000:It36} {k_normal:List Tp→Int→Int→It36→Option R} (p0:0≤f8∧f8<f6.length) (p1:f8≤70) (p2:∀t∈f1000000.1.1,TyOk t) (p3:Cn (f1000000.1) (70) (f8)) (q0:(∀(w3:It36),(∀t∈w3.1.1,TyOk t)→(Cn (w3.1) (70) (f8+1))→Φ (k_normal f6 f7 f8 w3))):Φ (zdfa k_normal ⟨f6,f7,f8,f1000000⟩):=by
 unfold zdfa zUfa zTfa zgfa zffa zefa
 try dsimp only
 try simp only[zKaa]
 refine w_inB ?_ fun _=>w_eq (fun _=>zFja fun _ _=>zgaa (n:=f8) ?_ ?_ fun _ _ _=>w_mst ?_<|q0 _ ?_ ?_) fun _=>w_eq (fun _=>zQza fun _=>zQza fun _=>zgaa (n:=f8) ?_ ?_ fun _ _ _=>w_mst ?_<|q0 _ ?_ ?_) fun _=>w_eq (fun _=>zwua fun _=>zwua fun _=>zgaa (n:=f8) ?_ ?_ fun _ _ _=>w_mst ?_<|q0 _ ?_ ?_) fun _=>w_eq (fun _=>w_mst ?_<|q0 _ ?_ ?_) fun _=>q0 _ ?_ ?_
 all_goals first|with_reducible assumption|omega|with_reducible exact (zuaa _).1|with_reducible exact (zuaa _).2|rfl|(simp (disch:=omega) only[Cn,kA,kB,kC,kD,kE,kF,kG,kH,kI,kJ,kK]<;>omega)|((iterate 2 (try simp (disch:=omega) only[Cn,kA,kB,kC,kD,kE,kF,kG,kH,kI,kJ,kK]at *))<;>omega)
theorem zDua {f6:List Tp} {f7:Int} {k_exit_0:It36→Option R}:∀ {n:Nat} {f8:Int} {f1000000:It36},(f7=(f6.length:Int))→(0≤f8)→(f6.length≤1000000000)→(f8≤f7)→(f7≤70)→(∀t∈f1000000.1.1,TyOk t)→(Cn (f1000000.1) (70) (f8))→(f7-f8).toNat<n→(∀(w0:It36),(∀t∈w0.1.1,TyOk t)→(Cn (w0.1) (70) (70))→Φ (k_exit_0 w0))→Φ (loopN (zAda k_exit_0) n ⟨f6,f7,f8,f1000000⟩):=by
 intro n
 induction n with
 |zero=>intros; omega
 |succ n ih =>
  intro f8 f1000000 i0 i1 i2 i3 i4 i5 i6 hm q0;rw[zaaa];unfold zAda
  try dsimp only
  refine w_dec (fun _=>wJ_ctx_checker_imports_17 ?_ ?_ ?_ ?_ (fun _ _ _=>ih ?_ ?_ ?_ ?_ ?_ ?_ ?_ ?_ q0)) fun _=>q0 _ ?_ ?_
  all_goals first|with_reducible assumption|omega|with_reducible exact (zuaa _).1|with_reducible exact (zuaa _).2|rfl|(simp (disch:=omega) only[Cn,kA,kB,kC,kD,kE,kF,kG,kH,kI,kJ,kK]<;>omega)|((iterate 2 (try simp (disch:=omega) only[Cn,kA,kB,kC,kD,kE,kF,kG,kH,kI,kJ,kK]at *))<;>omega)
theorem zgAa {a0:It36} {a1:List Tp} {K:It36→Option R} (p0:a1.length≤70) (p1:∀t∈a0.1.1,TyOk t) (p2:Cn (a0.1) (70) (0)) (hk:∀(r0:It36),(∀t∈r0.1.1,TyOk t)→(Cn (r0.1) (70) (70))→Φ (K r0)):Φ (zgea a0 a1 K):=by
 unfold zgea
 try dsimp only
 refine zDua ?_ ?_ ?_ ?_ ?_ ?_ ?_ (zdaa ?_) (fun _ _ _=>hk _ ?_ ?_)
 all_goals omega
theorem wJ_ctx_checker_own_6 {f3:It21} {f13:List Tf} {f14 f15:Int} {f1000000:It36} {k_normal:It21→List Tf→Int→Int→It36→Option R} (p0:0≤f15∧f15<f13.length) (p1:f15≤70) (p2:∀t∈f1000000.1.1,TyOk t) (p3:Cn (f1000000.1) (70) (70+f15)) (q0:(∀(w4:It36),(∀t∈w4.1.1,TyOk t)→(Cn (w4.1) (70) (70+f15+1))→Φ (k_normal f3 f13 f14 f15 w4))):Φ (zJka k_normal ⟨f3,f13,f14,f15,f1000000⟩):=by
 unfold zJka zKka
 try dsimp only
 try simp only[zKaa]
 refine w_inB ?_ fun _=>zFja fun _ _=>zgaa (n:=70+f15) ?_ ?_ fun _ _ _=>w_mst ?_<|q0 _ ?_ ?_
 all_goals first|with_reducible assumption|omega|with_reducible exact (zuaa _).1|with_reducible exact (zuaa _).2|rfl|(simp (disch:=omega) only[Cn,kA,kB,kC,kD,kE,kF,kG,kH,kI,kJ,kK]<;>omega)|((iterate 2 (try simp (disch:=omega) only[Cn,kA,kB,kC,kD,kE,kF,kG,kH,kI,kJ,kK]at *))<;>omega)
theorem zYCa {f3:It21} {f13:List Tf} {f14:Int} {k_exit_0:It21→It36→Option R}:∀ {n:Nat} {f15:Int} {f1000000:It36},(f14=(f13.length:Int))→(0≤f15)→(f13.length≤1000000000)→(f15≤f14)→(f14≤70)→(∀t∈f1000000.1.1,TyOk t)→(Cn (f1000000.1) (70) (70+f15))→(f14-f15).toNat<n→(∀(w1:It36),(∀t∈w1.1.1,TyOk t)→(Cn (w1.1) (70) (140))→Φ (k_exit_0 f3 w1))→Φ (loopN (zBga k_exit_0) n ⟨f3,f13,f14,f15,f1000000⟩):=by
 intro n
 induction n with
 |zero=>intros; omega
 |succ n ih =>
  intro f15 f1000000 i0 i1 i2 i3 i4 i5 i6 hm q0;rw[zaaa];unfold zBga
  try dsimp only
  refine w_dec (fun _=>wJ_ctx_checker_own_6 ?_ ?_ ?_ ?_ (fun _ _ _=>ih ?_ ?_ ?_ ?_ ?_ ?_ ?_ ?_ q0)) fun _=>q0 _ ?_ ?_
  all_goals first|with_reducible assumption|omega|with_reducible exact (zuaa _).1|with_reducible exact (zuaa _).2|rfl|(simp (disch:=omega) only[Cn,kA,kB,kC,kD,kE,kF,kG,kH,kI,kJ,kK]<;>omega)|((iterate 2 (try simp (disch:=omega) only[Cn,kA,kB,kC,kD,kE,kF,kG,kH,kI,kJ,kK]at *))<;>omega)
theorem wJ_ctx_checker_own_12 {f3:It21} {f45:List Tm} {f46 f47:Int} {f1000000:It36} {k_normal:It21→List Tm→Int→Int→It36→Option R} (p0:0≤f47∧f47<f45.length) (p1:f47≤70) (p2:∀t∈f1000000.1.1,TyOk t) (p3:Cn (f1000000.1) (70) (140+f47)) (q0:(∀(w4:It36),(∀t∈w4.1.1,TyOk t)→(Cn (w4.1) (70) (140+f47+1))→Φ (k_normal f3 f45 f46 f47 w4))):Φ (zfja k_normal ⟨f3,f45,f46,f47,f1000000⟩):=by
 unfold zfja zgja
 try dsimp only
 try simp only[zKaa]
 refine w_inB ?_ fun _=>zQza fun _=>zQza fun _=>zgaa (n:=140+f47) ?_ ?_ fun _ _ _=>w_mst ?_<|q0 _ ?_ ?_
 all_goals first|with_reducible assumption|omega|with_reducible exact (zuaa _).1|with_reducible exact (zuaa _).2|rfl|(simp (disch:=omega) only[Cn,kA,kB,kC,kD,kE,kF,kG,kH,kI,kJ,kK]<;>omega)|((iterate 2 (try simp (disch:=omega) only[Cn,kA,kB,kC,kD,kE,kF,kG,kH,kI,kJ,kK]at *))<;>omega)
theorem zXCa {f3:It21} {f45:List Tm} {f46:Int} {k_exit_2:It21→It36→Option R}:∀ {n:Nat} {f47:Int} {f1000000:It36},(f46=(f45.length:Int))→(0≤f47)→(f45.length≤1000000000)→(f47≤f46)→(f46≤70)→(∀t∈f1000000.1.1,TyOk t)→(Cn (f1000000.1) (70) (140+f47))→(f46-f47).toNat<n→(∀(w1:It36),(∀t∈w1.1.1,TyOk t)→(Cn (w1.1) (70) (210))→Φ (k_exit_2 f3 w1))→Φ (loopN (zAga k_exit_2) n ⟨f3,f45,f46,f47,f1000000⟩):=by
 intro n
 induction n with
 |zero=>intros; omega
 |succ n ih =>
  intro f47 f1000000 i0 i1 i2 i3 i4 i5 i6 hm q0;rw[zaaa];unfold zAga
  try dsimp only
  refine w_dec (fun _=>wJ_ctx_checker_own_12 ?_ ?_ ?_ ?_ (fun _ _ _=>ih ?_ ?_ ?_ ?_ ?_ ?_ ?_ ?_ q0)) fun _=>q0 _ ?_ ?_
  all_goals first|with_reducible assumption|omega|with_reducible exact (zuaa _).1|with_reducible exact (zuaa _).2|rfl|(simp (disch:=omega) only[Cn,kA,kB,kC,kD,kE,kF,kG,kH,kI,kJ,kK]<;>omega)|((iterate 2 (try simp (disch:=omega) only[Cn,kA,kB,kC,kD,kE,kF,kG,kH,kI,kJ,kK]at *))<;>omega)
theorem wJ_ctx_checker_own_18 {f3:It21} {f72:List Tm} {f73 f74:Int} {f1000000:It36} {k_normal:It21→List Tm→Int→Int→It36→Option R} (p0:0≤f74∧f74<f72.length) (p1:f74≤70) (p2:∀t∈f1000000.1.1,TyOk t) (p3:Cn (f1000000.1) (70) (210+f74)) (q0:(∀(w4:It36),(∀t∈w4.1.1,TyOk t)→(Cn (w4.1) (70) (210+f74+1))→Φ (k_normal f3 f72 f73 f74 w4))):Φ (zdja k_normal ⟨f3,f72,f73,f74,f1000000⟩):=by
 unfold zdja zeja
 try dsimp only
 try simp only[zKaa]
 refine w_inB ?_ fun _=>zwua fun _=>zwua fun _=>zgaa (n:=210+f74) ?_ ?_ fun _ _ _=>w_mst ?_<|q0 _ ?_ ?_
 all_goals first|with_reducible assumption|omega|with_reducible exact (zuaa _).1|with_reducible exact (zuaa _).2|rfl|(simp (disch:=omega) only[Cn,kA,kB,kC,kD,kE,kF,kG,kH,kI,kJ,kK]<;>omega)|((iterate 2 (try simp (disch:=omega) only[Cn,kA,kB,kC,kD,kE,kF,kG,kH,kI,kJ,kK]at *))<;>omega)
theorem zpAa {f3:It21} {f72:List Tm} {f73:Int} {k_exit_4:It21→It36→Option R}:∀ {n:Nat} {f74:Int} {f1000000:It36},(f73=(f72.length:Int))→(0≤f74)→(f72.length≤1000000000)→(f74≤f73)→(f73≤70)→(∀t∈f1000000.1.1,TyOk t)→(Cn (f1000000.1) (70) (210+f74))→(f73-f74).toNat<n→(∀(w1:It36),(∀t∈w1.1.1,TyOk t)→(Cn (w1.1) (70) (280))→Φ (k_exit_4 f3 w1))→Φ (loopN (zkfa k_exit_4) n ⟨f3,f72,f73,f74,f1000000⟩):=by
 intro n
 induction n with
 |zero=>intros; omega
 |succ n ih =>
  intro f74 f1000000 i0 i1 i2 i3 i4 i5 i6 hm q0;rw[zaaa];unfold zkfa
  try dsimp only
  refine w_dec (fun _=>wJ_ctx_checker_own_18 ?_ ?_ ?_ ?_ (fun _ _ _=>ih ?_ ?_ ?_ ?_ ?_ ?_ ?_ ?_ q0)) fun _=>q0 _ ?_ ?_
  all_goals first|with_reducible assumption|omega|with_reducible exact (zuaa _).1|with_reducible exact (zuaa _).2|rfl|(simp (disch:=omega) only[Cn,kA,kB,kC,kD,kE,kF,kG,kH,kI,kJ,kK]<;>omega)|((iterate 2 (try simp (disch:=omega) only[Cn,kA,kB,kC,kD,kE,kF,kG,kH,kI,kJ,kK]at *))<;>omega)
theorem zyua {a0:List Tq×Tl×It2} {a1:Tj} {a2:Int} {K:Bool→Option R} (hk:∀(r0:Bool),Φ (K r0)):Φ (zvha a0 a1 a2 K):=by
 unfold zvha
 try dsimp only
 refine w_ne (fun _=>hk _) fun _=>w_inB ?_ fun _=>w_ne (fun _=>hk _) fun _=>w_inB ?_ fun _=>w_eq (fun _=>hk _) fun _=>w_eq (fun _=>hk _) fun _=>w_eq (fun _=>zFja fun _ _=>zcba (fun _=>w_inB ?_ fun _=>hk _) fun _=>hk _) fun _=>hk _
 all_goals first|with_reducible assumption|omega|with_reducible exact (zuaa _).1|with_reducible exact (zuaa _).2|rfl|(simp (disch:=omega) only[Cn,kA,kB,kC,kD,kE,kF,kG,kH,kI,kJ,kK]<;>omega)|((iterate 2 (try simp (disch:=omega) only[Cn,kA,kB,kC,kD,kE,kF,kG,kH,kI,kJ,kK]at *))<;>omega)|with_reducible exact zG2a (by assumption) (by assumption)
theorem wJ_ctx_checker_own_26 {f117:List Tg} {f118 f119:Int} {f1000000:It36} {k_normal:List Tg→Int→Int→It36→Option R} (p0:0≤f119∧f119<f117.length) (p1:f119≤70) (p2:∀t∈f1000000.1.1,TyOk t) (p3:Cn (f1000000.1) (70) (280+f119)) (q0:(∀(w3:It36),(∀t∈w3.1.1,TyOk t)→(Cn (w3.1) (70) (280+f119+1))→Φ (k_normal f117 f118 f119 w3))):Φ (zbja k_normal ⟨f117,f118,f119,f1000000⟩):=by
 unfold zbja zcja
 try dsimp only
 try simp only[zKaa]
 refine w_inB ?_ fun _=>zyua fun _=>zgaa (n:=280+f119) ?_ ?_ fun _ _ _=>w_mst ?_<|q0 _ ?_ ?_
 all_goals first|with_reducible assumption|omega|with_reducible exact (zuaa _).1|with_reducible exact (zuaa _).2|rfl|(simp (disch:=omega) only[Cn,kA,kB,kC,kD,kE,kF,kG,kH,kI,kJ,kK]<;>omega)|((iterate 2 (try simp (disch:=omega) only[Cn,kA,kB,kC,kD,kE,kF,kG,kH,kI,kJ,kK]at *))<;>omega)
theorem zoAa {f117:List Tg} {f118:Int} {k_exit_6:It36→Option R}:∀ {n:Nat} {f119:Int} {f1000000:It36},(f118=(f117.length:Int))→(0≤f119)→(f117.length≤1000000000)→(f119≤f118)→(f118≤70)→(∀t∈f1000000.1.1,TyOk t)→(Cn (f1000000.1) (70) (280+f119))→(f118-f119).toNat<n→(∀(w0:It36),(∀t∈w0.1.1,TyOk t)→(Cn (w0.1) (70) (350))→Φ (k_exit_6 w0))→Φ (loopN (zjfa k_exit_6) n ⟨f117,f118,f119,f1000000⟩):=by
 intro n
 induction n with
 |zero=>intros; omega
 |succ n ih =>
  intro f119 f1000000 i0 i1 i2 i3 i4 i5 i6 hm q0;rw[zaaa];unfold zjfa
  try dsimp only
  refine w_dec (fun _=>wJ_ctx_checker_own_26 ?_ ?_ ?_ ?_ (fun _ _ _=>ih ?_ ?_ ?_ ?_ ?_ ?_ ?_ ?_ q0)) fun _=>q0 _ ?_ ?_
  all_goals first|with_reducible assumption|omega|with_reducible exact (zuaa _).1|with_reducible exact (zuaa _).2|rfl|(simp (disch:=omega) only[Cn,kA,kB,kC,kD,kE,kF,kG,kH,kI,kJ,kK]<;>omega)|((iterate 2 (try simp (disch:=omega) only[Cn,kA,kB,kC,kD,kE,kF,kG,kH,kI,kJ,kK]at *))<;>omega)
theorem zyIa {a0:It36} {a1:It21} {K:It36→Option R} (p0:SM a1) (p1:∀t∈a0.1.1,TyOk t) (p2:Cn (a0.1) (70) (70)) (hk:∀(r0:It36),(∀t∈r0.1.1,TyOk t)→(Cn (r0.1) (70) (350))→Φ (K r0)):Φ (zyia a0 a1 K):=by
 have z:=p0.rows;unfold zyia
 try dsimp only
 refine zYCa ?_ ?_ ?_ ?_ ?_ ?_ ?_ (zdaa ?_) (fun _ _ _=>zXCa ?_ ?_ ?_ ?_ ?_ ?_ ?_ (zdaa ?_) (fun _ _ _=>zpAa ?_ ?_ ?_ ?_ ?_ ?_ ?_ (zdaa ?_) (fun _ _ _=>zgaa (n:=280) ?_ ?_ fun _ _ _=>zgaa (n:=280) ?_ ?_ fun _ _ _=>zoAa ?_ ?_ ?_ ?_ ?_ ?_ ?_ (zdaa ?_) (fun _ _ _=>hk _ ?_ ?_))))
 all_goals omega
theorem zhna {f1:List Tx} {f4:Tl} {f6:Tx} {f32:List Tx} {f33 f34:Int} {f76:List Tx} {f83:Int} {f1000000:It36} {k_ret:List Tx→Tl→Tx→List Tx→Int→Int→Int→It36→Option R} {k_exit_0:List Tx→Tl→Tx→List Tx→Int→Int→It36→Option R}:∀ {n:Nat} {f84:Int},(f83=(f76.length:Int))→(0≤f84)→(f76.length≤1000000000)→(f84≤f83)→(f83-f84).toNat<n→(∀(w6:Int),Φ (k_ret f1 f4 f6 f32 f33 f34 w6 f1000000))→(Φ (k_exit_0 f1 f4 f6 f32 f33 f34 f1000000))→Φ (loopN (zVba k_ret k_exit_0) n ⟨f1,f4,f6,f32,f33,f34,f76,f83,f84,f1000000⟩):=by
 intro n
 induction n with
 |zero=>intros; omega
 |succ n ih =>
  intro f84 i0 i1 i2 i3 hm q0 q1;rw[zaaa];unfold zVba
  try dsimp only
  refine w_dec (fun _=>w_inB ?_ fun _=>w_eq (fun _=>q0 _) fun _=>ih ?_ ?_ ?_ ?_ ?_ q0 q1) fun _=>q1
  all_goals first|omega|assumption|(simp (disch:=omega) only[kA,kB,kC,kD,kE,kF,kG,kH,kI,kJ,kK]<;>omega)
theorem wJ_ctx_checker_exportsm1_6 {f1:List Tx} {f4:Tl} {f32:List Tx} {f33 f34:Int} {f1000000:It36} {k_normal:List Tx→Tl→List Tx→Int→Int→It36→Option R} (p0:0≤f34∧f34<f32.length) (p1:f4.length=4) (p2:f34≤f1.length) (p3:f1.length≤1000000000) (p4:∀t∈f1000000.1.1,TyOk t) (p5:Cn (f1000000.1) (70) (350)) (q0:(∀(w5:It36),(∀t∈w5.1.1,TyOk t)→(Cn (w5.1) (70) (350))→Φ (k_normal f1 f4 f32 f33 f34 w5))):Φ (zyea k_normal ⟨f1,f4,f32,f33,f34,f1000000⟩):=by
 unfold zyea
 try dsimp only
 try simp only[zKaa]
 refine w_inB ?_ fun _=>w_inR ?_ fun _=>zhna ?_ ?_ ?_ ?_ (zdaa ?_) (fun _=>zgaa (n:=350) ?_ ?_ fun _ _ _=>zFja fun _ _=>zcba (fun _=>w_inB ?_ fun _=>zFja fun _ _=>zgaa (n:=350) ?_ ?_ fun _ _ _=>q0 _ ?_ ?_) fun _=>zgaa (n:=350) ?_ ?_ fun _ _ _=>q0 _ ?_ ?_) (zgaa (n:=350) ?_ ?_ fun _ _ _=>zFja fun _ _=>zcba (fun _=>w_inB ?_ fun _=>zFja fun _ _=>zgaa (n:=350) ?_ ?_ fun _ _ _=>q0 _ ?_ ?_) fun _=>zgaa (n:=350) ?_ ?_ fun _ _ _=>q0 _ ?_ ?_)
 all_goals first|with_reducible exact mm4 (by assumption)|with_reducible assumption|omega|with_reducible exact (zuaa _).1|with_reducible exact (zuaa _).2|rfl|(simp (disch:=omega) only[Cn,kA,kB,kC,kD,kE,kF,kG,kH,kI,kJ,kK]<;>omega)|((iterate 2 (try simp (disch:=omega) only[Cn,kA,kB,kC,kD,kE,kF,kG,kH,kI,kJ,kK]at *))<;>omega)
theorem zzsa {f1:List Tx} {f4:Tl} {f32:List Tx} {f33:Int} {k_exit_0:It36→Option R}:∀ {n:Nat} {f34:Int} {f1000000:It36},(f33=(f32.length:Int))→(0≤f34)→(f32.length≤1000000000)→(f34≤f33)→(f4.length=4)→(f1=f32)→(∀t∈f1000000.1.1,TyOk t)→(Cn (f1000000.1) (70) (350))→(f33-f34).toNat<n→(∀(w0:It36),(∀t∈w0.1.1,TyOk t)→(Cn (w0.1) (70) (350))→Φ (k_exit_0 w0))→Φ (loopN (zSca k_exit_0) n ⟨f1,f4,f32,f33,f34,f1000000⟩):=by
 intro n
 induction n with
 |zero=>intros; omega
 |succ n ih =>
  intro f34 f1000000 i0 i1 i2 i3 i4 i5 i6 i7 hm q0;rw[zaaa];unfold zSca
  try dsimp only
  refine w_dec (fun _=>wJ_ctx_checker_exportsm1_6 ?_ ?_ ?_ ?_ ?_ ?_ (fun _ _ _=>ih ?_ ?_ ?_ ?_ ?_ ?_ ?_ ?_ ?_ q0)) fun _=>q0 _ ?_ ?_
  all_goals first|with_reducible exact mm4 (by assumption)|with_reducible assumption|omega|with_reducible exact (zuaa _).1|with_reducible exact (zuaa _).2|rfl|(simp (disch:=omega) only[Cn,kA,kB,kC,kD,kE,kF,kG,kH,kI,kJ,kK]<;>omega)|((iterate 2 (try simp (disch:=omega) only[Cn,kA,kB,kC,kD,kE,kF,kG,kH,kI,kJ,kK]at *))<;>omega)|(subst i5; omega)
theorem zYwa {a0:It36} {a1:List Tx} {K:It36→Option R} (p0:a1.length≤70) (p1:∀t∈a0.1.1,TyOk t) (p2:Cn (a0.1) (70) (350)) (hk:∀(r0:It36),(∀t∈r0.1.1,TyOk t)→(Cn (r0.1) (70) (350))→Φ (K r0)):Φ (zuda a0 a1 K):=by
 unfold zuda
 try dsimp only
 try simp only[zKaa]
 refine zzsa ?_ ?_ ?_ ?_ ?_ ?_ ?_ ?_ (zdaa ?_) (fun _ _ _=>hk _ ?_ ?_)
 all_goals first|omega|assumption|(simp (disch:=omega) only[kA,kB,kC,kD,kE,kF,kG,kH,kI,kJ,kK]<;>omega)
theorem zdXa {a0:List Tq×Tl×It2} {a1:Int} {K:Tq→Bool→Option R} (p0:∀t∈a0.1,TyOk t) (hk:∀(r0:Tq) (r1:Bool),Φ (K r0 r1)):Φ (zPga a0 a1 K):=by
 have ⟨g,g2⟩:=tget p0 (List.getD a0.2.1 a1.toNat (0:Int)).toNat;unfold zPga
 try dsimp only
 refine zFja fun _ _=>w_not (zcba (fun _=>w_inB ?_ fun _=>zFja fun _ _=>w_not (zcba (fun _=>w_inB ?_ fun _=>w_inB ?_ fun _=>zpKa ?_ ?_ fun _ _ _=>hk _ _) fun _=>hk _ _)) fun _=>hk _ _)
 all_goals first|with_reducible assumption|omega|with_reducible exact (zuaa _).1|with_reducible exact (zuaa _).2|rfl|(simp (disch:=omega) only[Cn,kA,kB,kC,kD,kE,kF,kG,kH,kI,kJ,kK]<;>omega)|((iterate 2 (try simp (disch:=omega) only[Cn,kA,kB,kC,kD,kE,kF,kG,kH,kI,kJ,kK]at *))<;>omega)|with_reducible exact zc1a (by assumption) (by assumption)
theorem zQTa {f1:It21} {f2:List Tq×Tl×It2} {f70:Tl} {f71:Int} {k_exit_2:It21→List Tq×Tl×It2→It36→Option R}:∀ {n:Nat} {f4:It36} {f72:Int},(f71=(f70.length:Int))→(0≤f72)→(f70.length≤1000000000)→(f72≤f71)→(∀t∈f4.1.1,TyOk t)→(Cn (f4.1) (70) (350))→(f71-f72).toNat<n→(∀(w2:It36),(∀t∈w2.1.1,TyOk t)→(Cn (w2.1) (70) (350))→Φ (k_exit_2 f1 f2 w2))→Φ (loopN (zfAa k_exit_2) n ⟨f1,f2,f4,f70,f71,f72⟩):=by
 intro n
 induction n with
 |zero=>intros; omega
 |succ n ih =>
  intro f4 f72 i0 i1 i2 i3 i4 i5 hm q0;rw[zaaa];unfold zfAa
  try dsimp only
  refine w_dec (fun _=>w_inB ?_ fun _=>zdXa ?_ fun _ _=>zgaa (n:=350) ?_ ?_ fun _ _ _=>zgaa (n:=350) ?_ ?_ fun _ _ _=>ih ?_ ?_ ?_ ?_ ?_ ?_ ?_ q0) fun _=>q0 _ ?_ ?_
  all_goals first|omega|assumption|(simp (disch:=omega) only[kA,kB,kC,kD,kE,kF,kG,kH,kI,kJ,kK]<;>omega)
theorem zAea {f3:It21} {f9:List Te} {f10 f11:Int} {f84:Tl} {f91:Int} {f1000000:It36} {k_ret:It21→List Te→Int→Int→Int→It36→Option R} {k_exit_0:It21→List Te→Int→Int→It36→Option R}:∀ {n:Nat} {f92:Int},(f91=(f84.length:Int))→(0≤f92)→(f84.length≤1000000000)→(f92≤f91)→(f91-f92).toNat<n→(∀(w4:Int),Φ (k_ret f3 f9 f10 f11 w4 f1000000))→(Φ (k_exit_0 f3 f9 f10 f11 f1000000))→Φ (loopN (zhba k_ret k_exit_0) n ⟨f3,f9,f10,f11,f84,f91,f92,f1000000⟩):=by
 intro n
 induction n with
 |zero=>intros; omega
 |succ n ih =>
  intro f92 i0 i1 i2 i3 hm q0 q1;rw[zaaa];unfold zhba
  try dsimp only
  refine w_dec (fun _=>w_inB ?_ fun _=>w_ne (fun _=>zFja fun _ _=>w_not (zcba (fun _=>ih ?_ ?_ ?_ ?_ ?_ q0 q1) fun _=>q0 _)) fun _=>ih ?_ ?_ ?_ ?_ ?_ q0 q1) fun _=>q1
  all_goals first|omega|assumption|(simp (disch:=omega) only[kA,kB,kC,kD,kE,kF,kG,kH,kI,kJ,kK]<;>omega)
theorem zkra {f3:It21} {f9:List Te} {f10:Int} {k_exit_0:It21→It36→Option R}:∀ {n:Nat} {f11:Int} {f1000000:It36},(f10=(f9.length:Int))→(0≤f11)→(f9.length≤1000000000)→(f11≤f10)→(∀y∈f9,ElOk y)→(∀t∈f1000000.1.1,TyOk t)→(Cn (f1000000.1) (70) (350))→(f10-f11).toNat<n→(∀(w1:It36),(∀t∈w1.1.1,TyOk t)→(Cn (w1.1) (70) (350))→Φ (k_exit_0 f3 w1))→Φ (loopN (zyca k_exit_0) n ⟨f3,f9,f10,f11,f1000000⟩):=by
 intro n
 induction n with
 |zero=>intros; omega
 |succ n ih =>
  intro f11 f1000000 i0 i1 i2 i3 i4 i5 i6 hm q0;have ⟨g,g2⟩:=eget i4 f11.toNat;rw[zaaa];unfold zyca
  try dsimp only
  refine w_dec (fun _=>w_inB ?_ fun _=>w_eq (fun _=>zgaa (n:=350) ?_ ?_ fun _ _ _=>zyua fun _=>zgaa (n:=350) ?_ ?_ fun _ _ _=>zAea ?_ ?_ ?_ ?_ (zdaa ?_) (fun _=>zgaa (n:=350) ?_ ?_ fun _ _ _=>ih ?_ ?_ ?_ ?_ ?_ ?_ ?_ ?_ q0) (zgaa (n:=350) ?_ ?_ fun _ _ _=>ih ?_ ?_ ?_ ?_ ?_ ?_ ?_ ?_ q0)) fun _=>zAea ?_ ?_ ?_ ?_ (zdaa ?_) (fun _=>zgaa (n:=350) ?_ ?_ fun _ _ _=>ih ?_ ?_ ?_ ?_ ?_ ?_ ?_ ?_ q0) (zgaa (n:=350) ?_ ?_ fun _ _ _=>ih ?_ ?_ ?_ ?_ ?_ ?_ ?_ ?_ q0)) fun _=>q0 _ ?_ ?_
  all_goals first|omega|assumption|(simp (disch:=omega) only[kA,kB,kC,kD,kE,kF,kG,kH,kI,kJ,kK]<;>omega)
theorem zwpa {f45:List Te} {f46:Int} {k_exit_2:It36→Option R}:∀ {n:Nat} {f47:Int} {f1000000:It36},(f46=(f45.length:Int))→(0≤f47)→(f45.length≤1000000000)→(f47≤f46)→(∀t∈f1000000.1.1,TyOk t)→(Cn (f1000000.1) (70) (350))→(f46-f47).toNat<n→(∀(w0:It36),(∀t∈w0.1.1,TyOk t)→(Cn (w0.1) (70) (350))→Φ (k_exit_2 w0))→Φ (loopN (zlca k_exit_2) n ⟨f45,f46,f47,f1000000⟩):=by
 intro n
 induction n with
 |zero=>intros; omega
 |succ n ih =>
  intro f47 f1000000 i0 i1 i2 i3 i4 i5 hm q0;rw[zaaa];unfold zlca
  try dsimp only
  refine w_dec (fun _=>w_inB ?_ fun _=>w_eq (fun _=>zgaa (n:=350) ?_ ?_ fun _ _ _=>zyua fun _=>zgaa (n:=350) ?_ ?_ fun _ _ _=>ih ?_ ?_ ?_ ?_ ?_ ?_ ?_ q0) fun _=>ih ?_ ?_ ?_ ?_ ?_ ?_ ?_ q0) fun _=>q0 _ ?_ ?_
  all_goals first|omega|assumption|(simp (disch:=omega) only[kA,kB,kC,kD,kE,kF,kG,kH,kI,kJ,kK]<;>omega)
theorem zxua {a0:It36} {a1:It21} {K:It36→Option R} (p0:SM a1) (p1:∀t∈a0.1.1,TyOk t) (p2:Cn (a0.1) (70) (350)) (hk:∀(r0:It36),(∀t∈r0.1.1,TyOk t)→(Cn (r0.1) (70) (350))→Φ (K r0)):Φ (zYca a0 a1 K):=by
 have ⟨z,y1,y2,y3,y4,y5,y6,y7,y8⟩:=p0;unfold zYca
 try dsimp only
 refine zkra ?_ ?_ ?_ ?_ ?_ ?_ ?_ (zdaa ?_) (fun _ _ _=>zwpa ?_ ?_ ?_ ?_ ?_ ?_ (zdaa ?_) (fun _ _ _=>hk _ ?_ ?_))
 all_goals omega
theorem zPTa {f2:List Tq×Tl×It2} {f103:List Tf} {f104:Int} {k_exit_4:List Tq×Tl×It2→It36→Option R}:∀ {n:Nat} {f4:It36} {f105:Int},(f104=(f103.length:Int))→(0≤f105)→(f103.length≤1000000000)→(f105≤f104)→(∀t∈f4.1.1,TyOk t)→(Cn (f4.1) (70) (350))→(f104-f105).toNat<n→(∀(w1:It36),(∀t∈w1.1.1,TyOk t)→(Cn (w1.1) (70) (350))→Φ (k_exit_4 f2 w1))→Φ (loopN (zeAa k_exit_4) n ⟨f2,f4,f103,f104,f105⟩):=by
 intro n
 induction n with
 |zero=>intros; omega
 |succ n ih =>
  intro f4 f105 i0 i1 i2 i3 i4 i5 hm q0;rw[zaaa];unfold zeAa ztHa
  try dsimp only
  refine w_dec (fun _=>w_inB ?_ fun _=>zFja fun _ _=>zcba (fun _=>w_inB ?_ fun _=>zgaa (n:=350) ?_ ?_ fun _ _ _=>ih ?_ ?_ ?_ ?_ ?_ ?_ ?_ q0) fun _=>ih ?_ ?_ ?_ ?_ ?_ ?_ ?_ q0) fun _=>q0 _ ?_ ?_
  all_goals first|with_reducible assumption|omega|with_reducible exact (zuaa _).1|with_reducible exact (zuaa _).2|rfl|(simp (disch:=omega) only[Cn,kA,kB,kC,kD,kE,kF,kG,kH,kI,kJ,kK]<;>omega)|((iterate 2 (try simp (disch:=omega) only[Cn,kA,kB,kC,kD,kE,kF,kG,kH,kI,kJ,kK]at *))<;>omega)|with_reducible exact zc1a (by assumption) (by assumption)
theorem zg0a {a0:It21} {K:List Tq×Tl×It2→Int→Option R} (p0:SM a0) (hk:∀(r0:List Tq×Tl×It2) (r1:Int),(r1=0→Cn r0 (70) (350))→(∀t∈r0.1,TyOk t)→Φ (K r0 r1)):Φ (zzPa a0 K):=by
 have ⟨z,y1,y2,y3,y4,y5,y6,y7,y8⟩:=p0;unfold zzPa
 try dsimp only
 try simp only[zKaa]
 refine zkWa ?_ ?_ ?_ ?_ ?_ ?_ ?_ ?_ (zdaa ?_) (fun _ _ _=>zgAa ?_ ?_ ?_ fun _ _ _=>zyIa ?_ ?_ ?_ fun _ _ _=>zYwa ?_ ?_ ?_ fun _ _ _=>zQTa ?_ ?_ ?_ ?_ ?_ ?_ (zdaa ?_) (fun _ _ _=>zxua ?_ ?_ ?_ fun _ _ _=>zPTa ?_ ?_ ?_ ?_ ?_ ?_ (zdaa ?_) (fun _ _ _=>w_ne (fun _=>hk _ _ ?_ ?_) fun _=>hk _ _ ?_ ?_)))
 all_goals first|with_reducible exact zY2a|with_reducible assumption|omega|with_reducible exact (zuaa _).1|with_reducible exact (zuaa _).2|rfl|(simp (disch:=omega) only[Cn,kA,kB,kC,kD,kE,kF,kG,kH,kI,kJ,kK]<;>omega)|((iterate 2 (try simp (disch:=omega) only[Cn,kA,kB,kC,kD,kE,kF,kG,kH,kI,kJ,kK]at *))<;>omega)
theorem zeNa {a0:It21} {K:List Tq×Tl×It2→Bool→Option R} (p0:RawOk a0) (hk:∀(r0:List Tq×Tl×It2) (r1:Bool),(r1=true→SM a0∧(∀t∈r0.1,TyOk t)∧Cn r0 (70) (350))→Φ (K r0 r1)):Φ (zZda a0 K):=by
 unfold zZda
 try dsimp only
 refine zuRa ?_ fun _ _=>w_not (zcba (fun _=>zhPa ?_ fun _=>w_not (zcba (fun _=>zg0a ?_ fun _ _ _ _=>hk _ _ ?_) fun _=>hk _ _ ?_)) fun _=>hk _ _ ?_)
 all_goals first|with_reducible assumption|omega|with_reducible exact (zuaa _).1|with_reducible exact (zuaa _).2|rfl|(simp (disch:=omega) only[Cn,kA,kB,kC,kD,kE,kF,kG,kH,kI,kJ,kK]<;>omega)|((iterate 2 (try simp (disch:=omega) only[Cn,kA,kB,kC,kD,kE,kF,kG,kH,kI,kJ,kK]at *))<;>omega)|exact fun h=>by cases h|with_reducible exact zc1a (by assumption) (by assumption)|exact zP2a (by assumption) (by assumption) (by assumption) (by assumption)
end Go.Trm.G1
