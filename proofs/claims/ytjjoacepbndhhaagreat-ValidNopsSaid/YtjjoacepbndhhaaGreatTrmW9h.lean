import Derived.Test.YtjjoacepbndhhaaGreatTrmW5h
set_option linter.unusedVariables false
set_option linter.unusedSimpArgs false
namespace Go.Trm.G1
variable {R:Type} {Φ:Option R→Prop}
theorem zmPa {f5:Tl} {f6:Int} {k_ret:Bool→Option R} {k_exit_0:Option R}:∀ {n:Nat} {f7:Int},(f6=(f5.length:Int))→(0≤f7)→(f5.length≤1000000000)→(f7≤f6)→(f6-f7).toNat<n→(∀(w0:Bool),Φ (k_ret w0))→(Φ (k_exit_0))→Φ (loopN (zosa k_ret k_exit_0) n ⟨f5,f6,f7⟩):=by
 intro n
 induction n with
 |zero=>intros; omega
 |succ n ih =>
  intro f7 i0 i1 i2 i3 hm q0 q1;rw[zaaa];unfold zosa
  try dsimp only
  refine w_dec (fun _=>w_inB ?_ fun _=>w_dec (fun _=>q0 _) fun _=>w_dec (fun _=>q0 _) fun _=>ih ?_ ?_ ?_ ?_ ?_ q0 q1) fun _=>q1
  all_goals first|omega|assumption|(simp (disch:=omega) only[kA,kB,kC,kD,kE,kF,kG,kH,kI,kJ,kK]<;>omega)
theorem ztta {a0:Tl} {K:Bool→Option R} (p0:a0.length≤1000000000) (hk:∀(r0:Bool),Φ (K r0)):Φ (zkja a0 K):=by
 unfold zkja
 try dsimp only
 refine zmPa ?_ ?_ ?_ ?_ (zdaa ?_) (fun _=>hk _) (hk _)
 all_goals omega
theorem zWfa {a0:Tm} {K:Bool→Option R} (hk:∀(r0:Bool),Φ (K r0)):Φ (zIda a0 K):=by
 unfold zIda
 try dsimp only
 exact w_dec (fun _=>w_dec (fun _=>w_dec (fun _=>w_dec (fun _=>zcba (fun _=>hk _) fun _=>hk _) fun _=>hk _) fun _=>hk _) fun _=>hk _) fun _=>hk _
theorem zFxa {f1:It21} {f33:List Tp} {f34:Int} {k_exit_0:It21→Bool→Option R}:∀ {n:Nat} {f3:Bool} {f35:Int},(f34=(f33.length:Int))→(0≤f35)→(f33.length≤1000000000)→(f35≤f34)→(f34-f35).toNat<n→(∀(w1:Bool),Φ (k_exit_0 f1 w1))→Φ (loopN (ziia k_exit_0) n ⟨f1,f3,f33,f34,f35⟩):=by
 intro n
 induction n with
 |zero=>intros; omega
 |succ n ih =>
  intro f3 f35 i0 i1 i2 i3 hm q0;rw[zaaa];unfold ziia
  try dsimp only
  refine w_dec (fun _=>w_inB ?_ fun _=>zcba (fun _=>ztta ?_ fun _=>zcba (fun _=>w_dec (fun _=>w_dec (fun _=>w_ne (fun _=>w_ne (fun _=>zcba (fun _=>w_ne (fun _=>ih ?_ ?_ ?_ ?_ ?_ q0) fun _=>w_eq (fun _=>ih ?_ ?_ ?_ ?_ ?_ q0) fun _=>ih ?_ ?_ ?_ ?_ ?_ q0) fun _=>w_ne (fun _=>zWfa fun _=>zcba (fun _=>w_ne (fun _=>ih ?_ ?_ ?_ ?_ ?_ q0) fun _=>w_eq (fun _=>ih ?_ ?_ ?_ ?_ ?_ q0) fun _=>ih ?_ ?_ ?_ ?_ ?_ q0) fun _=>ih ?_ ?_ ?_ ?_ ?_ q0) fun _=>ih ?_ ?_ ?_ ?_ ?_ q0) fun _=>w_ne (fun _=>zWfa fun _=>zcba (fun _=>w_ne (fun _=>ih ?_ ?_ ?_ ?_ ?_ q0) fun _=>w_eq (fun _=>ih ?_ ?_ ?_ ?_ ?_ q0) fun _=>ih ?_ ?_ ?_ ?_ ?_ q0) fun _=>ih ?_ ?_ ?_ ?_ ?_ q0) fun _=>ih ?_ ?_ ?_ ?_ ?_ q0) fun _=>w_ne (fun _=>zWfa fun _=>zcba (fun _=>w_ne (fun _=>ih ?_ ?_ ?_ ?_ ?_ q0) fun _=>w_eq (fun _=>ih ?_ ?_ ?_ ?_ ?_ q0) fun _=>ih ?_ ?_ ?_ ?_ ?_ q0) fun _=>ih ?_ ?_ ?_ ?_ ?_ q0) fun _=>ih ?_ ?_ ?_ ?_ ?_ q0) fun _=>ih ?_ ?_ ?_ ?_ ?_ q0) fun _=>ih ?_ ?_ ?_ ?_ ?_ q0) fun _=>ih ?_ ?_ ?_ ?_ ?_ q0) fun _=>ih ?_ ?_ ?_ ?_ ?_ q0) fun _=>q0 _
  all_goals first|omega|assumption|(simp (disch:=omega) only[kA,kB,kC,kD,kE,kF,kG,kH,kI,kJ,kK]<;>omega)
theorem zExa {f1:It21} {f104:List Tm} {f105:Int} {k_exit_2:It21→Bool→Option R}:∀ {n:Nat} {f3:Bool} {f106:Int},(f105=(f104.length:Int))→(0≤f106)→(f104.length≤1000000000)→(f106≤f105)→(f105-f106).toNat<n→(∀(w1:Bool),Φ (k_exit_2 f1 w1))→Φ (loopN (zhia k_exit_2) n ⟨f1,f3,f104,f105,f106⟩):=by
 intro n
 induction n with
 |zero=>intros; omega
 |succ n ih =>
  intro f3 f106 i0 i1 i2 i3 hm q0;rw[zaaa];unfold zhia
  try dsimp only
  refine w_dec (fun _=>w_inB ?_ fun _=>zcba (fun _=>zWfa fun _=>ih ?_ ?_ ?_ ?_ ?_ q0) fun _=>ih ?_ ?_ ?_ ?_ ?_ q0) fun _=>q0 _
  all_goals first|omega|assumption|(simp (disch:=omega) only[kA,kB,kC,kD,kE,kF,kG,kH,kI,kJ,kK]<;>omega)
theorem zuKa {f4:Tl} {f10:List Tl} {f11 f12:Int} {k_ret:Bool→Option R} {k_exit_2:List Tl→Int→Int→Option R}:∀ {n:Nat} {f5:Int},(0≤f5)→(f4.length≤1000000000)→(f5≤f4.length)→((f4.length:Int)-f5).toNat<n→(∀(w0:Bool),Φ (k_ret w0))→(Φ (k_exit_2 f10 f11 f12))→Φ (loopN (zvma k_ret k_exit_2) n ⟨f4,f5,f10,f11,f12⟩):=by
 intro n
 induction n with
 |zero=>intros; omega
 |succ n ih =>
  intro f5 i0 i1 i2 hm q0 q1;rw[zaaa];unfold zvma
  try dsimp only
  refine w_dec (fun _=>w_inB ?_ fun _=>w_ne (fun _=>w_inB ?_ fun _=>w_ne (fun _=>q0 _) fun _=>ih ?_ ?_ ?_ ?_ q0 q1) fun _=>ih ?_ ?_ ?_ ?_ q0 q1) fun _=>q1
  all_goals first|omega|assumption|(simp (disch:=omega) only[kA,kB,kC,kD,kE,kF,kG,kH,kI,kJ,kK]<;>omega)
theorem zvKa {f10:List Tl} {f11:Int} {k_ret:Bool→Option R} {k_exit_0:Option R}:∀ {n:Nat} {f12:Int},(f11=(f10.length:Int))→(0≤f12)→(f10.length≤1000000000)→(f12≤f11)→(∀y∈f10,y.length≤3000)→(f11-f12).toNat<n→(∀(w0:Bool),Φ (k_ret w0))→(Φ (k_exit_0))→Φ (loopN (zwma k_ret k_exit_0) n ⟨f10,f11,f12⟩):=by
 intro n
 induction n with
 |zero=>intros; omega
 |succ n ih =>
  intro f12 i0 i1 i2 i3 i4 hm q0 q1;have g:=lget i4 f12.toNat;rw[zaaa];unfold zwma
  try dsimp only
  refine w_dec (fun _=>w_inB ?_ fun _=>w_dec (fun _=>q0 _) fun _=>zuKa ?_ ?_ ?_ (zdaa ?_) (fun _=>q0 _) (ih ?_ ?_ ?_ ?_ ?_ ?_ q0 q1)) fun _=>q1
  all_goals first|omega|assumption|(simp (disch:=omega) only[kA,kB,kC,kD,kE,kF,kG,kH,kI,kJ,kK]<;>omega)
theorem zxRa {a0:Tq} {K:Bool→Option R} (p0:a0.1.length≤3000) (p1:a0.2.1.length≤3000) (hk:∀(r0:Bool),Φ (K r0)):Φ (zNra a0 K):=by
 unfold zNra
 try dsimp only
 refine zvKa ?_ ?_ ?_ ?_ ?_ (zdaa ?_) (fun _=>hk _) (hk _)
 all_goals first|with_reducible assumption|omega|with_reducible exact (zuaa _).1|with_reducible exact (zuaa _).2|rfl|(simp (disch:=omega) only[kA,kB,kC,kD,kE,kF,kG,kH,kI,kJ,kK]<;>omega)|((iterate 2 (try simp (disch:=omega) only[kA,kB,kC,kD,kE,kF,kG,kH,kI,kJ,kK]at *))<;>omega)|with_reducible exact zS1a (by assumption) (by assumption)
theorem zGwa {f1:It21} {f117:List Tq} {f118:Int} {k_exit_4:It21→Bool→Option R}:∀ {n:Nat} {f3:Bool} {f119:Int},(f118=(f117.length:Int))→(0≤f119)→(f117.length≤1000000000)→(f119≤f118)→(∀y∈f117,TyOk y)→(f118-f119).toNat<n→(∀(w1:Bool),Φ (k_exit_4 f1 w1))→Φ (loopN (zmha k_exit_4) n ⟨f1,f3,f117,f118,f119⟩):=by
 intro n
 induction n with
 |zero=>intros; omega
 |succ n ih =>
  intro f3 f119 i0 i1 i2 i3 i4 hm q0;have ⟨g,g2⟩:=tget i4 f119.toNat;rw[zaaa];unfold zmha
  try dsimp only
  refine w_dec (fun _=>w_inB ?_ fun _=>zcba (fun _=>zxRa ?_ ?_ fun _=>ih ?_ ?_ ?_ ?_ ?_ ?_ q0) fun _=>ih ?_ ?_ ?_ ?_ ?_ ?_ q0) fun _=>q0 _
  all_goals first|omega|assumption|(simp (disch:=omega) only[kA,kB,kC,kD,kE,kF,kG,kH,kI,kJ,kK]<;>omega)
theorem zFwa {f1:It21} {f130:List Tg} {f131:Int} {k_exit_6:It21→Bool→Option R}:∀ {n:Nat} {f3:Bool} {f132:Int},(f131=(f130.length:Int))→(0≤f132)→(f130.length≤1000000000)→(f132≤f131)→(∀y∈f130,GvOk y)→(f131-f132).toNat<n→(∀(w1:Bool),Φ (k_exit_6 f1 w1))→Φ (loopN (zlha k_exit_6) n ⟨f1,f3,f130,f131,f132⟩):=by
 intro n
 induction n with
 |zero=>intros; omega
 |succ n ih =>
  intro f3 f132 i0 i1 i2 i3 i4 hm q0;have g:=gget i4 f132.toNat;rw[zaaa];unfold zlha
  try dsimp only
  refine w_dec (fun _=>w_inB ?_ fun _=>zcba (fun _=>w_eq (fun _=>zBja ?_ fun _=>ih ?_ ?_ ?_ ?_ ?_ ?_ q0) fun _=>w_eq (fun _=>zBja ?_ fun _=>ih ?_ ?_ ?_ ?_ ?_ ?_ q0) fun _=>ih ?_ ?_ ?_ ?_ ?_ ?_ q0) fun _=>ih ?_ ?_ ?_ ?_ ?_ ?_ q0) fun _=>q0 _
  all_goals first|omega|assumption|(simp (disch:=omega) only[kA,kB,kC,kD,kE,kF,kG,kH,kI,kJ,kK]<;>omega)
theorem zEwa {f1:It21} {f154:List Tx} {f155:Int} {k_exit_8:It21→Bool→Option R}:∀ {n:Nat} {f3:Bool} {f156:Int},(f155=(f154.length:Int))→(0≤f156)→(f154.length≤1000000000)→(f156≤f155)→(f155-f156).toNat<n→(∀(w1:Bool),Φ (k_exit_8 f1 w1))→Φ (loopN (zkha k_exit_8) n ⟨f1,f3,f154,f155,f156⟩):=by
 intro n
 induction n with
 |zero=>intros; omega
 |succ n ih =>
  intro f3 f156 i0 i1 i2 i3 hm q0;rw[zaaa];unfold zkha
  try dsimp only
  refine w_dec (fun _=>w_inB ?_ fun _=>zcba (fun _=>ztta ?_ fun _=>zcba (fun _=>w_dec (fun _=>ih ?_ ?_ ?_ ?_ ?_ q0) fun _=>ih ?_ ?_ ?_ ?_ ?_ q0) fun _=>ih ?_ ?_ ?_ ?_ ?_ q0) fun _=>ih ?_ ?_ ?_ ?_ ?_ q0) fun _=>q0 _
  all_goals first|omega|assumption|(simp (disch:=omega) only[kA,kB,kC,kD,kE,kF,kG,kH,kI,kJ,kK]<;>omega)
theorem zlfa {f1:It21} {f179:List Te} {f180 f181:Int} {f207:Tl} {f208:Int} {k_exit_12:It21→Bool→List Te→Int→Int→Option R}:∀ {n:Nat} {f3:Bool} {f209:Int},(f208=(f207.length:Int))→(0≤f209)→(f207.length≤1000000000)→(f209≤f208)→(f208-f209).toNat<n→(∀(w1:Bool),Φ (k_exit_12 f1 w1 f179 f180 f181))→Φ (loopN (zzea k_exit_12) n ⟨f1,f3,f179,f180,f181,f207,f208,f209⟩):=by
 intro n
 induction n with
 |zero=>intros; omega
 |succ n ih =>
  intro f3 f209 i0 i1 i2 i3 hm q0;rw[zaaa];unfold zzea
  try dsimp only
  refine w_dec (fun _=>w_inB ?_ fun _=>zcba (fun _=>w_dec (fun _=>ih ?_ ?_ ?_ ?_ ?_ q0) fun _=>ih ?_ ?_ ?_ ?_ ?_ q0) fun _=>ih ?_ ?_ ?_ ?_ ?_ q0) fun _=>q0 _
  all_goals first|omega|assumption|(simp (disch:=omega) only[kA,kB,kC,kD,kE,kF,kG,kH,kI,kJ,kK]<;>omega)
theorem zDwa {f1:It21} {f179:List Te} {f180:Int} {k_exit_10:It21→Bool→Option R}:∀ {n:Nat} {f3:Bool} {f181:Int},(f180=(f179.length:Int))→(0≤f181)→(f179.length≤1000000000)→(f181≤f180)→(∀y∈f179,ElOk y)→(f180-f181).toNat<n→(∀(w1:Bool),Φ (k_exit_10 f1 w1))→Φ (loopN (zjha k_exit_10) n ⟨f1,f3,f179,f180,f181⟩):=by
 intro n
 induction n with
 |zero=>intros; omega
 |succ n ih =>
  intro f3 f181 i0 i1 i2 i3 i4 hm q0;have ⟨g,g2⟩:=eget i4 f181.toNat;rw[zaaa];unfold zjha
  try dsimp only
  refine w_dec (fun _=>w_inB ?_ fun _=>zcba (fun _=>w_dec (fun _=>w_dec (fun _=>w_ne (fun _=>zlfa ?_ ?_ ?_ ?_ (zdaa ?_) (fun _=>ih ?_ ?_ ?_ ?_ ?_ ?_ q0)) fun _=>zBja ?_ fun _=>zlfa ?_ ?_ ?_ ?_ (zdaa ?_) (fun _=>ih ?_ ?_ ?_ ?_ ?_ ?_ q0)) fun _=>zlfa ?_ ?_ ?_ ?_ (zdaa ?_) (fun _=>ih ?_ ?_ ?_ ?_ ?_ ?_ q0)) fun _=>zlfa ?_ ?_ ?_ ?_ (zdaa ?_) (fun _=>ih ?_ ?_ ?_ ?_ ?_ ?_ q0)) fun _=>zlfa ?_ ?_ ?_ ?_ (zdaa ?_) (fun _=>ih ?_ ?_ ?_ ?_ ?_ ?_ q0)) fun _=>q0 _
  all_goals first|omega|assumption|(simp (disch:=omega) only[kA,kB,kC,kD,kE,kF,kG,kH,kI,kJ,kK]<;>omega)
theorem zCwa {f1:It21} {f225:List Te} {f226:Int} {k_exit_14:It21→Bool→Option R}:∀ {n:Nat} {f3:Bool} {f227:Int},(f226=(f225.length:Int))→(0≤f227)→(f225.length≤1000000000)→(f227≤f226)→(∀y∈f225,ElOk y)→(f226-f227).toNat<n→(∀(w1:Bool),Φ (k_exit_14 f1 w1))→Φ (loopN (ziha k_exit_14) n ⟨f1,f3,f225,f226,f227⟩):=by
 intro n
 induction n with
 |zero=>intros; omega
 |succ n ih =>
  intro f3 f227 i0 i1 i2 i3 i4 hm q0;have ⟨g,g2⟩:=eget i4 f227.toNat;rw[zaaa];unfold ziha
  try dsimp only
  refine w_dec (fun _=>w_inB ?_ fun _=>zcba (fun _=>w_dec (fun _=>w_dec (fun _=>w_ne (fun _=>ih ?_ ?_ ?_ ?_ ?_ ?_ q0) fun _=>zBja ?_ fun _=>ih ?_ ?_ ?_ ?_ ?_ ?_ q0) fun _=>ih ?_ ?_ ?_ ?_ ?_ ?_ q0) fun _=>ih ?_ ?_ ?_ ?_ ?_ ?_ q0) fun _=>ih ?_ ?_ ?_ ?_ ?_ ?_ q0) fun _=>q0 _
  all_goals first|omega|assumption|(simp (disch:=omega) only[kA,kB,kC,kD,kE,kF,kG,kH,kI,kJ,kK]<;>omega)
theorem zgna {f254:List Tf} {f255 f256:Int} {f273:Tl} {f274:Int} {k_exit_18:Bool→List Tf→Int→Int→Option R}:∀ {n:Nat} {f3:Bool} {f275:Int},(f274=(f273.length:Int))→(0≤f275)→(f273.length≤1000000000)→(f275≤f274)→(f274-f275).toNat<n→(∀(w0:Bool),Φ (k_exit_18 w0 f254 f255 f256))→Φ (loopN (zgha k_exit_18) n ⟨f3,f254,f255,f256,f273,f274,f275⟩):=by
 intro n
 induction n with
 |zero=>intros; omega
 |succ n ih =>
  intro f3 f275 i0 i1 i2 i3 hm q0;rw[zaaa];unfold zgha
  try dsimp only
  refine w_dec (fun _=>w_inB ?_ fun _=>zcba (fun _=>w_eq (fun _=>ih ?_ ?_ ?_ ?_ ?_ q0) fun _=>ih ?_ ?_ ?_ ?_ ?_ q0) fun _=>ih ?_ ?_ ?_ ?_ ?_ q0) fun _=>q0 _
  all_goals first|omega|assumption|(simp (disch:=omega) only[kA,kB,kC,kD,kE,kF,kG,kH,kI,kJ,kK]<;>omega)
theorem zBwa {f254:List Tf} {f255:Int} {k_exit_16:Bool→Option R}:∀ {n:Nat} {f3:Bool} {f256:Int},(f255=(f254.length:Int))→(0≤f256)→(f254.length≤1000000000)→(f256≤f255)→(∀y∈f254,FnOk y)→(f255-f256).toNat<n→(∀(w0:Bool),Φ (k_exit_16 w0))→Φ (loopN (zhha k_exit_16) n ⟨f3,f254,f255,f256⟩):=by
 intro n
 induction n with
 |zero=>intros; omega
 |succ n ih =>
  intro f3 f256 i0 i1 i2 i3 i4 hm q0;have ⟨g,g2⟩:=fget i4 f256.toNat;rw[zaaa];unfold zhha
  try dsimp only
  refine w_dec (fun _=>w_inB ?_ fun _=>zcba (fun _=>ztta ?_ fun _=>zcba (fun _=>zBja ?_ fun _=>zgna ?_ ?_ ?_ ?_ (zdaa ?_) (fun _=>ih ?_ ?_ ?_ ?_ ?_ ?_ q0)) fun _=>zgna ?_ ?_ ?_ ?_ (zdaa ?_) (fun _=>ih ?_ ?_ ?_ ?_ ?_ ?_ q0)) fun _=>zgna ?_ ?_ ?_ ?_ (zdaa ?_) (fun _=>ih ?_ ?_ ?_ ?_ ?_ ?_ q0)) fun _=>q0 _
  all_goals first|omega|assumption|(simp (disch:=omega) only[kA,kB,kC,kD,kE,kF,kG,kH,kI,kJ,kK]<;>omega)
theorem ztRa {a0:It21} {K:Bool→Option R} (p0:SM a0) (hk:∀(r0:Bool),Φ (K r0)):Φ (zJra a0 K):=by
 have ⟨z,y1,y2,y3,y4,y5,y6,y7,y8⟩:=p0;unfold zJra
 try dsimp only
 refine ztta ?_ fun _=>zcba (fun _=>ztta ?_ fun _=>zFxa ?_ ?_ ?_ ?_ (zdaa ?_) (fun _=>w_mst ?_<|w_mst ?_<|zExa ?_ ?_ ?_ ?_ (zdaa ?_) (fun _=>zGwa ?_ ?_ ?_ ?_ ?_ (zdaa ?_) (fun _=>zFwa ?_ ?_ ?_ ?_ ?_ (zdaa ?_) (fun _=>zEwa ?_ ?_ ?_ ?_ (zdaa ?_) (fun _=>zDwa ?_ ?_ ?_ ?_ ?_ (zdaa ?_) (fun _=>zCwa ?_ ?_ ?_ ?_ ?_ (zdaa ?_) (fun _=>zBwa ?_ ?_ ?_ ?_ ?_ (zdaa ?_) (fun _=>hk _))))))))) fun _=>zFxa ?_ ?_ ?_ ?_ (zdaa ?_) (fun _=>w_mst ?_<|w_mst ?_<|zExa ?_ ?_ ?_ ?_ (zdaa ?_) (fun _=>zGwa ?_ ?_ ?_ ?_ ?_ (zdaa ?_) (fun _=>zFwa ?_ ?_ ?_ ?_ ?_ (zdaa ?_) (fun _=>zEwa ?_ ?_ ?_ ?_ (zdaa ?_) (fun _=>zDwa ?_ ?_ ?_ ?_ ?_ (zdaa ?_) (fun _=>zCwa ?_ ?_ ?_ ?_ ?_ (zdaa ?_) (fun _=>zBwa ?_ ?_ ?_ ?_ ?_ (zdaa ?_) (fun _=>hk _))))))))
 all_goals first|omega|assumption|(simp (disch:=omega) only[kA,kB,kC,kD,kE,kF,kG,kH,kI,kJ,kK]<;>omega)
end Go.Trm.G1
namespace Go.Trm.G1
variable {R:Type} {Φ:Option R→Prop}
theorem znca {a0:Tl} {a1:Int} {K:Tl→Option R} (p0:a0.length≤4000000000) (hk:∀(r0:Tl),(r0.length≤a0.length+10)→Φ (K r0)):Φ (zCba a0 a1 K):=by
 unfold zCba
 try dsimp only
 refine zfda fun _ _=>w_mst ?_<|hk _ ?_
 all_goals first|omega|assumption|(simp (disch:=omega) only[kA,kB,kC,kD,kE,kF,kG,kH,kI,kJ,kK]<;>omega)
theorem zVCa {N:Nat} {f5:Tl} {f12:List Tl} {f13 f14:Int} {k_exit_2:Tl→List Tl→Int→Int→Option R}:∀ {n:Nat} {f3:Tl} {f6:Int},(0≤f6)→(f5.length≤1000000000)→(f6≤f5.length)→(f5.length≤3000)→(N≤1000000)→(f3.length≤N+f6)→((f5.length:Int)-f6).toNat<n→(∀(w0:Tl),(w0.length≤N+3000)→Φ (k_exit_2 w0 f12 f13 f14))→Φ (loopN (zyga k_exit_2) n ⟨f3,f5,f6,f12,f13,f14⟩):=by
 intro n
 induction n with
 |zero=>intros; omega
 |succ n ih =>
  intro f3 f6 i0 i1 i2 i3 i4 i5 hm q0;rw[zaaa];unfold zyga
  try dsimp only
  refine w_dec (fun _=>w_inB ?_ fun _=>w_mst ?_<|ih ?_ ?_ ?_ ?_ ?_ ?_ ?_ q0) fun _=>q0 _ ?_
  all_goals first|omega|assumption|(simp (disch:=omega) only[kA,kB,kC,kD,kE,kF,kG,kH,kI,kJ,kK]<;>omega)
theorem zWCa {f12:List Tl} {f13:Int} {k_exit_0:Tl→Option R}:∀ {n:Nat} {f3:Tl} {f14:Int},(f13=(f12.length:Int))→(0≤f14)→(f12.length≤1000000000)→(f14≤f13)→(∀y∈f12,y.length≤3000)→(f12.length=2)→(f3.length≤1+3001*f14)→(f13-f14).toNat<n→(∀(w0:Tl),(w0.length≤6003)→Φ (k_exit_0 w0))→Φ (loopN (zzga k_exit_0) n ⟨f3,f12,f13,f14⟩):=by
 intro n
 induction n with
 |zero=>intros; omega
 |succ n ih =>
  intro f3 f14 i0 i1 i2 i3 i4 i5 i6 hm q0;have g:=lget i4 f14.toNat;rw[zaaa];unfold zzga
  try dsimp only
  refine w_dec (fun _=>w_inB ?_ fun _=>w_mst ?_<|zVCa (N:=f3.length+1) ?_ ?_ ?_ ?_ ?_ ?_ (zdaa ?_) (fun _ _=>ih ?_ ?_ ?_ ?_ ?_ ?_ ?_ ?_ q0)) fun _=>q0 _ ?_
  all_goals first|omega|assumption|(simp (disch:=omega) only[kA,kB,kC,kD,kE,kF,kG,kH,kI,kJ,kK]<;>omega)
theorem zxIa {a0:Tq} {K:Tl→Option R} (p0:a0.1.length≤3000) (p1:a0.2.1.length≤3000) (hk:∀(r0:Tl),(r0.length≤6003)→Φ (K r0)):Φ (zxia a0 K):=by
 unfold zxia
 try dsimp only
 refine zWCa ?_ ?_ ?_ ?_ ?_ ?_ ?_ (zdaa ?_) (fun _ _=>hk _ ?_)
 all_goals first|with_reducible assumption|omega|with_reducible exact (zuaa _).1|with_reducible exact (zuaa _).2|rfl|(simp (disch:=omega) only[kA,kB,kC,kD,kE,kF,kG,kH,kI,kJ,kK]<;>omega)|((iterate 2 (try simp (disch:=omega) only[kA,kB,kC,kD,kE,kF,kG,kH,kI,kJ,kK]at *))<;>omega)|with_reducible exact zS1a (by assumption) (by assumption)
theorem zBRa {a0:Tb} {K:Tl→Option R} (p0:a0.length≤3000) (hk:∀(r0:Tl),(r0.length≤3010)→Φ (K r0)):Φ (zRra a0 K):=by
 unfold zRra
 try dsimp only
 refine zfda fun _ _=>w_mst ?_<|hk _ ?_
 all_goals first|omega|assumption|(simp (disch:=omega) only[kA,kB,kC,kD,kE,kF,kG,kH,kI,kJ,kK]<;>omega)
theorem ztua {a0:Tl} {a1:Tb} {K:Tl→Option R} (p0:a0.length≤4000000000) (p1:a1.length≤3000) (hk:∀(r0:Tl),(r0.length≤a0.length+3010)→Φ (K r0)):Φ (zKea a0 a1 K):=by
 unfold zKea
 try dsimp only
 refine zBRa ?_ fun _ _=>w_mst ?_<|hk _ ?_
 all_goals first|omega|assumption|(simp (disch:=omega) only[kA,kB,kC,kD,kE,kF,kG,kH,kI,kJ,kK]<;>omega)
theorem zAua {f0:Int} {f3:It21} {f6:Int} {f7:Tl} {f8:Int} {f9:Tp} {k_normal:Int→It21→Int→Tl→Int→Tp→Option R} (p0:f7.length≤1000000000) (p1:f9.1.length≤3000) (p2:f9.2.1.length≤3000) (q0:(∀(w3:Tl),(w3.length≤f7.length+6021)→Φ (k_normal f0 f3 f6 w3 f8 f9))):Φ (zxda k_normal ⟨f0,f3,f6,f7,f8,f9⟩):=by
 unfold zxda
 try dsimp only
 try simp only[zKaa]
 refine ztua ?_ ?_ fun _ _=>ztua ?_ ?_ fun _ _=>w_mst ?_<|q0 _ ?_
 all_goals first|omega|assumption|(simp (disch:=omega) only[kA,kB,kC,kD,kE,kF,kG,kH,kI,kJ,kK]<;>omega)
theorem zfEa {a0:Tm} {K:Tl→Option R} (hk:∀(r0:Tl),(r0.length≤21)→Φ (K r0)):Φ (zdga a0 K):=by
 unfold zdga
 try dsimp only
 try simp only[zKaa]
 refine zcba (fun _=>zfda fun _ _=>w_mst ?_<|zfda fun _ _=>w_mst ?_<|hk _ ?_) fun _=>zfda fun _ _=>w_mst ?_<|hk _ ?_
 all_goals first|omega|assumption|(simp (disch:=omega) only[kA,kB,kC,kD,kE,kF,kG,kH,kI,kJ,kK]<;>omega)
theorem zsoa {a0:Tl} {a1:Tm} {K:Tl→Option R} (p0:a0.length≤4000000000) (hk:∀(r0:Tl),(r0.length≤a0.length+21)→Φ (K r0)):Φ (zLea a0 a1 K):=by
 unfold zLea
 try dsimp only
 refine zfEa fun _ _=>w_mst ?_<|hk _ ?_
 all_goals first|omega|assumption|(simp (disch:=omega) only[kA,kB,kC,kD,kE,kF,kG,kH,kI,kJ,kK]<;>omega)
theorem ziKa {a0:Tl} {a1:Bool} {K:Tl→Option R} (p0:a0.length≤4000000000) (hk:∀(r0:Tl),(r0.length≤a0.length+1)→Φ (K r0)):Φ (zVpa a0 a1 K):=by
 unfold zVpa
 try dsimp only
 refine zcba (fun _=>w_mst ?_<|hk _ ?_) fun _=>w_mst ?_<|hk _ ?_
 all_goals first|omega|assumption|(simp (disch:=omega) only[kA,kB,kC,kD,kE,kF,kG,kH,kI,kJ,kK]<;>omega)
theorem zuua {a0:Tl} {a1:Tj} {K:Tl→Option R} (p0:a0.length≤4000000000) (p1:zwwa a1) (hk:∀(r0:Tl),(r0.length≤a0.length+93000)→Φ (K r0)):Φ (zSia a0 a1 K):=by
 unfold zSia
 try dsimp only
 refine zEOa ?_ fun _ _=>w_mst ?_<|hk _ ?_
 all_goals first|omega|assumption|(simp (disch:=omega) only[kA,kB,kC,kD,kE,kF,kG,kH,kI,kJ,kK]<;>omega)
theorem zSCa {f0:Tl} {f3:Te} {k_exit_0:Tl→Te→Bool→Option R}:∀ {n:Nat} {f5:Bool} {f6:Int},(0≤f6)→(f3.2.2.1.length≤1000000000)→(f6≤f3.2.2.1.length)→((f3.2.2.1.length:Int)-f6).toNat<n→(∀(w2:Bool),Φ (k_exit_0 f0 f3 w2))→Φ (loopN (zvga k_exit_0) n ⟨f0,f3,f5,f6⟩):=by
 intro n
 induction n with
 |zero=>intros; omega
 |succ n ih =>
  intro f5 f6 i0 i1 i2 hm q0;rw[zaaa];unfold zvga zEka
  try dsimp only
  refine w_dec (fun _=>zcba (fun _=>ih ?_ ?_ ?_ ?_ q0) fun _=>w_inB ?_ fun _=>ih ?_ ?_ ?_ ?_ q0) fun _=>q0 _
  all_goals first|omega|assumption|(simp (disch:=omega) only[kA,kB,kC,kD,kE,kF,kG,kH,kI,kJ,kK]<;>omega)
theorem zQCa {f0:Tl} {f3:Te} {f5:Bool} {f7:Int} {k_normal:Tl→Te→Bool→Int→Option R} (q0:(∀(w3:Int),Φ (k_normal f0 f3 f5 w3))):Φ (zsga k_normal ⟨f0,f3,f5,f7⟩):=by
 unfold zsga
 try dsimp only
 exact w_eq (fun _=>q0 _) fun _=>q0 _
theorem zlAa {f0:Tl} {f3:Te} {f5:Bool} {f7:Int} {k_normal:Tl→Te→Bool→Int→Option R} (q0:(∀(w3:Int),Φ (k_normal f0 f3 f5 w3))):Φ (zcfa k_normal ⟨f0,f3,f5,f7⟩):=by
 unfold zcfa
 try dsimp only
 exact zcba (fun _=>q0 _) fun _=>q0 _
theorem zkAa {f0:Tl} {f3:Te} {f5:Bool} {k_normal:Tl→Te→Bool→Option R} (p0:f0.length≤3900000000) (p1:zwwa f3.2.1) (q0:(∀(w0:Tl),(w0.length≤f0.length+93000)→Φ (k_normal w0 f3 f5))):Φ (zbfa k_normal ⟨f0,f3,f5⟩):=by
 unfold zbfa
 try dsimp only
 refine w_eq (fun _=>zuua ?_ ?_ fun _ _=>q0 _ ?_) fun _=>q0 _ ?_
 all_goals omega
theorem zjAa {f0:Tl} {f3:Te} {f5:Bool} {k_normal:Tl→Te→Bool→Option R} (p0:f0.length≤4000000000) (q0:(∀(w0:Tl),(w0.length≤f0.length+1)→Φ (k_normal w0 f3 f5))):Φ (zafa k_normal ⟨f0,f3,f5⟩):=by
 unfold zafa
 try dsimp only
 refine w_ne (fun _=>zcba (fun _=>w_mst ?_<|q0 _ ?_) fun _=>q0 _ ?_) fun _=>q0 _ ?_
 all_goals first|omega|assumption|(simp (disch:=omega) only[kA,kB,kC,kD,kE,kF,kG,kH,kI,kJ,kK]<;>omega)
theorem ziAa {f0:Tl} {f3:Te} {f5:Bool} {k_normal:Tl→Te→Bool→Option R} (p0:f0.length≤4000000000) (q0:(∀(w0:Tl),(w0.length≤f0.length+1)→Φ (k_normal w0 f3 f5))):Φ (zZea k_normal ⟨f0,f3,f5⟩):=by
 unfold zZea
 try dsimp only
 refine w_ne (fun _=>w_not (zcba (fun _=>q0 _ ?_) fun _=>w_mst ?_<|q0 _ ?_)) fun _=>q0 _ ?_
 all_goals first|omega|assumption|(simp (disch:=omega) only[kA,kB,kC,kD,kE,kF,kG,kH,kI,kJ,kK]<;>omega)
theorem wJ_ref08_elemBytes_21 {f0:Tl} {f3:Te} {f5:Bool} {f8:Int} {k_normal:Tl→Te→Bool→Int→Option R} (p0:0≤f8∧f8<f3.2.2.1.length) (p1:f0.length≤3900000000) (q0:(∀(w0:Tl),(w0.length≤f0.length+12)→Φ (k_normal w0 f3 f5 f8))):Φ (zaja k_normal ⟨f0,f3,f5,f8⟩):=by
 unfold zaja
 try dsimp only
 try simp only[zKaa]
 refine w_inB ?_ fun _=>w_eq (fun _=>w_mst ?_<|q0 _ ?_) fun _=>zcba (fun _=>w_inB ?_ fun _=>w_mst ?_<|znca ?_ fun _ _=>w_mst ?_<|q0 _ ?_) fun _=>w_inB ?_ fun _=>znca ?_ fun _ _=>q0 _ ?_
 all_goals first|with_reducible assumption|omega|with_reducible exact (zuaa _).1|with_reducible exact (zuaa _).2|rfl|(simp (disch:=omega) only[kA,kB,kC,kD,kE,kF,kG,kH,kI,kJ,kK]<;>omega)|((iterate 2 (try simp (disch:=omega) only[kA,kB,kC,kD,kE,kF,kG,kH,kI,kJ,kK]at *))<;>omega)
theorem znAa {N:Nat} {f3:Te} {f5:Bool} {k_exit_2:Tl→Option R}:∀ {n:Nat} {f0:Tl} {f8:Int},(0≤f8)→(f3.2.2.1.length≤1000000000)→(f8≤f3.2.2.1.length)→(N≤3000000000)→(f3.2.2.1.length≤3000)→(f0.length≤N+12*f8)→((f3.2.2.1.length:Int)-f8).toNat<n→(∀(w0:Tl),(w0.length≤N+36000)→Φ (k_exit_2 w0))→Φ (loopN (zifa k_exit_2) n ⟨f0,f3,f5,f8⟩):=by
 intro n
 induction n with
 |zero=>intros; omega
 |succ n ih =>
  intro f0 f8 i0 i1 i2 i3 i4 i5 hm q0;rw[zaaa];unfold zifa
  try dsimp only
  refine w_dec (fun _=>wJ_ref08_elemBytes_21 ?_ ?_ (fun _ _=>ih ?_ ?_ ?_ ?_ ?_ ?_ ?_ q0)) fun _=>q0 _ ?_
  all_goals first|with_reducible assumption|omega|with_reducible exact (zuaa _).1|with_reducible exact (zuaa _).2|rfl|(simp (disch:=omega) only[kA,kB,kC,kD,kE,kF,kG,kH,kI,kJ,kK]<;>omega)|((iterate 2 (try simp (disch:=omega) only[kA,kB,kC,kD,kE,kF,kG,kH,kI,kJ,kK]at *))<;>omega)
theorem zvIa {a0:Tl} {a1:Te} {K:Tl→Option R} (p0:a0.length≤1000000000) (p1:zwwa a1.2.1) (p2:a1.2.2.1.length≤3000) (hk:∀(r0:Tl),(r0.length≤a0.length+140000)→Φ (K r0)):Φ (zvia a0 a1 K):=by
 unfold zvia
 try dsimp only
 refine zSCa ?_ ?_ ?_ (zdaa ?_) (fun _=>zQCa (fun _=>zlAa (fun _=>znca ?_ fun _ _=>zkAa ?_ ?_ (fun _ _=>zjAa ?_ (fun _ _=>ziAa ?_ (fun _ _=>znca ?_ fun _ _=>znAa (N:=a0.length+93100) ?_ ?_ ?_ ?_ ?_ ?_ (zdaa ?_) (fun _ _=>hk _ ?_)))))))
 all_goals omega
theorem zTCa {f1:Tf} {f3:Tl} {f4 f5:Int} {k_exit_2:Tf→Tl→Int→Int→Int→Option R}:∀ {n:Nat} {f6:Int},(0≤f5)→(f5<f1.2.1.length)→(f5≤f6)→(f6≤f1.2.1.length)→(f1.2.1.length≤3000)→((f1.2.1.length:Int)-f6).toNat<n→(∀(w4:Int),(f5<w4)→(w4≤f1.2.1.length)→Φ (k_exit_2 f1 f3 f4 f5 w4))→Φ (loopN (zwga k_exit_2) n ⟨f1,f3,f4,f5,f6⟩):=by
 intro n
 induction n with
 |zero=>intros; omega
 |succ n ih =>
  intro f6 i0 i1 i2 i3 i4 hm q0;rw[zaaa];unfold zwga zGka
  try dsimp only
  refine w_dec (fun _=>w_inB ?_ fun _=>w_inB ?_ fun _=>w_eq (fun _=>ih ?_ ?_ ?_ ?_ ?_ ?_ q0) fun _=>q0 _ ?_ ?_) fun _=>q0 _ ?_ ?_
  all_goals first|with_reducible assumption|omega|with_reducible exact (zuaa _).1|with_reducible exact (zuaa _).2|rfl|(simp (disch:=omega) only[kA,kB,kC,kD,kE,kF,kG,kH,kI,kJ,kK]<;>omega)|((iterate 2 (try simp (disch:=omega) only[kA,kB,kC,kD,kE,kF,kG,kH,kI,kJ,kK]at *))<;>omega)|with_reducible exact zGXa (by assumption) (by assumption)
theorem wJ_ref08_codeBytes_9 {f1:Tf} {f3:Tl} {f4 f5 f6:Int} {k_normal:Tf→Tl→Int→Int→Option R} (p0:0≤f5∧f5<f1.2.1.length) (p1:f3.length≤1000000000) (q0:(∀(w1:Tl),(w1.length≤f3.length+11)→Φ (k_normal f1 w1 f4 f6))):Φ (zFka k_normal ⟨f1,f3,f4,f5,f6⟩):=by
 unfold zFka
 try dsimp only
 try simp only[zKaa]
 refine w_inB ?_ fun _=>znca ?_ fun _ _=>w_mst ?_<|q0 _ ?_
 all_goals first|omega|assumption|(simp (disch:=omega) only[kA,kB,kC,kD,kE,kF,kG,kH,kI,kJ,kK]<;>omega)
theorem zUCa {f1:Tf} {k_exit_0:Tf→Tl→Int→Option R}:∀ {n:Nat} {f3:Tl} {f4 f5:Int},(0≤f5)→(f1.2.1.length≤1000000000)→(f5≤f1.2.1.length)→(f1.2.1.length≤3000)→(f3.length≤11*f5)→((f1.2.1.length:Int)-f5).toNat<n→(∀(w1:Tl) (w2:Int),(w1.length≤33000)→Φ (k_exit_0 f1 w1 w2))→Φ (loopN (zxga k_exit_0) n ⟨f1,f3,f4,f5⟩):=by
 intro n
 induction n with
 |zero=>intros; omega
 |succ n ih =>
  intro f3 f4 f5 i0 i1 i2 i3 i4 hm q0;rw[zaaa];unfold zxga
  try dsimp only
  refine w_dec (fun _=>zTCa ?_ ?_ ?_ ?_ ?_ (zdaa ?_) (fun _ _ _=>wJ_ref08_codeBytes_9 ?_ ?_ (fun _ _=>ih ?_ ?_ ?_ ?_ ?_ ?_ q0))) fun _=>q0 _ _ ?_
  all_goals first|omega|assumption|(simp (disch:=omega) only[kA,kB,kC,kD,kE,kF,kG,kH,kI,kJ,kK]<;>omega)
theorem zwIa {a0:Tf} {K:Tl→Option R} (p0:a0.2.1.length≤3000) (p1:zwwa a0.2.2.1) (hk:∀(r0:Tl),(r0.length≤126010)→Φ (K r0)):Φ (zwia a0 K):=by
 unfold zwia
 try dsimp only
 refine zUCa ?_ ?_ ?_ ?_ ?_ (zdaa ?_) (fun _ _ _=>znca ?_ fun _ _=>w_mst ?_<|zuua ?_ ?_ fun _ _=>hk _ ?_)
 all_goals first|with_reducible assumption|omega|with_reducible exact (zuaa _).1|with_reducible exact (zuaa _).2|rfl|(simp (disch:=omega) only[kA,kB,kC,kD,kE,kF,kG,kH,kI,kJ,kK]<;>omega)|((iterate 2 (try simp (disch:=omega) only[kA,kB,kC,kD,kE,kF,kG,kH,kI,kJ,kK]at *))<;>omega)
theorem zzua {f0:Int} {f3:It21} {f6:Int} {f7:Tl} {f8:Int} {f12:Te} {k_normal:Int→It21→Int→Tl→Int→Te→Option R} (p0:f7.length≤1000000000) (p1:zwwa f12.2.1) (q0:(∀(w3:Tl),(w3.length≤f7.length+93000)→Φ (k_normal f0 f3 f6 w3 f8 f12))):Φ (zwda k_normal ⟨f0,f3,f6,f7,f8,f12⟩):=by
 unfold zwda
 try dsimp only
 refine w_eq (fun _=>zuua ?_ ?_ fun _ _=>q0 _ ?_) fun _=>q0 _ ?_
 all_goals omega
theorem zBua {f0:Int} {f3:It21} {f6:Int} {f7:Tl} {f8:Int} {k_normal:Int→It21→Int→Tl→Int→Option R} (p0:SM f3) (p1:Cnt f0 f3 f6) (p2:0≤f8) (p3:f8<f6) (p4:f7.length≤900000000) (q0:(∀(w3:Tl),(w3.length≤f7.length+140010)→Φ (k_normal f0 f3 f6 w3 f8))):Φ (zyda k_normal ⟨f0,f3,f6,f7,f8⟩):=by
 have ⟨z,y1,y2,y3,y4,y5,y6,y7,y8⟩:=p0;have ⟨a1,a2⟩:=tget y1 f8.toNat;have ⟨a3,a4⟩:=iget y2 f8.toNat;have ⟨a5,a6⟩:=fget y3 f8.toNat;have a7:=gget y4 f8.toNat;have a8:=xget y5 f8.toNat;have ⟨a9,a10⟩:=eget y6 f8.toNat;have ⟨a11,a12⟩:=eget y7 f8.toNat;unfold Cnt at p1;unfold zyda
 try dsimp only
 try simp only[zKaa]
 refine w_eq (fun _=>w_inB ?_ fun _=>zxIa ?_ ?_ fun _ _=>w_mst ?_<|q0 _ ?_) fun _=>w_eq (fun _=>w_inB ?_ fun _=>zAua ?_ ?_ ?_ (fun _ _=>w_eq (fun _=>znca ?_ fun _ _=>q0 _ ?_) fun _=>w_eq (fun _=>w_mst ?_<|zsoa ?_ fun _ _=>q0 _ ?_) fun _=>w_eq (fun _=>zsoa ?_ fun _ _=>q0 _ ?_) fun _=>w_eq (fun _=>w_mst ?_<|ziKa ?_ fun _ _=>q0 _ ?_) fun _=>q0 _ ?_)) fun _=>w_eq (fun _=>w_inB ?_ fun _=>znca ?_ fun _ _=>q0 _ ?_) fun _=>w_eq (fun _=>w_inB ?_ fun _=>w_mst ?_<|zsoa ?_ fun _ _=>q0 _ ?_) fun _=>w_eq (fun _=>w_inB ?_ fun _=>zsoa ?_ fun _ _=>q0 _ ?_) fun _=>w_eq (fun _=>w_inB ?_ fun _=>w_inB ?_ fun _=>w_inB ?_ fun _=>w_mst ?_<|ziKa ?_ fun _ _=>zuua ?_ ?_ fun _ _=>q0 _ ?_) fun _=>w_eq (fun _=>w_inB ?_ fun _=>ztua ?_ ?_ fun _ _=>w_mst ?_<|znca ?_ fun _ _=>q0 _ ?_) fun _=>w_eq (fun _=>w_inB ?_ fun _=>zvIa ?_ ?_ ?_ fun _ _=>q0 _ ?_) fun _=>w_eq (fun _=>w_inB ?_ fun _=>zwIa ?_ ?_ fun _ _=>znca ?_ fun _ _=>w_mst ?_<|q0 _ ?_) fun _=>w_eq (fun _=>w_inB ?_ fun _=>znca ?_ fun _ _=>zzua ?_ ?_ (fun _ _=>znca ?_ fun _ _=>w_mst ?_<|q0 _ ?_)) fun _=>q0 _ ?_
 all_goals first|with_reducible assumption|omega|with_reducible exact (zuaa _).1|with_reducible exact (zuaa _).2|rfl|(simp (disch:=omega) only[kA,kB,kC,kD,kE,kF,kG,kH,kI,kJ,kK]<;>omega)|((iterate 2 (try simp (disch:=omega) only[kA,kB,kC,kD,kE,kF,kG,kH,kI,kJ,kK]at *))<;>omega)
theorem zCua {f0:Int} {f3:It21} {f6:Int} {k_exit_0:Tl→Option R}:∀ {n:Nat} {f7:Tl} {f8:Int},(SM f3)→(Cnt f0 f3 f6)→(f6≤70)→(0≤f8)→(f8≤70)→(f7.length≤10+140010*f8)→(f6-f8).toNat<n→(∀(w0:Tl),(w0.length≤10000000)→Φ (k_exit_0 w0))→Φ (loopN (zzda k_exit_0) n ⟨f0,f3,f6,f7,f8⟩):=by
 intro n
 induction n with
 |zero=>intros; omega
 |succ n ih =>
  intro f7 f8 i0 i1 i2 i3 i4 i5 hm q0;rw[zaaa];unfold zzda
  try dsimp only
  refine w_dec (fun _=>zBua ?_ ?_ ?_ ?_ ?_ (fun _ _=>ih ?_ ?_ ?_ ?_ ?_ ?_ ?_ q0)) fun _=>q0 _ ?_
  all_goals first|omega|assumption|(simp (disch:=omega) only[kA,kB,kC,kD,kE,kF,kG,kH,kI,kJ,kK]<;>omega)
theorem zKCa {a0:Int} {a1:It21} {K:Tl→Bool→Option R} (p0:1≤a0) (p1:a0≤12) (p2:SM a1) (hk:∀(r0:Tl) (r1:Bool),(r0.length≤10000000)→Φ (K r0 r1)):Φ (zJea a0 a1 K):=by
 have z:=p2.rows;have ⟨g,g2⟩:=cnt8 a0 a1;have g3:=zu3a p0 p1 p2;have g4:=g3.1;unfold zJea
 try dsimp only
 refine w_inB ?_ fun _=>w_eq (fun _=>hk _ _ ?_) fun _=>w_eq (fun _=>w_inB ?_ fun _=>znca ?_ fun _ _=>hk _ _ ?_) fun _=>w_eq (fun _=>w_inB ?_ fun _=>znca ?_ fun _ _=>hk _ _ ?_) fun _=>znca ?_ fun _ _=>zCua ?_ ?_ ?_ ?_ ?_ ?_ (zdaa ?_) (fun _ _=>hk _ _ ?_)
 all_goals first|with_reducible assumption|omega|with_reducible exact (zuaa _).1|with_reducible exact (zuaa _).2|rfl|(simp (disch:=omega) only[kA,kB,kC,kD,kE,kF,kG,kH,kI,kJ,kK]<;>omega)|((iterate 2 (try simp (disch:=omega) only[kA,kB,kC,kD,kE,kF,kG,kH,kI,kJ,kK]at *))<;>omega)
theorem zsKa {f1:It21} {f10:Tl} {f11:Int} {k_exit_0:It21→List Ts→Option R}:∀ {n:Nat} {f4:List Ts} {f12:Int},(f11=(f10.length:Int))→(0≤f12)→(f10.length≤1000000000)→(f12≤f11)→(SM f1)→(IdOk f10)→(∀y∈f4,SeOk y)→(f4.length≤f12)→(f10.length=12)→(f11-f12).toNat<n→(∀(w1:List Ts),(∀y∈w1,SeOk y)→(w1.length≤12)→Φ (k_exit_0 f1 w1))→Φ (loopN (ztma k_exit_0) n ⟨f1,f4,f10,f11,f12⟩):=by
 intro n
 induction n with
 |zero=>intros; omega
 |succ n ih =>
  intro f4 f12 i0 i1 i2 i3 i4 i5 i6 i7 i8 hm q0;rw[zaaa];unfold ztma
  try dsimp only
  refine w_dec (fun _=>w_inB ?_ fun _=>zKCa ?_ ?_ ?_ fun _ _ _=>zcba (fun _=>w_mst ?_<|ih ?_ ?_ ?_ ?_ ?_ ?_ ?_ ?_ ?_ ?_ q0) fun _=>ih ?_ ?_ ?_ ?_ ?_ ?_ ?_ ?_ ?_ ?_ q0) fun _=>q0 _ ?_ ?_
  all_goals first|with_reducible assumption|omega|with_reducible exact (zuaa _).1|with_reducible exact (zuaa _).2|rfl|(simp (disch:=omega) only[kA,kB,kC,kD,kE,kF,kG,kH,kI,kJ,kK]<;>omega)|((iterate 2 (try simp (disch:=omega) only[kA,kB,kC,kD,kE,kF,kG,kH,kI,kJ,kK]at *))<;>omega)|with_reducible exact (idget (by assumption) (by omega) (by omega)).1|with_reducible exact (idget (by assumption) (by omega) (by omega)).2|with_reducible exact zW1a (by assumption) (by assumption)
theorem zHIa {f1:It21} {k_exit_2:List Ts→Option R}:∀ {n:Nat} {f4:List Ts} {f9:Int},(0≤f9)→(f1.2.2.2.2.2.2.2.2.2.2.2.1.length≤1000000000)→(f9≤f1.2.2.2.2.2.2.2.2.2.2.2.1.length)→(SM f1)→(∀y∈f4,SeOk y)→(f4.length≤12+f9)→((f1.2.2.2.2.2.2.2.2.2.2.2.1.length:Int)-f9).toNat<n→(∀(w0:List Ts),(∀y∈w0,SeOk y)→(w0.length≤82)→Φ (k_exit_2 w0))→Φ (loopN (zWka k_exit_2) n ⟨f1,f4,f9⟩):=by
 intro n
 induction n with
 |zero=>intros; omega
 |succ n ih =>
  intro f4 f9 i0 i1 i2 i3 i4 i5 hm q0;have ⟨z,y1,y2,y3,y4,y5,y6,y7,y8⟩:=i3;have ⟨g,g2⟩:=cget y8 f9.toNat;rw[zaaa];unfold zWka
  try dsimp only
  refine w_dec (fun _=>w_inB ?_ fun _=>w_inB ?_ fun _=>ztua ?_ ?_ fun _ _=>w_mst ?_<|w_mst ?_<|ih ?_ ?_ ?_ ?_ ?_ ?_ ?_ q0) fun _=>q0 _ ?_ ?_
  all_goals first|with_reducible assumption|omega|with_reducible exact (zuaa _).1|with_reducible exact (zuaa _).2|rfl|(simp (disch:=omega) only[kA,kB,kC,kD,kE,kF,kG,kH,kI,kJ,kK]<;>omega)|((iterate 2 (try simp (disch:=omega) only[kA,kB,kC,kD,kE,kF,kG,kH,kI,kJ,kK]at *))<;>omega)|with_reducible exact zW1a (by assumption) (by simp only[List.length_append,List.length_nil]at *; omega)
theorem zuHa {a0:Int} {K:Int→Option R} (hk:∀(r0:Int),Φ (K r0)):Φ (zCma a0 K):=by
 unfold zCma
 try dsimp only
 exact w_eq (fun _=>hk _) fun _=>hk _
theorem znPa {f0:List Ts} {f1:Int} {k_ret:Bool→Option R} {k_exit_0:Option R}:∀ {n:Nat} {f5:Int},(0≤f5)→(f0.length≤1000000000)→(f5≤f0.length)→((f0.length:Int)-f5).toNat<n→(∀(w0:Bool),Φ (k_ret w0))→(Φ (k_exit_0))→Φ (loopN (zpsa k_ret k_exit_0) n ⟨f0,f1,f5⟩):=by
 intro n
 induction n with
 |zero=>intros; omega
 |succ n ih =>
  intro f5 i0 i1 i2 hm q0 q1;rw[zaaa];unfold zpsa
  try dsimp only
  refine w_dec (fun _=>w_ne (fun _=>w_inB ?_ fun _=>w_ne (fun _=>w_inB ?_ fun _=>zuHa fun _=>zuHa fun _=>w_dec (fun _=>q0 _) fun _=>ih ?_ ?_ ?_ ?_ q0 q1) fun _=>ih ?_ ?_ ?_ ?_ q0 q1) fun _=>ih ?_ ?_ ?_ ?_ q0 q1) fun _=>q1
  all_goals first|omega|assumption|(simp (disch:=omega) only[kA,kB,kC,kD,kE,kF,kG,kH,kI,kJ,kK]<;>omega)
theorem zDOa {a0:List Ts} {a1:Int} {K:Bool→Option R} (p0:a0.length≤1000000000) (hk:∀(r0:Bool),(r0=true→0≤a1∧a1≤12)→Φ (K r0)):Φ (zyta a0 a1 K):=by
 unfold zyta
 try dsimp only
 refine w_dec (fun _=>hk _ ?_) fun _=>w_dec (fun _=>hk _ ?_) fun _=>znPa ?_ ?_ ?_ (zdaa ?_) (fun _=>hk _ ?_) (hk _ ?_)
 all_goals first|with_reducible assumption|omega|with_reducible exact (zuaa _).1|with_reducible exact (zuaa _).2|rfl|(simp (disch:=omega) only[kA,kB,kC,kD,kE,kF,kG,kH,kI,kJ,kK]<;>omega)|((iterate 2 (try simp (disch:=omega) only[kA,kB,kC,kD,kE,kF,kG,kH,kI,kJ,kK]at *))<;>omega)|(intro h; cases h)
theorem zjNa {f0:List Ts} {k_ret:Tl→Int→Option R} {k_exit_0:List Ts→Option R}:∀ {n:Nat} {f4:Int},(0≤f4)→(f0.length≤1000000000)→(f4≤f0.length)→((f0.length:Int)-f4).toNat<n→(∀(w0:Tl) (w1:Int),(w1=2)→Φ (k_ret w0 w1))→(Φ (k_exit_0 f0))→Φ (loopN (zgpa k_ret k_exit_0) n ⟨f0,f4⟩):=by
 intro n
 induction n with
 |zero=>intros; omega
 |succ n ih =>
  intro f4 i0 i1 i2 hm q0 q1;rw[zaaa];unfold zgpa
  try dsimp only
  refine w_dec (fun _=>w_inR ?_ fun _=>w_inB ?_ fun _=>zDOa ?_ fun _ _=>w_not (zcba (fun _=>ih ?_ ?_ ?_ ?_ q0 q1) fun _=>q0 _ _ ?_)) fun _=>q1
  all_goals first|omega|assumption|(simp (disch:=omega) only[kA,kB,kC,kD,kE,kF,kG,kH,kI,kJ,kK]<;>omega)
theorem ziNa {f0:List Ts} {k_exit_2:Tl→Option R}:∀ {n:Nat} {f5:Tl} {f6:Int},(0≤f6)→(f0.length≤1000000000)→(f6≤f0.length)→(∀y∈f0,SeOk y)→(f0.length≤82)→(f5.length≤8+10000011*f6)→((f0.length:Int)-f6).toNat<n→(∀(w0:Tl),Φ (k_exit_2 w0))→Φ (loopN (zfpa k_exit_2) n ⟨f0,f5,f6⟩):=by
 intro n
 induction n with
 |zero=>intros; omega
 |succ n ih =>
  intro f5 f6 i0 i1 i2 i3 i4 i5 hm q0;have g:=sget i3 f6.toNat;rw[zaaa];unfold zfpa
  try dsimp only
  refine w_dec (fun _=>w_inB ?_ fun _=>w_mst ?_<|w_inB ?_ fun _=>zfda fun _ _=>w_mst ?_<|w_inB ?_ fun _=>w_mst ?_<|ih ?_ ?_ ?_ ?_ ?_ ?_ ?_ q0) fun _=>q0 _
  all_goals first|omega|assumption|(simp (disch:=omega) only[kA,kB,kC,kD,kE,kF,kG,kH,kI,kJ,kK]<;>omega)
theorem zKTa {a0:List Ts} {K:Tl→Int→Option R} (p0:∀y∈a0,SeOk y) (p1:a0.length≤82) (hk:∀(r0:Tl) (r1:Int),(r1=0→r0.length≤65536)→Φ (K r0 r1)):Φ (zeva a0 K):=by
 unfold zeva
 try dsimp only
 refine zjNa ?_ ?_ ?_ (zdaa ?_) (fun _ _ _=>hk _ _ ?_) (zfla ?_<|ziNa ?_ ?_ ?_ ?_ ?_ ?_ (zdaa ?_) (fun _=>w_dec (fun _=>hk _ _ ?_) fun _=>hk _ _ ?_))
 all_goals first|rfl|(intro h; exact absurd h (by omega))|with_reducible assumption|omega|with_reducible exact (zuaa _).1|with_reducible exact (zuaa _).2|rfl|(simp (disch:=omega) only[kA,kB,kC,kD,kE,kF,kG,kH,kI,kJ,kK]<;>omega)|((iterate 2 (try simp (disch:=omega) only[kA,kB,kC,kD,kE,kF,kG,kH,kI,kJ,kK]at *))<;>omega)
theorem zvRa {a0:It21} {K:Tl→Int→Option R} (p0:SM a0) (hk:∀(r0:Tl) (r1:Int),(r1=0→r0.length≤65536)→Φ (K r0 r1)):Φ (zLra a0 K):=by
 have z:=p0.rows;unfold zLra
 try dsimp only
 refine zsKa ?_ ?_ ?_ ?_ ?_ ?_ ?_ ?_ ?_ (zdaa ?_) (fun _ _ _=>zHIa ?_ ?_ ?_ ?_ ?_ ?_ (zdaa ?_) (fun _ _ _=>zKTa ?_ ?_ fun _ _ _=>hk _ _ ?_))
 all_goals first|with_reducible assumption|omega|with_reducible exact (zuaa _).1|with_reducible exact (zuaa _).2|rfl|(simp (disch:=omega) only[kA,kB,kC,kD,kE,kF,kG,kH,kI,kJ,kK]<;>omega)|((iterate 2 (try simp (disch:=omega) only[kA,kB,kC,kD,kE,kF,kG,kH,kI,kJ,kK]at *))<;>omega)|(show ∀y∈[(1:Int),2,3,4,5,6,7,8,9,12,10,11],1≤y∧y≤12; decide)|(intro y hy; cases hy)
end Go.Trm.G1
namespace Go.Trm.G1
def SpOk (y:Int×List Int×Unit):Prop:=(0≤y.1∧y.1≤12)∧y.2.1.length≤65536
theorem spget {l:List (Int×List Int×Unit)} (h:∀y∈l,SpOk y) (i:Nat):(0≤(l.getD i (0,[],())).1∧(l.getD i (0,[],())).1≤12)∧(l.getD i (0,[],())).2.1.length≤65536:=zOJa h (by unfold SpOk; simp) i
theorem zb3a {l:List (Int×List Int×Unit)} {z:Int×List Int×Unit} {r:Bool} {i:Int} {b:List Int} (h:∀y∈l,SpOk y) (hr:r=true→0≤i∧i≤12) (ht:r=true) (hl:b.length≤65536):∀x∈l++List.set (List.replicate 1 z) 0 (i,b,()),SpOk x:=by
 intro x hx;rcases List.mem_append.1 hx with q|q
 ·exact h x q
 ·have:x∈[(i,b,())]:=q;rw[List.mem_singleton]at this; subst this; exact ⟨hr ht,hl⟩
theorem zV1a:∀y∈([]:List (Int×List Int×Unit)),SpOk y:=fun _ h=>by cases h
theorem zK2a {r:Int} (h0:0≤r) (h:r≤4) (h1:r≠0):((List.set (List.set (List.set (List.set (List.set (List.replicate 5 (0:Int)) 0 (0:Int)) 1 (128:Int)) 2 (32:Int)) 3 (16:Int)) 4 (8:Int)).getD r.toNat (0:Int) != 0)=true:=by
 have:r=1∨r=2∨r=3∨r=4:=by omega
 rcases this with h|h|h|h<;>subst h<;>decide
abbrev FnT:=Int×List Int×List InsT×Unit
def LocOk (l:List FnT):Prop:=∀y∈l,y.2.1.length≤64
theorem zQVa {l:List FnT} (h:LocOk l) (i:Nat):(l.getD i (0,[],[],())).2.1.length≤64:=zOJa (P:=fun y:FnT=>y.2.1.length≤64) h (Nat.zero_le _) i
theorem zu2a:LocOk []:=fun _ h=>by cases h
theorem zv2a {l:List FnT} {z y:FnT} (h:LocOk l) (hy:y.2.1.length≤64):LocOk (l++List.set (List.replicate 1 z) 0 y):=by
 intro x hx;rcases List.mem_append.1 hx with q|q
 ·exact h x q
 ·have:x∈[y]:=q;rw[List.mem_singleton]at this; subst this; exact hy
theorem zSZa {l:List FnT} {y:FnT} {i:Nat} (h:LocOk l) (hy:y.2.1.length≤64):LocOk (l.set i y):=by
 intro x hx;rcases List.mem_or_eq_of_mem_set hx with q|q
 ·exact h x q
 ·subst q; exact hy
theorem zjca {l:List FnT} {y d:FnT} {i:Nat} (h:i<l.length):(l.set i y).getD i d=y:=by
 rw[List.getD_eq_getElem?_getD,List.getElem?_set_self h]; rfl
abbrev Rw (m:It21) (N:Int):Prop:=(m.1.length:Int)≤N∧(m.2.1.length:Int)≤N∧(m.2.2.1.length:Int)≤N∧(m.2.2.2.1.length:Int)≤N∧(m.2.2.2.2.1.length:Int)≤N∧(m.2.2.2.2.2.1.length:Int)≤N∧(m.2.2.2.2.2.2.1.length:Int)≤N∧(m.2.2.2.2.2.2.2.2.1.length:Int)≤N∧(m.2.2.2.2.2.2.2.2.2.2.1.length:Int)≤N∧(m.2.2.2.2.2.2.2.2.2.2.2.1.length:Int)≤N
abbrev RwP (m:It21) (p N:Int):Prop:=(m.1.length:Int)+p≤N∧(m.2.1.length:Int)+p≤N∧(m.2.2.1.length:Int)+p≤N∧(m.2.2.2.1.length:Int)+p≤N∧(m.2.2.2.2.1.length:Int)+p≤N∧(m.2.2.2.2.2.1.length:Int)+p≤N∧(m.2.2.2.2.2.2.1.length:Int)+p≤N∧(m.2.2.2.2.2.2.2.2.1.length:Int)+p≤N∧(m.2.2.2.2.2.2.2.2.2.2.1.length:Int)+p≤N∧(m.2.2.2.2.2.2.2.2.2.2.2.1.length:Int)+p≤N
abbrev RwS (a b:It21):Prop:=a.1.length≤b.1.length+1∧a.2.1.length≤b.2.1.length+1∧a.2.2.1.length≤b.2.2.1.length+1∧a.2.2.2.1.length≤b.2.2.2.1.length+1∧a.2.2.2.2.1.length≤b.2.2.2.2.1.length+1∧a.2.2.2.2.2.1.length≤b.2.2.2.2.2.1.length+1∧a.2.2.2.2.2.2.1.length≤b.2.2.2.2.2.2.1.length+1∧a.2.2.2.2.2.2.2.2.1.length≤b.2.2.2.2.2.2.2.2.1.length+1∧a.2.2.2.2.2.2.2.2.2.2.1.length≤b.2.2.2.2.2.2.2.2.2.2.1.length+1∧a.2.2.2.2.2.2.2.2.2.2.2.1.length≤b.2.2.2.2.2.2.2.2.2.2.2.1.length+1
end Go.Trm.G1
namespace Go.Trm.G1
variable {R:Type} {Φ:Option R→Prop}
theorem ztKa {f0:Tl} {f4:Tb} {k_ret:List Ts→Int→Option R} {k_exit_0:Tl→Option R}:∀ {n:Nat} {f5:Int},(0≤f5)→(f5≤8)→(f4.length=8)→(f5≤f0.length)→(8-f5).toNat<n→(∀(w0:List Ts) (w1:Int),(∀y∈w0,SpOk y)→(w0.length≤65536)→Φ (k_ret w0 w1))→((8≤f0.length)→Φ (k_exit_0 f0))→Φ (loopN (zuma k_ret k_exit_0) n ⟨f0,f4,f5⟩):=by
 intro n
 induction n with
 |zero=>intros; omega
 |succ n ih =>
  intro f5 i0 i1 i2 i3 hm q0 q1;rw[zaaa];unfold zuma
  try dsimp only
  refine w_dec (fun _=>w_eq (fun _=>q0 _ _ ?_ ?_) fun _=>w_inB ?_ fun _=>w_inB ?_ fun _=>w_ne (fun _=>q0 _ _ ?_ ?_) fun _=>ih ?_ ?_ ?_ ?_ ?_ q0 q1) fun _=>q1 ?_
  all_goals first|with_reducible exact zV1a|with_reducible assumption|omega|with_reducible exact (zuaa _).1|with_reducible exact (zuaa _).2|rfl|(simp (disch:=omega) only[kA,kB,kC,kD,kE,kF,kG,kH,kI,kJ,kK]<;>omega)|((iterate 2 (try simp (disch:=omega) only[kA,kB,kC,kD,kE,kF,kG,kH,kI,kJ,kK]at *))<;>omega)
theorem zoKa {a0:Tl} {K:Tl→Option R} (p0:a0.length≤1000000000) (hk:∀(r0:Tl),(r0.length=a0.length)→Φ (K r0)):Φ (zbqa a0 K):=by
 unfold zbqa
 try dsimp only
 refine w_mst ?_<|hk _ ?_
 all_goals first|omega|assumption|(simp (disch:=omega) only[kA,kB,kC,kD,kE,kF,kG,kH,kI,kJ,kK]<;>omega)
theorem zIIa {f0:Tl} {k_ret:List Ts→Int→Option R} {k_exit_2:List Ts→Option R}:∀ {n:Nat} {f6:List Ts} {f7:Int},(0≤f7)→(f0.length≤1000000000)→(f7≤f0.length)→(f0.length≤65536)→(∀y∈f6,SpOk y)→(f6.length≤f7)→((f0.length:Int)-f7).toNat<n→(∀(w0:List Ts) (w1:Int),(∀y∈w0,SpOk y)→(w0.length≤65536)→Φ (k_ret w0 w1))→(∀(w0:List Ts),(∀y∈w0,SpOk y)→(w0.length≤65536)→Φ (k_exit_2 w0))→Φ (loopN (zXka k_ret k_exit_2) n ⟨f0,f6,f7⟩):=by
 intro n
 induction n with
 |zero=>intros; omega
 |succ n ih =>
  intro f6 f7 i0 i1 i2 i3 i4 i5 hm q0 q1;rw[zaaa];unfold zXka
  try dsimp only
  refine w_dec (fun _=>w_inB ?_ fun _=>zDOa ?_ fun _ _=>w_not (zcba (fun _=>w_inR ?_ fun _=>zEja ?_ ?_ fun _ _ _ _ _ _ _=>w_ne (fun _=>q0 _ _ ?_ ?_) fun _=>w_dec (fun _=>q0 _ _ ?_ ?_) fun _=>w_inR ?_ fun _=>zoKa ?_ fun _ _=>w_mst ?_<|ih ?_ ?_ ?_ ?_ ?_ ?_ ?_ q0 q1) fun _=>q0 _ _ ?_ ?_)) fun _=>q1 _ ?_ ?_
  all_goals first|with_reducible assumption|omega|with_reducible exact (zuaa _).1|with_reducible exact (zuaa _).2|rfl|(simp (disch:=omega) only[kA,kB,kC,kD,kE,kF,kG,kH,kI,kJ,kK]<;>omega)|((iterate 2 (try simp (disch:=omega) only[kA,kB,kC,kD,kE,kF,kG,kH,kI,kJ,kK]at *))<;>omega)|with_reducible exact zb3a (by assumption) (by assumption) (by assumption) (by simp only[zGZa]at *; omega)
theorem zwRa {a0:Tl} {K:List Ts→Int→Option R} (hk:∀(r0:List Ts) (r1:Int),(∀y∈r0,SpOk y)→(r0.length≤65536)→Φ (K r0 r1)):Φ (zMra a0 K):=by
 unfold zMra
 try dsimp only
 refine w_dec (fun _=>hk _ _ ?_ ?_) fun _=>ztKa ?_ ?_ ?_ ?_ (zdaa ?_) (fun _ _ _ _=>hk _ _ ?_ ?_) (fun _=>zIIa ?_ ?_ ?_ ?_ ?_ ?_ (zdaa ?_) (fun _ _ _ _=>hk _ _ ?_ ?_) (fun _ _ _=>hk _ _ ?_ ?_))
 all_goals first|with_reducible exact zV1a|with_reducible assumption|omega|with_reducible exact (zuaa _).1|with_reducible exact (zuaa _).2|rfl|(simp (disch:=omega) only[kA,kB,kC,kD,kE,kF,kG,kH,kI,kJ,kK]<;>omega)|((iterate 2 (try simp (disch:=omega) only[kA,kB,kC,kD,kE,kF,kG,kH,kI,kJ,kK]at *))<;>omega)
theorem zMTa {a0:Int} {K:Int→Option R} (hk:∀(r0:Int),(0≤r0)→(r0≤4)→Φ (K r0)):Φ (ziva a0 K):=by
 unfold ziva
 try dsimp only
 refine w_dec (fun _=>hk _ ?_ ?_) fun _=>w_dec (fun _=>w_dec (fun _=>hk _ ?_ ?_) fun _=>w_dec (fun _=>w_dec (fun _=>hk _ ?_ ?_) fun _=>w_dec (fun _=>w_dec (fun _=>hk _ ?_ ?_) fun _=>hk _ ?_ ?_) fun _=>hk _ ?_ ?_) fun _=>w_dec (fun _=>w_dec (fun _=>hk _ ?_ ?_) fun _=>hk _ ?_ ?_) fun _=>hk _ ?_ ?_) fun _=>w_dec (fun _=>w_dec (fun _=>hk _ ?_ ?_) fun _=>w_dec (fun _=>w_dec (fun _=>hk _ ?_ ?_) fun _=>hk _ ?_ ?_) fun _=>hk _ ?_ ?_) fun _=>w_dec (fun _=>w_dec (fun _=>hk _ ?_ ?_) fun _=>hk _ ?_ ?_) fun _=>hk _ ?_ ?_
 all_goals omega
theorem zxKa {f3:Tl} {f4:Int} {k_exit_2:Tl→Int→Int→Option R}:∀ {n:Nat} {f5 f6:Int},(0≤f6)→(f4≤f3.length)→(f3.length≤1000000000)→(f4-f6).toNat<n→(∀(w2:Int),Φ (k_exit_2 f3 f4 w2))→Φ (loopN (zyma k_exit_2) n ⟨f3,f4,f5,f6⟩):=by
 intro n
 induction n with
 |zero=>intros; omega
 |succ n ih =>
  intro f5 f6 i0 i1 i2 hm q0;rw[zaaa];unfold zyma
  try dsimp only
  refine w_dec (fun _=>w_inB ?_ fun _=>zfla rfl<|ih ?_ ?_ ?_ ?_ q0) fun _=>q0 _
  all_goals first|omega|assumption|(simp (disch:=omega) only[kA,kB,kC,kD,kE,kF,kG,kH,kI,kJ,kK]<;>omega)
theorem zlKa {a0:Int} {K:Tl→Option R} (hk:∀(r0:Tl),(r0.length≤4)→Φ (K r0)):Φ (zjva a0 K):=by
 unfold zjva
 try dsimp only
 refine w_dec (fun _=>hk _ ?_) fun _=>w_dec (fun _=>zfla rfl<|zfla rfl<|hk _ ?_) fun _=>w_dec (fun _=>zfla ?_<|zfla rfl<|zfla rfl<|zfla rfl<|hk _ ?_) fun _=>zfla ?_<|zfla ?_<|zfla rfl<|zfla rfl<|zfla rfl<|zfla rfl<|hk _ ?_
 all_goals first|with_reducible assumption|omega|with_reducible exact (zuaa _).1|with_reducible exact (zuaa _).2|rfl|(simp (disch:=omega) only[kA,kB,kC,kD,kE,kF,kG,kH,kI,kJ,kK]<;>omega)|((iterate 2 (try simp (disch:=omega) only[kA,kB,kC,kD,kE,kF,kG,kH,kI,kJ,kK]at *))<;>omega)
theorem zpNa {f0 f1:Tl} {k_ret:Bool→Option R} {k_exit_0:Option R}:∀ {n:Nat} {f5:Int},(0≤f5)→(f0.length≤1000000000)→(f5≤f0.length)→(f1.length=f0.length)→((f0.length:Int)-f5).toNat<n→(∀(w0:Bool),Φ (k_ret w0))→(Φ (k_exit_0))→Φ (loopN (zopa k_ret k_exit_0) n ⟨f0,f1,f5⟩):=by
 intro n
 induction n with
 |zero=>intros; omega
 |succ n ih =>
  intro f5 i0 i1 i2 i3 hm q0 q1;rw[zaaa];unfold zopa
  try dsimp only
  refine w_dec (fun _=>w_inB ?_ fun _=>w_inB ?_ fun _=>w_ne (fun _=>q0 _) fun _=>ih ?_ ?_ ?_ ?_ ?_ q0 q1) fun _=>q1
  all_goals first|omega|assumption|(simp (disch:=omega) only[kA,kB,kC,kD,kE,kF,kG,kH,kI,kJ,kK]<;>omega)
theorem zvua {a0 a1:Tl} {K:Bool→Option R} (p0:a0.length≤1000000000) (hk:∀(r0:Bool),Φ (K r0)):Φ (zNla a0 a1 K):=by
 unfold zNla
 try dsimp only
 refine w_ne (fun _=>hk _) fun _=>zpNa ?_ ?_ ?_ ?_ (zdaa ?_) (fun _=>hk _) (hk _)
 all_goals omega
theorem zyKa  {k_ret:Bool→Option R} {k_exit_0:Option R}:∀ {n:Nat} {f3:Tl},(f3.length≤1000000000)→f3.length<n→(∀(w0:Bool),Φ (k_ret w0))→(Φ (k_exit_0))→Φ (loopN (zzma k_ret k_exit_0) n ⟨f3⟩):=by
 intro n
 induction n with
 |zero=>intros; omega
 |succ n ih =>
  intro f3 i0 hm q0 q1;rw[zaaa];unfold zzma
  try dsimp only
  refine w_dec (fun _=>w_inB ?_ fun _=>zMTa fun _ _ _=>w_eq (fun _=>q0 _) fun _=>w_dec (fun _=>q0 _) fun _=>w_inB ?_ fun _=>w_inB ?_ fun _=>zfla ?_<|zxKa ?_ ?_ ?_ (zdaa ?_) (fun _=>w_dec (fun _=>q0 _) fun _=>w_dec (fun _=>w_dec (fun _=>q0 _) fun _=>w_inR ?_ fun _=>zlKa fun _ _=>zvua ?_ fun _=>w_not (zcba (fun _=>w_inR ?_ fun _=>ih ?_ ?_ q0 q1) fun _=>q0 _)) fun _=>w_inR ?_ fun _=>zlKa fun _ _=>zvua ?_ fun _=>w_not (zcba (fun _=>w_inR ?_ fun _=>ih ?_ ?_ q0 q1) fun _=>q0 _))) fun _=>q1
  all_goals first|with_reducible exact zK2a (by assumption) (by assumption) (by assumption)|with_reducible assumption|omega|with_reducible exact (zuaa _).1|with_reducible exact (zuaa _).2|rfl|(simp (disch:=omega) only[kA,kB,kC,kD,kE,kF,kG,kH,kI,kJ,kK]<;>omega)|((iterate 2 (try simp (disch:=omega) only[kA,kB,kC,kD,kE,kF,kG,kH,kI,kJ,kK]at *))<;>omega)
theorem zARa {a0:Tb} {K:Bool→Option R} (p0:a0.length≤1000000000) (hk:∀(r0:Bool),Φ (K r0)):Φ (zQra a0 K):=by
 unfold zQra
 try dsimp only
 refine w_mst ?_<|zyKa ?_ (zdaa ?_) (fun _=>hk _) (hk _)
 all_goals first|omega|assumption|(simp (disch:=omega) only[kA,kB,kC,kD,kE,kF,kG,kH,kI,kJ,kK]<;>omega)
theorem zNCa {a0:Tl} {K:Tb→Int→Int→Option R} (p0:a0.length≤1000000000) (hk:∀(r0:Tb) (r1 r2:Int),(0≤r1)→(r1≤a0.length)→Φ (K r0 r1 r2)):Φ (zZpa a0 K):=by
 unfold zZpa
 try dsimp only
 refine zEja ?_ ?_ fun _ _ _ _ _ _ _=>w_ne (fun _=>hk _ _ _ ?_ ?_) fun _=>w_inR ?_ fun _=>w_dec (fun _=>hk _ _ _ ?_ ?_) fun _=>w_inR ?_ fun _=>zARa ?_ fun _=>w_not (zcba (fun _=>w_dec (fun _=>hk _ _ _ ?_ ?_) fun _=>hk _ _ _ ?_ ?_) fun _=>hk _ _ _ ?_ ?_)
 all_goals first|with_reducible assumption|omega|with_reducible exact (zuaa _).1|with_reducible exact (zuaa _).2|rfl|(simp (disch:=omega) only[kA,kB,kC,kD,kE,kF,kG,kH,kI,kJ,kK]<;>omega)|((iterate 2 (try simp (disch:=omega) only[kA,kB,kC,kD,kE,kF,kG,kH,kI,kJ,kK]at *))<;>omega)
theorem zjPa {a0:Tl} {K:Tb→Tl→Int→Option R} (p0:a0.length≤1000000000) (hk:∀(r0:Tb) (r1:Tl) (r2:Int),Φ (K r0 r1 r2)):Φ (zHoa a0 K):=by
 unfold zHoa
 try dsimp only
 refine zNCa ?_ fun _ _ _ _ _=>w_ne (fun _=>hk _ _ _) fun _=>w_inR ?_ fun _=>hk _ _ _
 all_goals omega
theorem zlNa {f0:Tl} {f7:Int} {k_ret:Tl→Int→Int→Option R} {k_exit_0:Int→Tl→Option R}:∀ {n:Nat} {f1:Int} {f10:Tl},(0≤f1)→(f1≤f0.length)→(f0.length≤1000000000)→(0≤f7)→(f7≤8)→(f10.length≤8)→(9-f10.length)<n→(∀(w0:Tl) (w1 w2:Int),(w1=0)→Φ (k_ret w0 w1 w2))→(∀(w0:Int) (w1:Tl),(0≤w0)→(w0≤f0.length)→Φ (k_exit_0 w0 w1))→Φ (loopN (zkpa k_ret k_exit_0) n ⟨f0,f1,f7,f10⟩):=by
 intro n
 induction n with
 |zero=>intros; omega
 |succ n ih =>
  intro f1 f10 i0 i1 i2 i3 i4 i5 hm q0 q1;rw[zaaa];unfold zkpa
  try dsimp only
  refine w_dec (fun _=>w_dec (fun _=>q0 _ _ _ ?_) fun _=>w_inB ?_ fun _=>zYFa fun _ _=>w_ne (fun _=>q0 _ _ _ ?_) fun _=>w_mst ?_<|ih ?_ ?_ ?_ ?_ ?_ ?_ ?_ q0 q1) fun _=>q1 _ _ ?_ ?_
  all_goals first|with_reducible assumption|omega|with_reducible exact (zuaa _).1|with_reducible exact (zuaa _).2|rfl|(simp (disch:=omega) only[kA,kB,kC,kD,kE,kF,kG,kH,kI,kJ,kK]<;>omega)|((iterate 2 (try simp (disch:=omega) only[kA,kB,kC,kD,kE,kF,kG,kH,kI,kJ,kK]at *))<;>omega)
theorem zjKa {a0:Tl} {a1:Int} {K:Tl→Int→Int→Option R} (p0:0≤a1) (p1:a1≤a0.length) (p2:a0.length≤1000000000) (hk:∀(r0:Tl) (r1 r2:Int),(0≤r1)→(r1≤a0.length)→Φ (K r0 r1 r2)):Φ (zYpa a0 a1 K):=by
 unfold zYpa
 try dsimp only
 refine w_inR ?_ fun _=>zEja ?_ ?_ fun _ _ _ _ _ _ _=>w_ne (fun _=>hk _ _ _ ?_ ?_) fun _=>w_dec (fun _=>hk _ _ _ ?_ ?_) fun _=>zlNa ?_ ?_ ?_ ?_ ?_ ?_ (zdaa ?_) (fun _ _ _ _=>hk _ _ _ ?_ ?_) (fun _ _ _ _=>hk _ _ _ ?_ ?_)
 all_goals first|with_reducible assumption|omega|with_reducible exact (zuaa _).1|with_reducible exact (zuaa _).2|rfl|(simp (disch:=omega) only[kA,kB,kC,kD,kE,kF,kG,kH,kI,kJ,kK]<;>omega)|((iterate 2 (try simp (disch:=omega) only[kA,kB,kC,kD,kE,kF,kG,kH,kI,kJ,kK]at *))<;>omega)
theorem zkKa {a0:Tl} {K:Tq→Int→Int→Option R} (p0:a0.length≤1000000000) (hk:∀(r0:Tq) (r1 r2:Int),(0≤r1)→(r1≤a0.length)→Φ (K r0 r1 r2)):Φ (zgva a0 K):=by
 unfold zgva
 try dsimp only
 refine w_dec (fun _=>hk _ _ _ ?_ ?_) fun _=>w_inB ?_ fun _=>w_ne (fun _=>hk _ _ _ ?_ ?_) fun _=>zjKa ?_ ?_ ?_ fun _ _ _ _ _=>w_ne (fun _=>hk _ _ _ ?_ ?_) fun _=>zjKa ?_ ?_ ?_ fun _ _ _ _ _=>w_ne (fun _=>hk _ _ _ ?_ ?_) fun _=>hk _ _ _ ?_ ?_
 all_goals omega
theorem zzja {a0:Tc} {K:Tb→Tc→Option R} (p0:Cu a0) (hk:∀(r0:Tb) (r1:Tc),(Cu r1)→Φ (K r0 r1)):Φ (zGca a0 K):=by
 unfold zGca zNaa zOaa
 try dsimp only
 refine w_ne (fun _=>hk _ _ ?_) fun _=>w_ne (fun _=>zNCa ?_ fun _ _ _ _ _=>w_eq (fun _=>hk _ _ ?_) fun _=>hk _ _ ?_) fun _=>w_inR ?_ fun _=>zNCa ?_ fun _ _ _ _ _=>w_eq (fun _=>hk _ _ ?_) fun _=>hk _ _ ?_
 all_goals first|with_reducible assumption|omega|with_reducible exact (zuaa _).1|with_reducible exact (zuaa _).2|rfl|(simp (disch:=omega) only[Cu,Rw,RwP,RwS,kA,kB,kC,kD,kE,kF,kG,kH,kI,kJ,kK]<;>omega)|((iterate 2 (try simp (disch:=omega) only[Cu,Rw,RwP,RwS,kA,kB,kC,kD,kE,kF,kG,kH,kI,kJ,kK]at *))<;>omega)
theorem zKba {a0:Tc} {K:Int→Tc→Option R} (p0:Cu a0) (hk:∀(r0:Int) (r1:Tc),(Cu r1)→(r1.2.2.1=0→a0.2.2.1=0)→Φ (K r0 r1)):Φ (zLba a0 K):=by
 unfold zLba zbaa
 try dsimp only
 try simp only[zKaa]
 refine w_eq (fun _=>w_dec (fun _=>w_eq (fun _=>w_ne (fun _=>hk _ _ ?_ ?_) fun _=>w_inB ?_ fun _=>hk _ _ ?_ ?_) fun _=>w_ne (fun _=>hk _ _ ?_ ?_) fun _=>w_inB ?_ fun _=>hk _ _ ?_ ?_) fun _=>w_ne (fun _=>hk _ _ ?_ ?_) fun _=>w_inB ?_ fun _=>hk _ _ ?_ ?_) fun _=>w_ne (fun _=>hk _ _ ?_ ?_) fun _=>w_inB ?_ fun _=>hk _ _ ?_ ?_
 all_goals first|with_reducible assumption|omega|with_reducible exact (zuaa _).1|with_reducible exact (zuaa _).2|rfl|(simp (disch:=omega) only[Cu,Rw,RwP,RwS,kA,kB,kC,kD,kE,kF,kG,kH,kI,kJ,kK]<;>omega)|((iterate 2 (try simp (disch:=omega) only[Cu,Rw,RwP,RwS,kA,kB,kC,kD,kE,kF,kG,kH,kI,kJ,kK]at *))<;>omega)
theorem zdda {a0:Tc} {a1:Int} {K:Int→Tc→Option R} (p0:Cu a0) (hk:∀(r0:Int) (r1:Tc),(Cu r1)→Φ (K r0 r1)):Φ (zuba a0 a1 K):=by
 unfold zuba zbaa
 try dsimp only
 refine zKba ?_ fun _ _ _ _=>w_dec (fun _=>w_eq (fun _=>hk _ _ ?_) fun _=>hk _ _ ?_) fun _=>hk _ _ ?_
 all_goals omega
theorem zvaa {a0:Tc} {K:Int→Tc→Option R} (p0:Cu a0) (hk:∀(r0:Int) (r1:Tc),(0≤r0)→(r0≤200000000000)→(Cu r1)→Φ (K r0 r1)):Φ (zoaa a0 K):=by
 unfold zoaa zNaa zOaa
 try dsimp only
 refine w_ne (fun _=>hk _ _ ?_ ?_ ?_) fun _=>w_ne (fun _=>zEja ?_ ?_ fun _ _ _ _ _ _ _=>w_eq (fun _=>hk _ _ ?_ ?_ ?_) fun _=>hk _ _ ?_ ?_ ?_) fun _=>w_inR ?_ fun _=>zEja ?_ ?_ fun _ _ _ _ _ _ _=>w_eq (fun _=>hk _ _ ?_ ?_ ?_) fun _=>hk _ _ ?_ ?_ ?_
 all_goals first|with_reducible assumption|omega|with_reducible exact (zuaa _).1|with_reducible exact (zuaa _).2|rfl|(simp (disch:=omega) only[Cu,Rw,RwP,RwS,kA,kB,kC,kD,kE,kF,kG,kH,kI,kJ,kK]<;>omega)|((iterate 2 (try simp (disch:=omega) only[Cu,Rw,RwP,RwS,kA,kB,kC,kD,kE,kF,kG,kH,kI,kJ,kK]at *))<;>omega)
theorem zDda {a0:Tc} {K:Tc→Option R} (p0:Cu a0) (hk:∀(r0:Tc),(Cu r0)→Φ (K r0)):Φ (ztba a0 K):=by
 unfold ztba zbaa
 try dsimp only
 refine zKba ?_ fun _ _ _ _=>w_eq (fun _=>w_eq (fun _=>w_ne (fun _=>w_eq (fun _=>hk _ ?_) fun _=>hk _ ?_) fun _=>hk _ ?_) fun _=>w_ne (fun _=>w_eq (fun _=>hk _ ?_) fun _=>hk _ ?_) fun _=>hk _ ?_) fun _=>w_ne (fun _=>w_eq (fun _=>hk _ ?_) fun _=>hk _ ?_) fun _=>hk _ ?_
 all_goals omega
theorem zHwa {f0:Tl} {f2:Tm} {k_ret:Tm→Int→Int→Option R} {k_exit_0:Tl→Tm→Tl→Int→Option R}:∀ {n:Nat} {f5:Tl} {f6 f7:Int},(1≤f0.length)→(f0.length≤1000000000)→(f0.getD 0 0=0∨f0.getD 0 0=1)→(0≤f6)→(f6≤f0.length)→(0≤f7)→(f7≤2)→(3-f7).toNat<n→(∀(w0:Tm) (w1 w2:Int),(w1=0)→Φ (k_ret w0 w1 w2))→(∀(w2:Tl) (w3:Int),(0≤w3)→(w3≤f0.length)→Φ (k_exit_0 f0 f2 w2 w3))→Φ (loopN (zbla k_ret k_exit_0) n ⟨f0,f2,f5,f6,f7⟩):=by
 intro n
 induction n with
 |zero=>intros; omega
 |succ n ih =>
  intro f5 f6 f7 i0 i1 i2 i3 i4 i5 i6 hm q0 q1;have g:f0.getD (0:Int).toNat 0=f0.getD 0 0:=rfl;rw[zaaa];unfold zbla
  try dsimp only
  refine w_inB ?_ fun _=>w_dec (fun _=>w_inR ?_ fun _=>zEja ?_ ?_ fun _ _ _ _ _ _ _=>w_ne (fun _=>q0 _ _ _ ?_) fun _=>w_inB ?_ fun _=>ih ?_ ?_ ?_ ?_ ?_ ?_ ?_ ?_ q0 q1) fun _=>q1 _ _ ?_ ?_
  all_goals first|with_reducible assumption|omega|with_reducible exact (zuaa _).1|with_reducible exact (zuaa _).2|rfl|(simp (disch:=omega) only[kA,kB,kC,kD,kE,kF,kG,kH,kI,kJ,kK]<;>omega)|((iterate 2 (try simp (disch:=omega) only[kA,kB,kC,kD,kE,kF,kG,kH,kI,kJ,kK]at *))<;>omega)
theorem zgEa {a0:Tl} {K:Tm→Int→Int→Option R} (p0:a0.length≤1000000000) (hk:∀(r0:Tm) (r1 r2:Int),(0≤r1)→(r1≤a0.length)→Φ (K r0 r1 r2)):Φ (zJoa a0 K):=by
 have g:a0.getD (0:Int).toNat 0=a0.getD 0 0:=rfl;unfold zJoa
 try dsimp only
 try simp only[zKaa]
 refine w_dec (fun _=>hk _ _ _ ?_ ?_) fun _=>w_inB ?_ fun _=>w_ne (fun _=>w_inB ?_ fun _=>w_ne (fun _=>hk _ _ _ ?_ ?_) fun _=>zHwa ?_ ?_ ?_ ?_ ?_ ?_ ?_ (zdaa ?_) (fun _ _ _ _=>hk _ _ _ ?_ ?_) (fun _ _ _ _=>w_inB ?_ fun _=>w_inB ?_ fun _=>w_inB ?_ fun _=>hk _ _ _ ?_ ?_)) fun _=>zHwa ?_ ?_ ?_ ?_ ?_ ?_ ?_ (zdaa ?_) (fun _ _ _ _=>hk _ _ _ ?_ ?_) (fun _ _ _ _=>w_inB ?_ fun _=>w_inB ?_ fun _=>w_inB ?_ fun _=>hk _ _ _ ?_ ?_)
 all_goals omega
theorem zdea {a0:Tc} {K:Tm→Tc→Option R} (p0:Cu a0) (hk:∀(r0:Tm) (r1:Tc),(Cu r1)→Φ (K r0 r1)):Φ (zUaa a0 K):=by
 unfold zUaa zNaa zOaa
 try dsimp only
 refine w_ne (fun _=>hk _ _ ?_) fun _=>w_ne (fun _=>zgEa ?_ fun _ _ _ _ _=>w_eq (fun _=>hk _ _ ?_) fun _=>hk _ _ ?_) fun _=>w_inR ?_ fun _=>zgEa ?_ fun _ _ _ _ _=>w_eq (fun _=>hk _ _ ?_) fun _=>hk _ _ ?_
 all_goals first|with_reducible assumption|omega|with_reducible exact (zuaa _).1|with_reducible exact (zuaa _).2|rfl|(simp (disch:=omega) only[Cu,Rw,RwP,RwS,kA,kB,kC,kD,kE,kF,kG,kH,kI,kJ,kK]<;>omega)|((iterate 2 (try simp (disch:=omega) only[Cu,Rw,RwP,RwS,kA,kB,kC,kD,kE,kF,kG,kH,kI,kJ,kK]at *))<;>omega)
theorem zEia {a0:Tc} {K:Int→Tc→Option R} (p0:Cu a0) (hk:∀(r0:Int) (r1:Tc),(Cu r1)→(r1.2.2.1=0→a0.2.2.1=0)→Φ (K r0 r1)):Φ (zoca a0 K):=by
 unfold zoca zbaa
 try dsimp only
 refine zKba ?_ fun _ _ _ _=>w_ne (fun _=>hk _ _ ?_ ?_) fun _=>zYFa fun _ _=>w_eq (fun _=>hk _ _ ?_ ?_) fun _=>hk _ _ ?_ ?_
 all_goals omega
theorem zusa {f9:Tp} {f1000000:Tc} {f1000002:It21} {k_normal:Tp→Tc→It21→Option R} (p0:Cu f1000000) (q0:(∀(w0:Tp) (w1:Tc),(Cu w1)→Φ (k_normal w0 w1 f1000002))):Φ (zQca k_normal ⟨f9,f1000000,f1000002⟩):=by
 unfold zQca
 try dsimp only
 refine w_eq (fun _=>zvaa ?_ fun _ _ _ _ _=>q0 _ _ ?_) fun _=>w_eq (fun _=>zDda ?_ fun _ _=>zdea ?_ fun _ _ _=>q0 _ _ ?_) fun _=>w_eq (fun _=>zdea ?_ fun _ _ _=>q0 _ _ ?_) fun _=>w_eq (fun _=>zEia ?_ fun _ _ _ _=>zdda ?_ fun _ _ _=>q0 _ _ ?_) fun _=>q0 _ _ ?_
 all_goals omega
theorem zVfa {a0:Tc} {K:Tj→Tc→Option R} (p0:Cu a0) (hk:∀(r0:Tj) (r1:Tc),(Cu r1)→Φ (K r0 r1)):Φ (zXba a0 K):=by
 unfold zXba zNaa zOaa
 try dsimp only
 refine w_ne (fun _=>hk _ _ ?_) fun _=>w_ne (fun _=>zLCa ?_ fun _ _ _ _ _=>w_eq (fun _=>hk _ _ ?_) fun _=>hk _ _ ?_) fun _=>w_inR ?_ fun _=>zLCa ?_ fun _ _ _ _ _=>w_eq (fun _=>hk _ _ ?_) fun _=>hk _ _ ?_
 all_goals first|with_reducible assumption|omega|with_reducible exact (zuaa _).1|with_reducible exact (zuaa _).2|rfl|(simp (disch:=omega) only[Cu,Rw,RwP,RwS,kA,kB,kC,kD,kE,kF,kG,kH,kI,kJ,kK]<;>omega)|((iterate 2 (try simp (disch:=omega) only[Cu,Rw,RwP,RwS,kA,kB,kC,kD,kE,kF,kG,kH,kI,kJ,kK]at *))<;>omega)
theorem zcxa {f2 f3:Te} {f4:Int} {f1000000:Tc} {k_normal:Te→Te→Int→Tc→Option R} (p0:Cu f1000000) (q0:(∀(w1:Te) (w3:Tc),(w1.2.2.1.length=f3.2.2.1.length)→(Cu w3)→Φ (k_normal f2 w1 f4 w3))):Φ (zTda k_normal ⟨f2,f3,f4,f1000000⟩):=by
 unfold zTda zbaa
 try dsimp only
 refine zfla rfl<|w_eq (fun _=>q0 _ _ ?_ ?_) fun _=>w_eq (fun _=>q0 _ _ ?_ ?_) fun _=>w_eq (fun _=>zvaa ?_ fun _ _ _ _ _=>w_ne (fun _=>w_eq (fun _=>q0 _ _ ?_ ?_) fun _=>q0 _ _ ?_ ?_) fun _=>q0 _ _ ?_ ?_) fun _=>q0 _ _ ?_ ?_
 all_goals first|omega|assumption|(simp (disch:=omega) only[kA,kB,kC,kD,kE,kF,kG,kH,kI,kJ,kK]<;>omega)
theorem zbxa {f2 f3:Te} {f4:Int} {f1000000:Tc} {k_normal:Te→Te→Int→Tc→Option R} (p0:Cu f1000000) (q0:(∀(w1:Te) (w3:Tc),(w1.2.2.1.length=f3.2.2.1.length)→(Cu w3)→Φ (k_normal f2 w1 f4 w3))):Φ (zSda k_normal ⟨f2,f3,f4,f1000000⟩):=by
 unfold zSda
 try dsimp only
 refine zfla rfl<|w_eq (fun _=>zVfa ?_ fun _ _ _=>q0 _ _ ?_ ?_) fun _=>q0 _ _ ?_ ?_
 all_goals first|omega|assumption|(simp (disch:=omega) only[kA,kB,kC,kD,kE,kF,kG,kH,kI,kJ,kK]<;>omega)
theorem zaxa {f2 f3:Te} {f4:Int} {f1000000:Tc} {k_normal:Te→Te→Int→Tc→Option R} (p0:Cu f1000000) (q0:(∀(w3:Tc),(Cu w3)→Φ (k_normal f2 f3 f4 w3))):Φ (zRda k_normal ⟨f2,f3,f4,f1000000⟩):=by
 unfold zRda
 try dsimp only
 refine w_dec (fun _=>zDda ?_ fun _ _=>q0 _ ?_) fun _=>q0 _ ?_
 all_goals omega
theorem zZwa {f2 f3:Te} {f4:Int} {f1000000:Tc} {k_normal:Te→Te→Int→Tc→Option R} (p0:Cu f1000000) (q0:(∀(w3:Tc),(Cu w3)→Φ (k_normal f2 f3 f4 w3))):Φ (zQda k_normal ⟨f2,f3,f4,f1000000⟩):=by
 unfold zQda
 try dsimp only
 refine w_dec (fun _=>w_dec (fun _=>zdda ?_ fun _ _ _=>q0 _ ?_) fun _=>q0 _ ?_) fun _=>q0 _ ?_
 all_goals omega
theorem zdEa {a0:Tc} {K:Int→Tc→Option R} (p0:Cu a0) (hk:∀(r0:Int) (r1:Tc),(0≤r0)→(r0≤64)→(Cu r1)→Φ (K r0 r1)):Φ (zcga a0 K):=by
 unfold zcga zbaa
 try dsimp only
 refine zvaa ?_ fun _ _ _ _ _=>w_dec (fun _=>w_eq (fun _=>w_ne (fun _=>hk _ _ ?_ ?_ ?_) fun _=>hk _ _ ?_ ?_ ?_) fun _=>w_ne (fun _=>hk _ _ ?_ ?_ ?_) fun _=>hk _ _ ?_ ?_ ?_) fun _=>w_ne (fun _=>hk _ _ ?_ ?_ ?_) fun _=>hk _ _ ?_ ?_ ?_
 all_goals omega
theorem wJ_ref08_cursor_elem_25 {f2 f3:Te} {f4 f5:Int} {f1000000:Tc} {k_exit_2:Te→Te→Int→Int→Tc→Option R} {k_normal:Te→Te→Int→Int→Tc→Option R} (p0:Cu f1000000) (p1:f3.2.2.1.length≤1000) (q0:(∀(w1:Te) (w4:Tc),(w1.2.2.1.length=f3.2.2.1.length+1)→(Cu w4)→Φ (k_exit_2 f2 w1 f4 f5 w4))) (q1:(Φ (k_normal f2 f3 f4 f5 f1000000))):Φ (zcha k_exit_2 k_normal ⟨f2,f3,f4,f5,f1000000⟩):=by
 unfold zcha
 try dsimp only
 try simp only[zKaa]
 refine w_dec (fun _=>zvaa ?_ fun _ _ _ _ _=>w_mst ?_<|q0 _ _ ?_ ?_) fun _=>q1
 all_goals first|omega|assumption|(simp (disch:=omega) only[kA,kB,kC,kD,kE,kF,kG,kH,kI,kJ,kK]<;>omega)
theorem zexa {f2:Te} {f4:Int} {k_exit_1:Te→Te→Tc→Option R}:∀ {n:Nat} {f3:Te} {f5:Int} {f1000000:Tc},(Cu f1000000)→(0≤f5)→((f3.2.2.1.length:Int)+f5≤64)→f5.toNat<n→(∀(w1:Te) (w2:Tc),(Cu w2)→Φ (k_exit_1 f2 w1 w2))→Φ (loopN (zWda k_exit_1) n ⟨f2,f3,f4,f5,f1000000⟩):=by
 intro n
 induction n with
 |zero=>intros; omega
 |succ n ih =>
  intro f3 f5 f1000000 i0 i1 i2 hm q0;rw[zaaa];unfold zWda zdha zeha zbha zaha zbaa
  try dsimp only
  refine w_dec (fun _=>w_eq (fun _=>wJ_ref08_cursor_elem_25 ?_ ?_ (fun _ _ _ _=>ih ?_ ?_ ?_ ?_ q0) (zKba ?_ fun _ _ _ _=>w_eq (fun _=>zvaa ?_ fun _ _ _ _ _=>zKba ?_ fun _ _ _ _=>w_ne (fun _=>w_eq (fun _=>w_mst ?_<|ih ?_ ?_ ?_ ?_ q0) fun _=>w_mst ?_<|ih ?_ ?_ ?_ ?_ q0) fun _=>w_mst ?_<|ih ?_ ?_ ?_ ?_ q0) fun _=>w_eq (fun _=>zDda ?_ fun _ _=>zKba ?_ fun _ _ _ _=>w_ne (fun _=>w_eq (fun _=>w_mst ?_<|ih ?_ ?_ ?_ ?_ q0) fun _=>w_mst ?_<|ih ?_ ?_ ?_ ?_ q0) fun _=>w_mst ?_<|ih ?_ ?_ ?_ ?_ q0) fun _=>w_eq (fun _=>zKba ?_ fun _ _ _ _=>w_ne (fun _=>w_eq (fun _=>w_mst ?_<|ih ?_ ?_ ?_ ?_ q0) fun _=>w_mst ?_<|ih ?_ ?_ ?_ ?_ q0) fun _=>w_mst ?_<|ih ?_ ?_ ?_ ?_ q0) fun _=>zKba ?_ fun _ _ _ _=>w_ne (fun _=>w_eq (fun _=>w_mst ?_<|ih ?_ ?_ ?_ ?_ q0) fun _=>w_mst ?_<|ih ?_ ?_ ?_ ?_ q0) fun _=>w_mst ?_<|ih ?_ ?_ ?_ ?_ q0)) fun _=>q0 _ _ ?_) fun _=>q0 _ _ ?_
  all_goals first|omega|assumption|(simp (disch:=omega) only[kA,kB,kC,kD,kE,kF,kG,kH,kI,kJ,kK]<;>omega)
theorem zeEa {a0:Tc} {K:Te→Tc→Option R} (p0:Cu a0) (hk:∀(r0:Te) (r1:Tc),(Cu r1)→Φ (K r0 r1)):Φ (zHda a0 K):=by
 unfold zHda zbaa
 try dsimp only
 refine zvaa ?_ fun _ _ _ _ _=>w_dec (fun _=>w_eq (fun _=>hk _ _ ?_) fun _=>hk _ _ ?_) fun _=>zcxa ?_ (fun _ _ _ _=>zbxa ?_ (fun _ _ _ _=>zaxa ?_ (fun _ _=>zZwa ?_ (fun _ _=>zdEa ?_ fun _ _ _ _ _=>zexa ?_ ?_ ?_ (zdaa ?_) (fun _ _ _=>hk _ _ ?_)))))
 all_goals first|with_reducible assumption|omega|with_reducible exact (zuaa _).1|with_reducible exact (zuaa _).2|rfl|(simp (disch:=omega) only[Cu,Rw,RwP,RwS,kA,kB,kC,kD,kE,kF,kG,kH,kI,kJ,kK]<;>omega)|((iterate 2 (try simp (disch:=omega) only[Cu,Rw,RwP,RwS,kA,kB,kC,kD,kE,kF,kG,kH,kI,kJ,kK]at *))<;>omega)
theorem ztsa {f12:Te} {f13:Int} {f1000000:Tc} {f1000002:It21} {k_normal:Te→Int→Tc→It21→Option R} (p0:Cu f1000000) (q0:(∀(w2:Tc),(Cu w2)→Φ (k_normal f12 f13 w2 f1000002))):Φ (zPca k_normal ⟨f12,f13,f1000000,f1000002⟩):=by
 unfold zPca zbaa
 try dsimp only
 refine w_dec (fun _=>w_eq (fun _=>q0 _ ?_) fun _=>q0 _ ?_) fun _=>q0 _ ?_
 all_goals omega
theorem zssa {f12:Te} {f13:Int} {f1000000:Tc} {f1000002:It21} {k_normal:Te→Int→Tc→It21→Option R} (p0:Cu f1000000) (q0:(∀(w2:Tc),(Cu w2)→Φ (k_normal f12 f13 w2 f1000002))):Φ (zOca k_normal ⟨f12,f13,f1000000,f1000002⟩):=by
 unfold zOca zbaa
 try dsimp only
 refine w_eq (fun _=>zvaa ?_ fun _ _ _ _ _=>w_ne (fun _=>w_eq (fun _=>q0 _ ?_) fun _=>q0 _ ?_) fun _=>q0 _ ?_) fun _=>q0 _ ?_
 all_goals omega
theorem zrsa {f12:Te} {f13:Int} {f1000000:Tc} {f1000002:It21} {k_normal:Te→Tc→It21→Option R} (p0:Cu f1000000) (q0:(∀(w0:Te) (w1:Tc),(Cu w1)→Φ (k_normal w0 w1 f1000002))):Φ (zNca k_normal ⟨f12,f13,f1000000,f1000002⟩):=by
 unfold zNca
 try dsimp only
 refine w_eq (fun _=>q0 _ _ ?_) fun _=>zVfa ?_ fun _ _ _=>q0 _ _ ?_
 all_goals omega
theorem zdxa {f3:Int} {f1000000:Tc} {k_normal:Int→Tc→Option R} (p0:Cu f1000000) (q0:(∀(w1:Tc),(Cu w1)→(w1.2.2.1=0→f3+w1.2.1≤w1.1.length)→Φ (k_normal f3 w1))):Φ (zUda k_normal ⟨f3,f1000000⟩):=by
 unfold zUda zbaa
 try dsimp only
 refine w_eq (fun _=>w_dec (fun _=>w_eq (fun _=>q0 _ ?_ ?_) fun _=>q0 _ ?_ ?_) fun _=>q0 _ ?_ ?_) fun _=>q0 _ ?_ ?_
 all_goals first|with_reducible assumption|omega|with_reducible exact (zuaa _).1|with_reducible exact (zuaa _).2|rfl|(simp (disch:=omega) only[Cu,Rw,RwP,RwS,kA,kB,kC,kD,kE,kF,kG,kH,kI,kJ,kK]<;>omega)|((iterate 2 (try simp (disch:=omega) only[Cu,Rw,RwP,RwS,kA,kB,kC,kD,kE,kF,kG,kH,kI,kJ,kK]at *))<;>omega)
theorem zupa {a0:Tc} {K:Tl→Tc→Option R} (p0:Cu a0) (hk:∀(r0:Tl) (r1:Tc),(r0.length≤1000000)→(Cu r1)→Φ (K r0 r1)):Φ (zgda a0 K):=by
 unfold zgda zfha
 try dsimp only
 try simp only[zKaa]
 refine zvaa ?_ fun _ _ _ _ _=>zdxa ?_ (fun _ _ _=>w_ne (fun _=>hk _ _ ?_ ?_) fun _=>w_inR ?_ fun _=>zoKa ?_ fun _ _=>hk _ _ ?_ ?_)
 all_goals first|with_reducible assumption|omega|with_reducible exact (zuaa _).1|with_reducible exact (zuaa _).2|rfl|(simp (disch:=omega) only[Cu,Rw,RwP,RwS,kA,kB,kC,kD,kE,kF,kG,kH,kI,kJ,kK]<;>omega)|((iterate 2 (try simp (disch:=omega) only[Cu,Rw,RwP,RwS,kA,kB,kC,kD,kE,kF,kG,kH,kI,kJ,kK]at *))<;>omega)
theorem zCxa {a0:Tc} {a1:Int} {a2:It21} {K:Tc→It21→Option R} (p0:Cu a0) (p1:Rw a2 (100000000)) (p2:LocOk a2.2.2.1) (hk:∀(r0:Tc) (r1:It21),(Cu r0)→(RwS r1 a2)→(LocOk r1.2.2.1)→Φ (K r0 r1)):Φ (zGda a0 a1 a2 K):=by
 unfold zGda zNaa zOaa
 try dsimp only
 try simp only[zKaa]
 refine w_eq (fun _=>w_eq (fun _=>w_ne (fun _=>zkKa ?_ fun _ _ _ _ _=>w_eq (fun _=>w_mst ?_<|hk _ _ ?_ ?_ ?_) fun _=>w_mst ?_<|hk _ _ ?_ ?_ ?_) fun _=>w_inR ?_ fun _=>zkKa ?_ fun _ _ _ _ _=>w_eq (fun _=>w_mst ?_<|hk _ _ ?_ ?_ ?_) fun _=>w_mst ?_<|hk _ _ ?_ ?_ ?_) fun _=>hk _ _ ?_ ?_ ?_) fun _=>w_eq (fun _=>zzja ?_ fun _ _ _=>zzja ?_ fun _ _ _=>zdda ?_ fun _ _ _=>zusa ?_ (fun _ _ _=>w_mst ?_<|hk _ _ ?_ ?_ ?_)) fun _=>w_eq (fun _=>zvaa ?_ fun _ _ _ _ _=>w_mst ?_<|hk _ _ ?_ ?_ ?_) fun _=>w_eq (fun _=>zDda ?_ fun _ _=>zdea ?_ fun _ _ _=>w_mst ?_<|hk _ _ ?_ ?_ ?_) fun _=>w_eq (fun _=>zdea ?_ fun _ _ _=>w_mst ?_<|hk _ _ ?_ ?_ ?_) fun _=>w_eq (fun _=>zEia ?_ fun _ _ _ _=>zdda ?_ fun _ _ _=>zVfa ?_ fun _ _ _=>w_mst ?_<|hk _ _ ?_ ?_ ?_) fun _=>w_eq (fun _=>zzja ?_ fun _ _ _=>zdda ?_ fun _ _ _=>zvaa ?_ fun _ _ _ _ _=>w_mst ?_<|hk _ _ ?_ ?_ ?_) fun _=>w_eq (fun _=>zeEa ?_ fun _ _ _=>w_mst ?_<|hk _ _ ?_ ?_ ?_) fun _=>w_eq (fun _=>zvaa ?_ fun _ _ _ _ _=>ztsa ?_ (fun _ _=>zssa ?_ (fun _ _=>zrsa ?_ (fun _ _ _=>zupa ?_ fun _ _ _ _=>w_mst ?_<|hk _ _ ?_ ?_ ?_)))) fun _=>hk _ _ ?_ ?_ ?_
 all_goals first|with_reducible assumption|omega|with_reducible exact (zuaa _).1|with_reducible exact (zuaa _).2|rfl|(simp (disch:=omega) only[Cu,Rw,RwP,RwS,kA,kB,kC,kD,kE,kF,kG,kH,kI,kJ,kK]<;>omega)|((iterate 2 (try simp (disch:=omega) only[Cu,Rw,RwP,RwS,kA,kB,kC,kD,kE,kF,kG,kH,kI,kJ,kK]at *))<;>omega)|with_reducible exact zv2a (by assumption) (Nat.zero_le _)
end Go.Trm.G1
namespace Go.Trm.G1
variable {R:Type} {Φ:Option R→Prop}
theorem ziEa {f1:Tl} {f7:Tc} {f1000002:It21} {k_normal:Tl→Tc→It21→Option R} (p0:Cu f7) (q0:(∀(w1:Tc),(Cu w1)→Φ (k_normal f1 w1 f1000002))):Φ (zAha k_normal ⟨f1,f7,f1000002⟩):=by
 unfold zAha zbaa
 try dsimp only
 try simp only[zKaa]
 refine zvaa ?_ fun _ _ _ _ _=>w_ne (fun _=>w_eq (fun _=>q0 _ ?_) fun _=>q0 _ ?_) fun _=>q0 _ ?_
 all_goals omega
theorem zPCa {f1:Tl} {f7:Tc} {f8 f131_0:Int} {f134:Tl} {f135:Tc} {f136 f137:Int} {f1000002:It21} {k_normal:Tl→Tc→Int→Int→Tl→Tc→Int→Int→It21→Option R} (p0:Cu f135) (p1:(f1000002.2.2.1.getD f131_0.toNat (0,[],[],())).2.1.length≤64) (q0:(∀(w5:Tc),(Cu w5)→(w5.2.2.1=0→f137+(f1000002.2.2.1.getD f131_0.toNat (0,[],[],())).2.1.length≤64)→Φ (k_normal f1 f7 f8 f131_0 f134 w5 f136 f137 f1000002))):Φ (zrga k_normal ⟨f1,f7,f8,f131_0,f134,f135,f136,f137,f1000002⟩):=by
 unfold zrga zbaa
 try dsimp only
 refine w_dec (fun _=>w_eq (fun _=>q0 _ ?_ ?_) fun _=>q0 _ ?_ ?_) fun _=>q0 _ ?_ ?_
 all_goals first|with_reducible assumption|omega|with_reducible exact (zuaa _).1|with_reducible exact (zuaa _).2|rfl|(simp (disch:=omega) only[Cu,Rw,RwP,RwS,kA,kB,kC,kD,kE,kF,kG,kH,kI,kJ,kK]<;>omega)|((iterate 2 (try simp (disch:=omega) only[Cu,Rw,RwP,RwS,kA,kB,kC,kD,kE,kF,kG,kH,kI,kJ,kK]at *))<;>omega)
theorem zmAa {N L:Nat} {f1:Tl} {f7:Tc} {f8 f131_0:Int} {f134:Tl} {f135:Tc} {f136 f138:Int} {k_exit_2:Tl→Tc→Int→Int→Tl→Tc→Int→It21→Option R}:∀ {n:Nat} {f137:Int} {f1000002:It21},(Rw f1000002 (N))→(f1000002.2.2.1.length=L)→(LocOk f1000002.2.2.1)→(0≤f131_0)→(f131_0<L)→(f137≤200000000000)→(f135.2.2.1=0→f137+(f1000002.2.2.1.getD f131_0.toNat (0,[],[],())).2.1.length≤64)→f137.toNat<n→(∀(w7:It21),(Rw w7 (N))→(w7.2.2.1.length=L)→(LocOk w7.2.2.1)→Φ (k_exit_2 f1 f7 f8 f131_0 f134 f135 f136 w7))→Φ (loopN (zhfa k_exit_2) n ⟨f1,f7,f8,f131_0,f134,f135,f136,f137,f138,f1000002⟩):=by
 intro n
 induction n with
 |zero=>intros; omega
 |succ n ih =>
  intro f137 f1000002 i0 i1 i2 i3 i4 i5 i6 hm q0;have g:=zQVa i2 f131_0.toNat;rw[zaaa];unfold zhfa zZia
  try dsimp only
  refine w_dec (fun _=>w_eq (fun _=>zfla ?_<|w_mst ?_<|ih ?_ ?_ ?_ ?_ ?_ ?_ ?_ ?_ q0) fun _=>q0 _ ?_ ?_ ?_) fun _=>q0 _ ?_ ?_ ?_
  all_goals first|with_reducible assumption|omega|with_reducible exact (zuaa _).1|with_reducible exact (zuaa _).2|rfl|(simp (disch:=omega) only[Cu,Rw,RwP,RwS,kA,kB,kC,kD,kE,kF,kG,kH,kI,kJ,kK]<;>omega)|((iterate 2 (try simp (disch:=omega) only[Cu,Rw,RwP,RwS,kA,kB,kC,kD,kE,kF,kG,kH,kI,kJ,kK]at *))<;>omega)|with_reducible exact zSZa (by assumption) (by simp only[List.length_append,List.length_set,List.length_replicate]; omega)|(simp (disch:=omega) only[zjca,w_i64,List.length_append,List.length_set,List.length_replicate]; omega)|exact Bool.and_eq_true_iff.2 ⟨beq_self_eq_true _,rfl⟩
theorem zRCa {N L:Nat} {f1:Tl} {f7:Tc} {f8 f131_0:Int} {f134:Tl} {k_exit_0:Tl→Tc→Int→Int→Tl→Tc→It21→Option R}:∀ {n:Nat} {f135:Tc} {f136:Int} {f1000002:It21},(Cu f135)→(Rw f1000002 (N))→(f1000002.2.2.1.length=L)→(LocOk f1000002.2.2.1)→(0≤f131_0)→(f131_0<L)→(0≤f136)→(f136≤200000000000)→f136.toNat<n→(∀(w5:Tc) (w6:It21),(Cu w5)→(Rw w6 (N))→(w6.2.2.1.length=L)→(LocOk w6.2.2.1)→Φ (k_exit_0 f1 f7 f8 f131_0 f134 w5 w6))→Φ (loopN (zuga k_exit_0) n ⟨f1,f7,f8,f131_0,f134,f135,f136,f1000002⟩):=by
 intro n
 induction n with
 |zero=>intros; omega
 |succ n ih =>
  intro f135 f136 f1000002 i0 i1 i2 i3 i4 i5 i6 i7 hm q0;have g:=zQVa i3 f131_0.toNat;rw[zaaa];unfold zuga zCka zDka
  try dsimp only
  refine w_dec (fun _=>w_eq (fun _=>zvaa ?_ fun _ _ _ _ _=>zPCa ?_ ?_ (fun _ _ _=>zEia ?_ fun _ _ _ _=>zmAa (N:=N) (L:=L) ?_ ?_ ?_ ?_ ?_ ?_ ?_ (zdaa ?_) (fun _ _ _ _=>ih ?_ ?_ ?_ ?_ ?_ ?_ ?_ ?_ ?_ q0))) fun _=>q0 _ _ ?_ ?_ ?_ ?_) fun _=>q0 _ _ ?_ ?_ ?_ ?_
  all_goals first|omega|assumption|(simp (disch:=omega) only[kA,kB,kC,kD,kE,kF,kG,kH,kI,kJ,kK]<;>omega)
theorem zhAa {f1:Tl} {f7:Tc} {f8:Int} {f134:Tl} {f135:Tc} {f1000002:It21} {k_normal:Tl→Tc→Int→Tc→It21→Option R} (q0:(∀(w3:Tc),Φ (k_normal f1 f7 f8 w3 f1000002))):Φ (zYea k_normal ⟨f1,f7,f8,f134,f135,f1000002⟩):=by
 unfold zYea zbaa
 try dsimp only
 exact w_eq (fun _=>w_dec (fun _=>w_eq (fun _=>q0 _) fun _=>q0 _) fun _=>q0 _) fun _=>q0 _
theorem zjEa {N L:Nat} {f1:Tl} {k_exit_3:Tl→Tc→It21→Option R}:∀ {n:Nat} {f7:Tc} {f8:Int} {f1000002:It21},(Cu f7)→(Rw f1000002 (N))→(f1000002.2.2.1.length=L)→(LocOk f1000002.2.2.1)→(0≤f8)→(L≤100000000)→((L:Int)-f8).toNat<n→(∀(w1:Tc) (w2:It21),(Cu w1)→(Rw w2 (N))→(w2.2.2.1.length=L)→(LocOk w2.2.2.1)→Φ (k_exit_3 f1 w1 w2))→Φ (loopN (zBha k_exit_3) n ⟨f1,f7,f8,f1000002⟩):=by
 intro n
 induction n with
 |zero=>intros; omega
 |succ n ih =>
  intro f7 f8 f1000002 i0 i1 i2 i3 i4 i5 hm q0;have g:=zQVa i3 f8.toNat;rw[zaaa];unfold zBha zcma zbaa
  try dsimp only
  refine w_dec (fun _=>w_eq (fun _=>w_inB ?_ fun _=>zupa ?_ fun _ _ _ _=>w_ne (fun _=>ih ?_ ?_ ?_ ?_ ?_ ?_ ?_ q0) fun _=>zvaa ?_ fun _ _ _ _ _=>zRCa (N:=N) (L:=L) ?_ ?_ ?_ ?_ ?_ ?_ ?_ ?_ (zdaa ?_) (fun _ _ _ _ _ _=>zVfa ?_ fun _ _ _=>zhAa (fun _=>w_eq (fun _=>ih ?_ ?_ ?_ ?_ ?_ ?_ ?_ q0) fun _=>ih ?_ ?_ ?_ ?_ ?_ ?_ ?_ q0))) fun _=>q0 _ _ ?_ ?_ ?_ ?_) fun _=>q0 _ _ ?_ ?_ ?_ ?_
  all_goals first|with_reducible assumption|omega|with_reducible exact (zuaa _).1|with_reducible exact (zuaa _).2|rfl|(simp (disch:=omega) only[Cu,Rw,RwP,RwS,kA,kB,kC,kD,kE,kF,kG,kH,kI,kJ,kK]<;>omega)|((iterate 2 (try simp (disch:=omega) only[Cu,Rw,RwP,RwS,kA,kB,kC,kD,kE,kF,kG,kH,kI,kJ,kK]at *))<;>omega)|with_reducible exact zSZa (by assumption) (zQVa (by assumption) _)
theorem zbGa {f0:Int} {f1:Tl} {f7:Tc} {f9:Int} {f1000002:It21} {k_normal:Int→Tl→Tc→Int→It21→Option R} (p0:Cu f7) (q0:(∀(w2:Tc),(Cu w2)→Φ (k_normal f0 f1 w2 f9 f1000002))):Φ (zBia k_normal ⟨f0,f1,f7,f9,f1000002⟩):=by
 unfold zBia zbaa
 try dsimp only
 refine w_eq (fun _=>w_eq (fun _=>w_inB ?_ fun _=>w_ne (fun _=>w_eq (fun _=>q0 _ ?_) fun _=>q0 _ ?_) fun _=>q0 _ ?_) fun _=>q0 _ ?_) fun _=>q0 _ ?_
 all_goals omega
theorem zaGa {f0:Int} {f1:Tl} {f7:Tc} {f9:Int} {f1000002:It21} {k_normal:Int→Tl→Tc→Int→It21→Option R} (p0:Cu f7) (q0:(∀(w2:Tc),(Cu w2)→(w2.2.2.1=0→f9≤64)→Φ (k_normal f0 f1 w2 f9 f1000002))):Φ (zAia k_normal ⟨f0,f1,f7,f9,f1000002⟩):=by
 unfold zAia zbaa
 try dsimp only
 refine w_dec (fun _=>w_eq (fun _=>q0 _ ?_ ?_) fun _=>q0 _ ?_ ?_) fun _=>q0 _ ?_ ?_
 all_goals first|omega|assumption|(simp (disch:=omega) only[kA,kB,kC,kD,kE,kF,kG,kH,kI,kJ,kK]<;>omega)
theorem zcGa {N:Nat} {f0:Int} {f1:Tl} {k_exit_1:Tl→Tc→It21→Option R}:∀ {n:Nat} {f7:Tc} {f9:Int} {f1000002:It21},(Cu f7)→(0≤f9)→(f9≤200000000000)→(N≤10000000)→(Rw f1000002 (N+64))→(f7.2.2.1=0→RwP f1000002 f9 (N+64))→(LocOk f1000002.2.2.1)→f9.toNat<n→(∀(w1:Tc) (w2:It21),(Rw w2 (N+64))→(LocOk w2.2.2.1)→(Cu w1)→Φ (k_exit_1 f1 w1 w2))→Φ (loopN (zCia k_exit_1) n ⟨f0,f1,f7,f9,f1000002⟩):=by
 intro n
 induction n with
 |zero=>intros; omega
 |succ n ih =>
  intro f7 f9 f1000002 i0 i1 i2 i3 i4 i5 i6 hm q0;rw[zaaa];unfold zCia zdma
  try dsimp only
  refine w_dec (fun _=>w_eq (fun _=>zCxa ?_ ?_ ?_ fun _ _ _ _ _=>ih ?_ ?_ ?_ ?_ ?_ ?_ ?_ ?_ q0) fun _=>q0 _ _ ?_ ?_ ?_) fun _=>q0 _ _ ?_ ?_ ?_
  all_goals first|omega|assumption|(simp (disch:=omega) only[kA,kB,kC,kD,kE,kF,kG,kH,kI,kJ,kK]<;>omega)
theorem zdNa {N:Nat} {a0:Int} {a1:Tl} {a2:It21} {K:Int→It21→Option R} (p0:a1.length≤1000000) (p1:Rw a2 (N)) (p2:N≤10000000) (p3:LocOk a2.2.2.1) (hk:∀(r0:Int) (r1:It21),(Rw r1 (N+64))→(LocOk r1.2.2.1)→Φ (K r0 r1)):Φ (zlma a0 a1 a2 K):=by
 unfold zlma zbma zama zbaa
 try dsimp only
 refine w_eq (fun _=>zvaa ?_ fun _ _ _ _ _=>w_eq (fun _=>w_dec (fun _=>w_eq (fun _=>hk _ _ ?_ ?_) fun _=>hk _ _ ?_ ?_) fun _=>hk _ _ ?_ ?_) fun _=>hk _ _ ?_ ?_) fun _=>w_eq (fun _=>zvaa ?_ fun _ _ _ _ _=>w_eq (fun _=>w_dec (fun _=>w_eq (fun _=>hk _ _ ?_ ?_) fun _=>hk _ _ ?_ ?_) fun _=>hk _ _ ?_ ?_) fun _=>hk _ _ ?_ ?_) fun _=>w_eq (fun _=>ziEa ?_ (fun _ _=>zjEa (N:=N) (L:=a2.2.2.1.length) ?_ ?_ ?_ ?_ ?_ ?_ (zdaa ?_) (fun _ _ _ _ _ _=>w_eq (fun _=>w_dec (fun _=>w_eq (fun _=>hk _ _ ?_ ?_) fun _=>hk _ _ ?_ ?_) fun _=>hk _ _ ?_ ?_) fun _=>hk _ _ ?_ ?_))) fun _=>zvaa ?_ fun _ _ _ _ _=>zbGa ?_ (fun _ _=>zaGa ?_ (fun _ _ _=>zcGa (N:=N) ?_ ?_ ?_ ?_ ?_ ?_ ?_ (zdaa ?_) (fun _ _ _ _ _=>w_eq (fun _=>w_dec (fun _=>w_eq (fun _=>hk _ _ ?_ ?_) fun _=>hk _ _ ?_ ?_) fun _=>hk _ _ ?_ ?_) fun _=>hk _ _ ?_ ?_)))
 all_goals first|with_reducible assumption|omega|with_reducible exact (zuaa _).1|with_reducible exact (zuaa _).2|rfl|(simp (disch:=omega) only[Cu,Rw,RwP,RwS,kA,kB,kC,kD,kE,kF,kG,kH,kI,kJ,kK]<;>omega)|((iterate 2 (try simp (disch:=omega) only[Cu,Rw,RwP,RwS,kA,kB,kC,kD,kE,kF,kG,kH,kI,kJ,kK]at *))<;>omega)
theorem wJ_ref08_Decode_14 {f2:It21} {f4:List Ts} {f5:Int} {f6:It21} {f7:List Bool} {f8:Int} {k_normal:It21→List Ts→Int→It21→List Bool→Int→Int→Option R} (p0:0≤f8∧f8<f4.length) (p1:∀y∈f4,SpOk y) (p2:f8≤65536) (p3:Rw f6 (64*f8)) (p4:LocOk f6.2.2.1) (q0:(∀(w3:It21) (w6:Int),(Rw w3 (64*f8+64))→(LocOk w3.2.2.1)→Φ (k_normal f2 f4 f5 w3 f7 f8 w6))):Φ (zKna k_normal ⟨f2,f4,f5,f6,f7,f8⟩):=by
 have ⟨g,g2⟩:=spget p1 f8.toNat;unfold zKna
 try dsimp only
 try simp only[zKaa]
 refine w_inB ?_ fun _=>w_inB ?_ fun _=>zdNa (N:=(64*f8).toNat) ?_ ?_ ?_ ?_ fun _ _ _ _=>q0 _ _ ?_ ?_
 all_goals omega
theorem zGIa {f2:It21} {f4:List Ts} {f5:Int} {k_ret:It21→Int→Option R} {k_exit_0:It21→Int→It21→List Bool→Option R}:∀ {n:Nat} {f6:It21} {f7:List Bool} {f8:Int},(0≤f8)→(f4.length≤1000000000)→(f8≤f4.length)→(∀y∈f4,SpOk y)→(f4.length≤65536)→(f7.length=13)→(Rw f6 (64*f8))→(LocOk f6.2.2.1)→((f4.length:Int)-f8).toNat<n→(∀(w0:It21) (w1:Int),Φ (k_ret w0 w1))→(∀(w2:It21) (w3:List Bool),(w3.length=13)→Φ (k_exit_0 f2 f5 w2 w3))→Φ (loopN (zVka k_ret k_exit_0) n ⟨f2,f4,f5,f6,f7,f8⟩):=by
 intro n
 induction n with
 |zero=>intros; omega
 |succ n ih =>
  intro f6 f7 f8 i0 i1 i2 i3 i4 i5 i6 i7 hm q0 q1;have ⟨g,g2⟩:=spget i3 f8.toNat;rw[zaaa];unfold zVka zdra
  try dsimp only
  refine w_dec (fun _=>w_inB ?_ fun _=>w_inB ?_ fun _=>w_inB ?_ fun _=>w_eq (fun _=>w_inB ?_ fun _=>zjPa ?_ fun _ _ _=>w_ne (fun _=>q0 _ _) fun _=>w_mst ?_<|ih ?_ ?_ ?_ ?_ ?_ ?_ ?_ ?_ ?_ q0 q1) fun _=>wJ_ref08_Decode_14 ?_ ?_ ?_ ?_ ?_ (fun _ _ _ _=>w_ne (fun _=>q0 _ _) fun _=>ih ?_ ?_ ?_ ?_ ?_ ?_ ?_ ?_ ?_ q0 q1)) fun _=>q1 _ _ ?_
  all_goals first|with_reducible assumption|omega|with_reducible exact (zuaa _).1|with_reducible exact (zuaa _).2|rfl|(simp (disch:=omega) only[Cu,Rw,RwP,RwS,kA,kB,kC,kD,kE,kF,kG,kH,kI,kJ,kK]<;>omega)|((iterate 2 (try simp (disch:=omega) only[Cu,Rw,RwP,RwS,kA,kB,kC,kD,kE,kF,kG,kH,kI,kJ,kK]at *))<;>omega)
theorem ziPa {a0:Tl} {K:It21→Int→Option R} (hk:∀(r0:It21) (r1:Int),Φ (K r0 r1)):Φ (zGoa a0 K):=by
 unfold zGoa zJna
 try dsimp only
 refine zwRa fun _ _ _ _=>zGIa ?_ ?_ ?_ ?_ ?_ ?_ ?_ ?_ (zdaa ?_) (fun _ _=>hk _ _) (fun _ _ _=>w_ne (fun _=>hk _ _) fun _=>w_dec (fun _=>w_inB ?_ fun _=>w_not (zcba (fun _=>w_dec (fun _=>w_inB ?_ fun _=>w_dec (fun _=>w_inB ?_ fun _=>w_not (zcba (fun _=>hk _ _) fun _=>hk _ _)) fun _=>hk _ _) fun _=>hk _ _) fun _=>hk _ _)) fun _=>w_dec (fun _=>w_inB ?_ fun _=>w_dec (fun _=>w_inB ?_ fun _=>w_not (zcba (fun _=>hk _ _) fun _=>hk _ _)) fun _=>hk _ _) fun _=>hk _ _)
 all_goals first|with_reducible exact zu2a|with_reducible assumption|omega|with_reducible exact (zuaa _).1|with_reducible exact (zuaa _).2|rfl|(simp (disch:=omega) only[Cu,Rw,RwP,RwS,kA,kB,kC,kD,kE,kF,kG,kH,kI,kJ,kK]<;>omega)|((iterate 2 (try simp (disch:=omega) only[Cu,Rw,RwP,RwS,kA,kB,kC,kD,kE,kF,kG,kH,kI,kJ,kK]at *))<;>omega)
end Go.Trm.G1
namespace Go.Trm.G1
theorem zcva {α:Type} {P:α→Prop} {l:List α} {d:α} {i:Int} (h0:0≤i) (hb:i<9223372036854775807) (h:∀j:Nat,(j:Int)<i→P (l.getD j d)) (hp:P (l.getD i.toNat d)):∀j:Nat,(j:Int)<IntKind.i64.wrap (i+1)→P (l.getD j d):=by
 intro j hj;rw[w_i64 (by omega)]at hj;by_cases q:(j:Int)<i
 ·exact h j q
 ·have:i.toNat=j:=by omega
  rw[←this]; exact hp
theorem ztEa {α:Type} {P:α→Prop} {l:List α} {d:α} {i:Int} (h:∀j:Nat,(j:Int)<i→P (l.getD j d)) (hi:(l.length:Int)≤i):∀y∈l,P y:=by
 intro y hy;obtain ⟨j,hj,e⟩:=List.getElem_of_mem hy;have:=h j (by omega);rw[List.getD_eq_getElem?_getD,List.getElem?_eq_getElem hj,e]at this;exact this
theorem zQ0a (l:List InsT) (i:Int):(l.length:Int)≤i→lszT l i=lsz l:=by
 intro h;unfold lszT;rw[List.take_of_length_le (by omega)]
def Sz (l:List InsT):Prop:=l.length+lsz l≤3000
def FnS (y:Int×List Int×List InsT×Unit):Prop:=y.2.1.length≤3000∧Sz y.2.2.1
def GvS (y:Int×Bool×List InsT×Unit):Prop:=Sz y.2.2.1
def ElS (y:Int×List InsT×List Int×Unit):Prop:=Sz y.2.1∧y.2.2.1.length≤3000
structure RawOk (m:It21):Prop where
 rows:m.1.length≤9223372036854775807∧m.2.1.length≤9223372036854775807∧m.2.2.1.length≤9223372036854775807∧m.2.2.2.1.length≤9223372036854775807∧m.2.2.2.2.1.length≤9223372036854775807∧m.2.2.2.2.2.1.length≤9223372036854775807∧m.2.2.2.2.2.2.1.length≤9223372036854775807∧m.2.2.2.2.2.2.2.1.length≤9223372036854775807∧m.2.2.2.2.2.2.2.2.1.length≤9223372036854775807∧m.2.2.2.2.2.2.2.2.2.1.length≤9223372036854775807∧m.2.2.2.2.2.2.2.2.2.2.1.length≤9223372036854775807∧m.2.2.2.2.2.2.2.2.2.2.2.1.length≤9223372036854775807
 fn:∀y∈m.2.2.1,∀x∈y.2.2.1,InsOk x
 gl:∀y∈m.2.2.2.2.2.1,∀x∈y.2.2.1,InsOk x
 el:∀y∈m.2.2.2.2.2.2.2.2.1,∀x∈y.2.1,InsOk x
 da:∀y∈m.2.2.2.2.2.2.2.2.2.2.1,∀x∈y.2.1,InsOk x
theorem sm_of {m:It21} {w:Int} (hr:RawOk m) (h7:∀y∈List.set (List.set (List.set (List.set (List.set (List.set (List.set (List.set (List.set (List.set (List.set (List.set (List.replicate 12 (0:Int)) 0 (((List.length m.1:Nat):Int))) 1 (((List.length m.2.1:Nat):Int))) 2 (((List.length m.2.2.1:Nat):Int))) 3 (((List.length m.2.2.2.1:Nat):Int))) 4 (((List.length m.2.2.2.2.1:Nat):Int))) 5 (((List.length m.2.2.2.2.2.1:Nat):Int))) 6 (((List.length m.2.2.2.2.2.2.1:Nat):Int))) 7 (((List.length m.2.2.2.2.2.2.2.1:Nat):Int))) 8 (((List.length m.2.2.2.2.2.2.2.2.1:Nat):Int))) 9 (((List.length m.2.2.2.2.2.2.2.2.2.1:Nat):Int))) 10 (((List.length m.2.2.2.2.2.2.2.2.2.2.1:Nat):Int))) 11 (((List.length m.2.2.2.2.2.2.2.2.2.2.2.1:Nat):Int)),y≤70) (hq:0≤w→(((((((∀y∈m.1,TyOk y)∧∀y∈m.2.1,ImOk y)∧∀y∈m.2.2.1,FnS y)∧∀y∈m.2.2.2.2.2.1,GvS y)∧∀y∈m.2.2.2.2.2.2.1,ExOk y)∧∀y∈m.2.2.2.2.2.2.2.2.1,ElS y)∧∀y∈m.2.2.2.2.2.2.2.2.2.2.1,ElS y)∧∀y∈m.2.2.2.2.2.2.2.2.2.2.2.1,CuOk y) (hd:decide (w≥0)=true):SM m:=by
 obtain ⟨⟨⟨⟨⟨⟨⟨h1,h2⟩,h3⟩,h4⟩,h5⟩,h6⟩,h8⟩,h9⟩:=hq (of_decide_eq_true hd);have h7':∀y∈[(m.1.length:Int),(m.2.1.length:Int),(m.2.2.1.length:Int),(m.2.2.2.1.length:Int),(m.2.2.2.2.1.length:Int),(m.2.2.2.2.2.1.length:Int),(m.2.2.2.2.2.2.1.length:Int),(m.2.2.2.2.2.2.2.1.length:Int),(m.2.2.2.2.2.2.2.2.1.length:Int),(m.2.2.2.2.2.2.2.2.2.1.length:Int),(m.2.2.2.2.2.2.2.2.2.2.1.length:Int),(m.2.2.2.2.2.2.2.2.2.2.2.1.length:Int)],y≤70:=h7;simp only[List.forall_mem_cons]at h7';exact ⟨by omega,h1,h2,fun y hy=>⟨(h3 y hy).1,(h3 y hy).2,hr.fn y hy⟩,fun y hy=>⟨h4 y hy,hr.gl y hy⟩,h5,fun y hy=>⟨⟨(h6 y hy).1,hr.el y hy⟩,(h6 y hy).2⟩,fun y hy=>⟨⟨(h8 y hy).1,hr.da y hy⟩,(h8 y hy).2⟩,h9⟩
theorem mm4 {l:List Int} {k:Int} (h:l.length=4):0≤minI (maxI k 0) 3∧minI (maxI k 0) 3<(l.length:Int):=by
 unfold minI maxI
 repeat' split
 all_goals omega
theorem tr2 {p q:Prop} (h:p→True∧q):p→q:=fun a=>(h a).2
theorem zP2a {b:Bool} {e:Int} {p q r:Prop} (h1:b=true→p) (hb:b=true) (hq:q) (hr:e=0→r):(e==0)=true→p∧q∧r:=fun h=>⟨h1 hb,hq,hr (eq_of_beq h)⟩
abbrev Cn (x:List (List Int×List Int×Unit)×List Int×It2) (T n:Int):Prop:=(x.1.length:Int)≤T∧(x.2.1.length:Int)≤n∧(x.2.2.1.length:Int)≤n∧(x.2.2.2.1.length:Int)≤n∧(x.2.2.2.2.1.length:Int)≤n∧(0≤x.2.2.2.2.2.2.2.1∧x.2.2.2.2.2.2.2.1≤70)∧(0≤x.2.2.2.2.2.2.2.2.1∧x.2.2.2.2.2.2.2.2.1≤70)
theorem zc1a {r:Bool} {p:Prop} (h:r=true→p) (hr:r=true):p:=h hr
theorem zG2a {r:Bool} {a v l:Int} (h:r=true→0≤a∧a<minI v l) (hr:r=true):0≤a∧a<l:=by
 have:=h hr;unfold minI at this;split at this<;>omega
theorem zZ2a {l:List (List Int×List Int×Unit)} {z y:List Int×List Int×Unit} (h:∀t∈l,TyOk t) (h1:y.1.length≤3000) (h2:y.2.1.length≤3000):∀t∈l++List.set (List.replicate 1 z) 0 y,TyOk t:=by
 intro x hx;rcases List.mem_append.1 hx with q|q
 ·exact h x q
 ·have:x∈[y]:=q;rw[List.mem_singleton]at this; subst this; exact ⟨h1,h2⟩
theorem zY2a:∀t∈([]:List (List Int×List Int×Unit)),TyOk t:=fun _ h=>by cases h
end Go.Trm.G1
