import Derived.Test.YtjjoacepbndhhaaGreatTrmG1a
import Derived.Test.YtjjoacepbndhhaaGreatProg
import Derived.KernelRfl
set_option linter.unusedVariables false
set_option linter.unusedSimpArgs false
namespace Go.Trm.G1
variable {R:Type}
open Go.Proofs
set_option maxRecDepth 100000
noncomputable def zsUa:Nat→Bool
 |11=>true
 |38=>true
 |62=>true
 |_=>false
noncomputable def znUa:Nat→Option (List Nat)
 |0|1|3|4|5|6|7|8|9|10=>some [0,1,2]
 |2=>some []
 |11|12|20|23|26|29|44|48=>some [1,2,9,10]
 |13=>some [1,2,9,10,11]
 |14|16|18|19|21|22|24|25|27|28|30|32|34|42|43|46|47|50|51|52=>some [1,2,9,10,11,71]
 |15|17=>some [1,2]
 |31|33|35=>some [1,2,9]
 |36=>some [1,2,9,12]
 |37|38|39|40=>some [1,2,9,12,13]
 |41=>some [9,12]
 |45=>some [14,16]
 |49=>some [19,21]
 |53=>some [1,2,10]
 |54|56|58|60=>some [1,9,11,71]
 |55|57|59|61|62=>some [1,9,11]
 |_=>none
noncomputable def ztja:Env:={ mE [zYGa,zTOa,ziVa,zIHa,zWla,znMa,zjVa,zOSa,zBQa] Tryz.f170 with js:=zsUa,lv:=znUa }
structure Y_ref03_Bin_38 where (f1 f2 f9 f12 f13:Int)
noncomputable def zuwa (k_normal:Int→Int→Int→Int→Int→Option R) (x:Y_ref03_Bin_38):Option R :=
 zpca x.f2 x.f13 fun r1 =>
 cond (r1==1)
 (let v3:=IntKind.u64.wrap x.f13
 cond (decide (0≤v3))
 (k_normal x.f1 x.f2 x.f9 (IntKind.u64.wrap (x.f12+(shlI .u64 x.f1 v3))) x.f13) none)
 (k_normal x.f1 x.f2 x.f9 x.f12 x.f13)
noncomputable def zIua:LB:=⟨[.d 1 A16,.d 2 A16,.d 9 A0,.d 12 A16,.d 13 A0],[(.normal,[.d 1 A16,.d 2 A16,.d 9 A0,.d 12 A16,.d 13 A0])]⟩
noncomputable def zRBa:JF Y_ref03_Bin_38:=fun _ K=>zuwa (exS zIua 0 K)
structure X_ref03_Bin_37 where (f1 f2 f9 f12 f13:Int)
noncomputable def zmpa (k_exit_2:Int→Int→Option R) (rec:X_ref03_Bin_37→Option R) (x:X_ref03_Bin_37):Option R :=
 cond (decide (x.f13<x.f9))
 (zuwa (fun w2 w3 w4 w5 w6 =>
 rec ⟨w2,w3,w4,w5,(IntKind.i64.wrap (w6+1))⟩) ⟨x.f1,x.f2,x.f9,x.f12,x.f13⟩)
 (k_exit_2 x.f9 x.f12)
noncomputable def zTua:LB:=⟨[.d 1 A16,.d 2 A16,.d 9 A0,.d 12 A16,.d 13 A0],[((.exit 2),[.d 9 A0,.d 12 A16])]⟩
noncomputable def zPFa:LF X_ref03_Bin_37:=fun _ K=>zmpa (exS zTua 0 K)
structure Y_ref03_Bin_11 where (f0 f1 f2:Int)
noncomputable def zepa (k_normal:Int→Int→Int→Int→Option R) (k_ret:Int→Int→Bool→Option R) (x:Y_ref03_Bin_11):Option R :=
 let k1:Option R:=(let k2:Option R:=(let k3:Option R:=(cond (decide (x.f0≥124))
 (cond (decide (x.f0≤138))
 (k_normal x.f1 x.f2 64 (IntKind.i64.wrap ((IntKind.i64.wrap (x.f0-124))+10)))
 (k_ret 0 0 false))
 (k_ret 0 0 false))
 cond (decide (x.f0≥106))
 (cond (decide (x.f0≤120))
 (k_normal x.f1 x.f2 32 (IntKind.i64.wrap ((IntKind.i64.wrap (x.f0-106))+10)))
 (k3))
 (k3))
 cond (decide (x.f0≥81))
 (cond (decide (x.f0≤90))
 (k_normal x.f1 x.f2 64 (IntKind.i64.wrap (x.f0-81)))
 (k2))
 (k2))
 cond (decide (x.f0≥70))
 (cond (decide (x.f0≤79))
 (k_normal x.f1 x.f2 32 (IntKind.i64.wrap (x.f0-70)))
 (k1))
 (k1)
noncomputable def zxoa:LB:=⟨[.d 0 A0,.d 1 A16,.d 2 A16],[(.normal,[.d 1 A16,.d 2 A16,.d 9 A0,.d 10 A0]),(.ret,[.d 6 A16,.d 7 A0,.d 8 A22])]⟩
noncomputable def zSBa:JF Y_ref03_Bin_11:=fun _ K=>zepa (exS zxoa 0 K) (exS zxoa 1 K)
structure Y_ref03_Bin_62 where (f1 f2 f9 f10 f11:Int)
noncomputable def zdpa (k_ret:Int→Int→Bool→Option R) (k_normal:Int→Int→Int→Option R) (x:Y_ref03_Bin_62):Option R :=
 cond (x.f10==0)
 (zbda (x.f1==x.f2) fun r3 =>
 k_ret r3 0 true)
 (cond (x.f10==1)
 (zbda (x.f1 != x.f2) fun r6 =>
 k_ret r6 0 true)
 (let k4:Option R:=(zTia x.f1 x.f2 x.f9 (x.f10==2) fun r9 =>
 zbda r9 fun r10 =>
 k_ret r10 0 true)
 cond (x.f10==2)
 (k4)
 (cond (x.f10==3)
 (k4)
 (let k5:Option R:=(zTia x.f2 x.f1 x.f9 (x.f10==4) fun r17 =>
 zbda r17 fun r18 =>
 k_ret r18 0 true)
 cond (x.f10==4)
 (k5)
 (cond (x.f10==5)
 (k5)
 (let k1:Option R:=(zTia x.f2 x.f1 x.f9 (x.f10==6) fun r25 =>
 zbda (!r25) fun r27 =>
 k_ret r27 0 true)
 cond (x.f10==6)
 (k1)
 (cond (x.f10==7)
 (k1)
 (let k2:Option R:=(zTia x.f1 x.f2 x.f9 (x.f10==8) fun r35 =>
 zbda (!r35) fun r37 =>
 k_ret r37 0 true)
 cond (x.f10==8)
 (k2)
 (cond (x.f10==9)
 (k2)
 (cond (x.f10==10)
 (zcda (IntKind.u64.wrap (x.f1+x.f2)) x.f9 fun r45 =>
 k_ret r45 0 true)
 (cond (x.f10==11)
 (zPaa x.f2 x.f9 fun r47 =>
 zcda (IntKind.u64.wrap (x.f1+r47)) x.f9 fun r49 =>
 k_ret r49 0 true)
 (cond (x.f10==12)
 (loopN (zmpa (fun w51 w52 =>
 zcda w52 w51 fun r53 =>
 k_ret r53 0 true)) zpaa ⟨x.f1,x.f2,x.f9,0,0⟩)
 (cond (x.f10==13)
 (zida x.f1 x.f2 x.f9 (x.f10==13) fun r56 r57 r58 r59 =>
 k_ret r56 r58 true)
 (cond (x.f10==14)
 (zida x.f1 x.f2 x.f9 (x.f10==13) fun r62 r63 r64 r65 =>
 k_ret r62 r64 true)
 (cond (x.f10==15)
 (zida x.f1 x.f2 x.f9 (x.f10==15) fun r68 r69 r70 r71 =>
 k_ret r69 r71 true)
 (cond (x.f10==16)
 (zida x.f1 x.f2 x.f9 (x.f10==15) fun r74 r75 r76 r77 =>
 k_ret r75 r77 true)
 (let k3:Option R:=(zhva x.f1 x.f2 (IntKind.i64.wrap (x.f10-17)) fun r80 =>
 k_ret r80 0 true)
 cond (x.f10==17)
 (k3)
 (cond (x.f10==18)
 (k3)
 (cond (x.f10==19)
 (k3)
 (cond (x.f10==20)
 (zlja x.f1 x.f11 x.f9 0 fun r88 =>
 k_ret r88 0 true)
 (cond (x.f10==21)
 (zpca x.f1 (IntKind.i64.wrap (x.f9-1)) fun r92 =>
 zlja x.f1 (negI .i64 x.f11) x.f9 r92 fun r93 =>
 k_ret r93 0 true)
 (cond (x.f10==22)
 (zlja x.f1 (negI .i64 x.f11) x.f9 0 fun r96 =>
 k_ret r96 0 true)
 (cond (x.f10==23)
 (zdka x.f1 x.f11 x.f9 fun r98 =>
 k_ret r98 0 true)
 (k_normal x.f1 x.f9 x.f11))))))))))))))))))))))))
noncomputable def zwoa:LB:=⟨[.d 1 A16,.d 2 A16,.d 9 A0,.d 10 A0,.d 11 A0],[(.ret,[.d 6 A16,.d 7 A0,.d 8 A22]),(.normal,[.d 1 A16,.d 9 A0,.d 11 A0])]⟩
noncomputable def zQBa:JF Y_ref03_Bin_62:=fun _ K=>zdpa (exS zwoa 0 K) (exS zwoa 1 K)
noncomputable def zgqa:Loops:=fun z i R st K=>match z,i with
 |false,37=>lpS zTua X_ref03_Bin_37.mk zPFa K st
 |true,38=>jpS zIua Y_ref03_Bin_38.mk zRBa K st
 |true,11=>jpS zxoa Y_ref03_Bin_11.mk zSBa K st
 |true,62=>jpS zwoa Y_ref03_Bin_62.mk zQBa K st
 |_,_=>none
theorem zSLa:JOk ztja zgqa inl0 38 Tryz.f170:=jok zIua Y_ref03_Bin_38.mk (fun x=>(x.f1,x.f2,x.f9,x.f12,x.f13,())) zRBa 38
theorem zKNa:LOk ztja zgqa inl0 37 Tryz.f170:=lok zTua X_ref03_Bin_37.mk (fun x=>(x.f1,x.f2,x.f9,x.f12,x.f13,())) zPFa 37
theorem zTLa:JOk ztja zgqa inl0 11 Tryz.f170:=jok zxoa Y_ref03_Bin_11.mk (fun x=>(x.f0,x.f1,x.f2,())) zSBa 11
theorem zRLa:JOk ztja zgqa inl0 62 Tryz.f170:=jok zwoa Y_ref03_Bin_62.mk (fun x=>(x.f1,x.f2,x.f9,x.f10,x.f11,())) zQBa 62
theorem zaOa:zsaa ztja zgqa inl0 (body Tryz.f170.body):=lsL (.cons zKNa .nil) (.cons zSLa (.cons zRLa (.cons zTLa .nil)))
noncomputable def zVza (a0 a1 a2:Int) (K:Int→Int→Bool→Option R):Option R :=
 zepa (fun w1 w2 w3 w4 =>
 zcda w1 w3 fun r5 =>
 zcda w2 w3 fun r6 =>
 let v7:=IntKind.u64.wrap w3
 cond (v7 != 0)
 (zdpa (fun w10 w11 w12 =>
 K w10 w11 w12) (fun w13 w14 w15 =>
 zdka w13 (IntKind.i64.wrap (w14-w15)) w14 fun r17 =>
 K r17 0 true) ⟨r5,r6,w3,w4,(IntKind.i64.wrap (Int.tmod r6 v7))⟩) none) (fun w18 w19 w20 =>
 K w18 w19 w20) ⟨a0,a1,a2⟩
noncomputable def zSMa:CSpec:={ ins:=[(.val (.int .i64) .s),(.val (.int .u64) .s),(.val (.int .u64) .s)],outs:=[((.int .u64),.s),((.int .i64),.s),(.bool,.s)],fn:=fun d K _=>zVza d.1 d.2.1 d.2.2.1 (fun r0 r1 r2=>K (r0,r1,r2,()) ()) }
theorem zHWa:Holds Tryz.prog 170 zSMa:=hw ztja [(6,none),(7,none),(8,none)] zfaa Tryz.func170 zaOa ⟨mixed,envTyOk.ty,envTyOk.eq⟩
noncomputable def zOWa:GE Tryz.prog:=⟨170,[],zSMa,zHWa⟩
noncomputable def zyOa:Env:=mE [zDQa,zgYa,zOWa] Tryz.f137
noncomputable def zPra (a0:Int) (K:Tl→Int→Bool→Option R):Option R :=
 zKoa a0 fun r1 =>
 zvEa a0 0 fun r2 r3 =>
 cond r3
 (let k1:Option R:=(cond (a0==172)
 (K (List.set (List.replicate 1 (0:Int)) 0 r1) 126 true)
 (cond (a0==173)
 (K (List.set (List.replicate 1 (0:Int)) 0 r1) 126 true)
 (cond (decide (a0≥194))
 (K (List.set (List.replicate 1 (0:Int)) 0 r1) 126 true)
 (K (List.set (List.replicate 1 (0:Int)) 0 r1) 127 true))))
 cond (decide (a0≥121))
 (cond (decide (a0≤123))
 (K (List.set (List.replicate 1 (0:Int)) 0 r1) 126 true)
 (k1))
 (k1))
 (zVza a0 0 1 fun r21 r22 r23 =>
 cond r23
 (cond (decide (a0≥124))
 (K (List.set (List.set (List.replicate 2 (0:Int)) 0 r1) 1 r1) 126 true)
 (K (List.set (List.set (List.replicate 2 (0:Int)) 0 r1) 1 r1) 127 true))
 (K [] 0 false))
noncomputable def zrFa:CSpec:={ ins:=[(.val (.int .i64) .s)],outs:=[((.sl 3 (.int .i64)),(.o .s)),((.int .i64),.s),(.bool,.s)],fn:=fun d K _=>zPra d.1 (fun r0 r1 r2=>K (r0,r1,r2,()) ()) }
theorem zzSa:Holds Tryz.prog 137 zrFa:=hw zyOa [(2,none),(3,none),(4,none)] (lp:=lp0) (code:=body Tryz.f137.body) zfaa Tryz.func137 l0 ⟨mixed,envTyOk.ty,envTyOk.eq⟩
noncomputable def zPSa:GE Tryz.prog:=⟨137,[],zrFa,zzSa⟩
noncomputable def zoLa:Nat→Option (List Nat)
 |0|1|43|49|52=>some [0]
 |2|3|4|5|6|7|8|10|11|12|14|15|16|17|18|19|20|21|22|23|25|27|28|29|31|32|33|35|37|39|41=>some [0,10]
 |9|13|24|26|30|34|36|38|40|42|47|51|54|55=>some []
 |44|45|48=>some [0,65,66,67]
 |46=>some [0,4,65,66,67]
 |50=>some [0,6]
 |53=>some [9]
 |_=>none
noncomputable def zIna:Env:={ mE [zfYa,zPSa] Tryz.f121 with lv:=zoLa }
structure X_ref06_Pattern_44 where (f0:Int) (f65:List Tl) (f66 f67:Int)
noncomputable def zDha (k_ret:Tb→Option R) (k_exit_1:Int→Option R) (rec:X_ref06_Pattern_44→Option R) (x:X_ref06_Pattern_44):Option R :=
 cond (decide (x.f67<x.f66))
 (cond (inB x.f67 x.f65.length)
 (let v2:=(x.f65.getD x.f67.toNat (List.replicate 2 (0:Int)))
 cond (inB 0 2)
 (cond (decide (x.f0≥(v2.getD (0:Int).toNat 0)))
 (cond (inB 1 2)
 (cond (decide (x.f0≤(v2.getD (1:Int).toNat 0)))
 (let v7:=([63]:List UInt8)
 k_ret v7)
 (rec ⟨x.f0,x.f65,x.f66,(IntKind.i64.wrap (x.f67+1))⟩)) none)
 (rec ⟨x.f0,x.f65,x.f66,(IntKind.i64.wrap (x.f67+1))⟩)) none) none)
 (k_exit_1 x.f0)
noncomputable def zqha:LB:=⟨[.d 0 A0,.d 65 A17,.d 66 A0,.d 67 A0],[(.ret,[.d 2 A20]),((.exit 1),[.d 0 A0])]⟩
noncomputable def zrua:LF X_ref06_Pattern_44:=fun _ K=>zDha (exS zqha 0 K) (exS zqha 1 K)
noncomputable def zmya:Loops:=fun z i R st K=>match z,i with
 |false,44=>lpS zqha X_ref06_Pattern_44.mk zrua K st
 |_,_=>none
theorem zAEa:LOk zIna zmya inl0 44 Tryz.f121:=lok zqha X_ref06_Pattern_44.mk (fun x=>(x.f0,x.f65,x.f66,x.f67,())) zrua 44
theorem zGEa:zsaa zIna zmya inl0 (body Tryz.f121.body):=lsL (.cons zAEa .nil) .nil
noncomputable def zYda (a0:Int) (K:Tb→Option R):Option R :=
 cond (a0==0)
 (let v2:=([46]:List UInt8)
 K v2)
 (cond (a0==1)
 (let v4:=([46]:List UInt8)
 K v4)
 (cond (a0==5)
 (let v6:=([46]:List UInt8)
 K v6)
 (cond (a0==11)
 (let v8:=([46]:List UInt8)
 K v8)
 (cond (a0==15)
 (let v10:=([46]:List UInt8)
 K v10)
 (cond (a0==26)
 (let v12:=([46]:List UInt8)
 K v12)
 (cond (a0==27)
 (let v14:=([46]:List UInt8)
 K v14)
 (cond (a0==2)
 (let v16:=([116]:List UInt8)
 K v16)
 (cond (a0==3)
 (let v18:=([116]:List UInt8)
 K v18)
 (cond (a0==4)
 (let v20:=([116]:List UInt8)
 K v20)
 (cond (a0==12)
 (let v22:=([97]:List UInt8)
 K v22)
 (cond (a0==13)
 (let v24:=([97]:List UInt8)
 K v24)
 (cond (a0==16)
 (let v26:=([97]:List UInt8)
 K v26)
 (cond (a0==32)
 (let v28:=([97]:List UInt8)
 K v28)
 (cond (a0==33)
 (let v30:=([97]:List UInt8)
 K v30)
 (cond (a0==34)
 (let v32:=([97]:List UInt8)
 K v32)
 (cond (a0==35)
 (let v34:=([97]:List UInt8)
 K v34)
 (cond (a0==36)
 (let v36:=([97]:List UInt8)
 K v36)
 (cond (a0==265)
 (let v38:=([97]:List UInt8)
 K v38)
 (cond (a0==269)
 (let v40:=([97]:List UInt8)
 K v40)
 (cond (a0==14)
 (let v42:=([108,97]:List UInt8)
 K v42)
 (cond (a0==17)
 (let v44:=([97,98]:List UInt8)
 K v44)
 (cond (a0==268)
 (let v46:=([97,98]:List UInt8)
 K v46)
 (cond (a0==270)
 (let v48:=([97,98]:List UInt8)
 K v48)
 (cond (a0==63)
 (let v50:=([122]:List UInt8)
 K v50)
 (cond (a0==64)
 (let v52:=([122]:List UInt8)
 K v52)
 (cond (a0==267)
 (let v54:=([122]:List UInt8)
 K v54)
 (cond (a0==266)
 (let v56:=([122,122]:List UInt8)
 K v56)
 (cond (a0==65)
 (let v58:=([107]:List UInt8)
 K v58)
 (cond (a0==66)
 (let v60:=([113]:List UInt8)
 K v60)
 (cond (a0==264)
 (let v62:=([97,122]:List UInt8)
 K v62)
 (let v76:=List.set (List.set (List.set (List.set (List.set (List.set (List.set (List.set (List.set (List.set (List.set (List.set (List.set (List.replicate 13 (List.replicate 2 (0:Int))) 0 (List.set (List.set (List.replicate 2 (0:Int)) 0 28) 1 28)) 1 (List.set (List.set (List.replicate 2 (0:Int)) 0 37) 1 38)) 2 (List.set (List.set (List.replicate 2 (0:Int)) 0 42) 1 43)) 3 (List.set (List.set (List.replicate 2 (0:Int)) 0 56) 1 57)) 4 (List.set (List.set (List.replicate 2 (0:Int)) 0 67) 1 68)) 5 (List.set (List.set (List.replicate 2 (0:Int)) 0 91) 1 102)) 6 (List.set (List.set (List.replicate 2 (0:Int)) 0 139) 1 166)) 7 (List.set (List.set (List.replicate 2 (0:Int)) 0 168) 1 171)) 8 (List.set (List.set (List.replicate 2 (0:Int)) 0 174) 1 191)) 9 (List.set (List.set (List.replicate 2 (0:Int)) 0 208) 1 210)) 10 (List.set (List.set (List.replicate 2 (0:Int)) 0 253) 1 253)) 11 (List.set (List.set (List.replicate 2 (0:Int)) 0 256) 1 263)) 12 (List.set (List.set (List.replicate 2 (0:Int)) 0 271) 1 273)
 loopN (zDha (fun w78 =>
 K w78) (fun w79 =>
 zuEa w79 fun r80 r81 =>
 cond r81
 (let v82:=([97,98]:List UInt8)
 K v82)
 (zPra w79 fun r83 r84 r85 =>
 cond r85
 (let v86:=([46]:List UInt8)
 K v86)
 (K [])))) zpaa ⟨a0,v76,(v76.length:Int),0⟩)))))))))))))))))))))))))))))))
noncomputable def zkza:CSpec:={ ins:=[(.val (.int .i64) .s)],outs:=[(.str,.s)],fn:=fun d K _=>zYda d.1 (fun r0=>K (r0,()) ()) }
theorem zgOa:Holds Tryz.prog 121 zkza:=hw zIna [(2,none)] zfaa Tryz.func121 zGEa ⟨mixed,envTyOk.ty,envTyOk.eq⟩
noncomputable def zmta:GE Tryz.prog:=⟨121,[],zkza,zgOa⟩
noncomputable def zUDa:Env:={ E0 with n:=Tryz.f122.ntmps }
noncomputable def ztha (a0:Int) (K:Bool→Option R):Option R :=
 cond (a0==(-64))
 (K true)
 (cond (a0==(-1))
 (K true)
 (cond (a0==(-2))
 (K true)
 (cond (decide (a0≥0))
 (K (decide (a0≤4294967295)))
 (K false))))
noncomputable def zcsa:CSpec:={ ins:=[(.val (.int .i64) .s)],outs:=[(.bool,.s)],fn:=fun d K _=>ztha d.1 (fun r0=>K (r0,()) ()) }
theorem zSGa:Holds Tryz.prog 122 zcsa:=hw zUDa [(2,none)] (lp:=lp0) (code:=body Tryz.f122.body) zfaa Tryz.func122 l0 ⟨mixed,envTyOk.ty,envTyOk.eq⟩
noncomputable def zWGa:GE Tryz.prog:=⟨122,[],zcsa,zSGa⟩
noncomputable def zlwa:Env:={ E0 with n:=Tryz.f148.ntmps }
structure X_ref01_PutU_2 where (f0:Int) (f3:Tl)
noncomputable def zppa (k_ret:Tl→Option R) (rec:X_ref01_PutU_2→Option R) (x:X_ref01_PutU_2):Option R :=
 cond (128 != 0)
 (let v2:=IntKind.u8.wrap (Int.tmod x.f0 128)
 cond (128 != 0)
 (let v3:=IntKind.u64.wrap (Int.tdiv x.f0 128)
 cond (v3==0)
 (let v5:=List.set (List.replicate 1 (0:Int)) 0 v2
 cond (decide (x.f3.length+v5.length≤most))
 (k_ret (x.f3++v5)) none)
 (let v8:=List.set (List.replicate 1 (0:Int)) 0 (IntKind.u8.wrap (v2+128))
 cond (decide (x.f3.length+v8.length≤most))
 (rec ⟨v3,(x.f3++v8)⟩) none)) none) none
noncomputable def zVua:LB:=⟨[.d 0 A16,.d 3 A1],[(.ret,[.d 2 A1])]⟩
noncomputable def zTFa:LF X_ref01_PutU_2:=fun _ K=>zppa (exS zVua 0 K)
noncomputable def zEHa:Loops:=fun z i R st K=>match z,i with
 |false,2=>lpS zVua X_ref01_PutU_2.mk zTFa K st
 |_,_=>none
theorem zONa:LOk zlwa zEHa inl0 2 Tryz.f148:=lok zVua X_ref01_PutU_2.mk (fun x=>(x.f0,x.f3,())) zTFa 2
theorem zELa:zsaa zlwa zEHa inl0 (body Tryz.f148.body):=lsL (.cons zONa .nil) .nil
noncomputable def zYba (a0:Int) (K:Tl→Option R):Option R :=
 loopN (zppa (fun w1 =>
 K w1)) zpaa ⟨a0,[]⟩
noncomputable def zgIa:CSpec:={ ins:=[(.val (.int .u64) .s)],outs:=[((.sl 5 (.int .u8)),(.o .s))],fn:=fun d K _=>zYba d.1 (fun r0=>K (r0,()) ()) }
theorem zSUa:Holds Tryz.prog 148 zgIa:=hw zlwa [(2,none)] zfaa Tryz.func148 zELa ⟨mixed,envTyOk.ty,envTyOk.eq⟩
noncomputable def zEqa:GE Tryz.prog:=⟨148,[],zgIa,zSUa⟩
noncomputable def zjwa:Env:={ E0 with n:=Tryz.f198.ntmps }
structure X_ref01_most_2 where (f0 f3:Int)
noncomputable def znpa (k_exit_0:Int→Option R) (rec:X_ref01_most_2→Option R) (x:X_ref01_most_2):Option R :=
 cond (decide ((IntKind.i64.wrap (7*x.f3))<x.f0))
 (rec ⟨x.f0,(IntKind.i64.wrap (x.f3+1))⟩)
 (k_exit_0 x.f3)
noncomputable def zUua:LB:=⟨[.d 0 A0,.d 3 A0],[((.exit 0),[.d 3 A0])]⟩
noncomputable def zQFa:LF X_ref01_most_2:=fun _ K=>znpa (exS zUua 0 K)
noncomputable def zCHa:Loops:=fun z i R st K=>match z,i with
 |false,2=>lpS zUua X_ref01_most_2.mk zQFa K st
 |_,_=>none
theorem zLNa:LOk zjwa zCHa inl0 2 Tryz.f198:=lok zUua X_ref01_most_2.mk (fun x=>(x.f0,x.f3,())) zQFa 2
theorem zBLa:zsaa zjwa zCHa inl0 (body Tryz.f198.body):=lsL (.cons zLNa .nil) .nil
noncomputable def zkva (a0:Int) (K:Int→Option R):Option R :=
 loopN (znpa (fun w1 =>
 K w1)) zpaa ⟨a0,0⟩
noncomputable def zdIa:CSpec:={ ins:=[(.val (.int .i64) .s)],outs:=[((.int .i64),.s)],fn:=fun d K _=>zkva d.1 (fun r0=>K (r0,()) ()) }
theorem zPUa:Holds Tryz.prog 198 zdIa:=hw zjwa [(2,none)] zfaa Tryz.func198 zBLa ⟨mixed,envTyOk.ty,envTyOk.eq⟩
noncomputable def zmVa:GE Tryz.prog:=⟨198,[],zdIa,zPUa⟩
noncomputable def zWoa:Env:=mE [zmVa] Tryz.f173
structure X_ref01_Read_10 where (f0:Tl) (f1:Int) (f7:List Bool) (f8 f9:Int)
noncomputable def zJfa (k_exit_2:Tl→Int→(List Bool)→Int→Option R) (rec:X_ref01_Read_10→Option R) (x:X_ref01_Read_10):Option R :=
 cond (decide (x.f9<7))
 (cond (inB x.f8 x.f0.length)
 (let v3:=IntKind.u64.wrap x.f9
 cond (decide (0≤v3))
 (cond (2 != 0)
 (let v7:=List.set (List.replicate 1 false) 0 ((Int.tmod (shrI .u8 (x.f0.getD x.f8.toNat 0) v3) 2)==1)
 cond (decide (x.f7.length+v7.length≤most))
 (rec ⟨x.f0,x.f1,(x.f7++v7),x.f8,(IntKind.i64.wrap (x.f9+1))⟩) none) none) none) none)
 (k_exit_2 x.f0 x.f1 x.f7 x.f8)
noncomputable def zQsa:LB:=⟨[.d 0 A18,.d 1 A0,.d 7 A19,.d 8 A0,.d 9 A0],[((.exit 2),[.d 0 A18,.d 1 A0,.d 7 A19,.d 8 A0])]⟩
noncomputable def zICa:LF X_ref01_Read_10:=fun _ K=>zJfa (exS zQsa 0 K)
structure X_ref01_Read_5 where (f0:Tl) (f1:Int) (f7:List Bool) (f8:Int)
noncomputable def zGha (k_ret:(List Bool)→Int→Int→Option R) (k_exit_0:Option R) (rec:X_ref01_Read_5→Option R) (x:X_ref01_Read_5):Option R :=
 zkva x.f1 fun r1 =>
 cond (decide (x.f8<r1))
 (cond (decide (x.f8≥(x.f0.length:Int)))
 (k_ret [] 0 1)
 (loopN (zJfa (fun w5 w6 w7 w8 =>
 cond (inB w8 w5.length)
 (cond (decide ((w5.getD w8.toNat 0)<128))
 (k_ret w7 (IntKind.i64.wrap (w8+1)) 0)
 (rec ⟨w5,w6,w7,(IntKind.i64.wrap (w8+1))⟩)) none)) zpaa ⟨x.f0,x.f1,x.f7,x.f8,0⟩))
 (k_exit_0)
noncomputable def zDoa:LB:=⟨[.d 0 A18,.d 1 A0,.d 7 A19,.d 8 A0],[(.ret,[.d 4 A19,.d 5 A0,.d 6 A0]),((.exit 0),[])]⟩
noncomputable def zSFa:LF X_ref01_Read_5:=fun _ K=>zGha (exS zDoa 0 K) (exS zDoa 1 K)
noncomputable def znya:Loops:=fun z i R st K=>match z,i with
 |false,10=>lpS zQsa X_ref01_Read_10.mk zICa K st
 |false,5=>lpS zDoa X_ref01_Read_5.mk zSFa K st
 |_,_=>none
theorem zmLa:LOk zWoa znya inl0 10 Tryz.f173:=lok zQsa X_ref01_Read_10.mk (fun x=>(x.f0,x.f1,x.f7,x.f8,x.f9,())) zICa 10
theorem zNNa:LOk zWoa znya inl0 5 Tryz.f173:=lok zDoa X_ref01_Read_5.mk (fun x=>(x.f0,x.f1,x.f7,x.f8,())) zSFa 5
theorem zDLa:zsaa zWoa znya inl0 (body Tryz.f173.body):=lsL (.cons zNNa (.cons zmLa .nil)) .nil
noncomputable def zUia (a0:Tl) (a1:Int) (K:(List Bool)→Int→Int→Option R):Option R :=
 cond (decide (a1<1))
 (K [] 0 5)
 (cond (decide (a1>64))
 (K [] 0 5)
 (loopN (zGha (fun w3 w4 w5 =>
 K w3 w4 w5) (K [] 0 2)) zpaa ⟨a0,a1,[],0⟩))
noncomputable def zfIa:CSpec:={ ins:=[(.val (.sl 5 (.int .u8)) .s),(.val (.int .i64) .s)],outs:=[((.sl 4 .bool),(.o .s)),((.int .i64),.s),((.int .i64),.s)],fn:=fun d K _=>zUia d.1 d.2.1 (fun r0 r1 r2=>K (r0,r1,r2,()) ()) }
theorem zRUa:Holds Tryz.prog 173 zfIa:=hw zWoa [(4,none),(5,none),(6,none)] zfaa Tryz.func173 zDLa ⟨mixed,envTyOk.ty,envTyOk.eq⟩
noncomputable def zqMa:GE Tryz.prog:=⟨173,[],zfIa,zRUa⟩
noncomputable def zFXa:Nat→Option (List Nat)
 |0|1=>some [0,1]
 |2=>some [1,7,8,9]
 |3=>some [9]
 |4=>some [1,7,8]
 |5|6|7=>some [1,7,8,10]
 |8=>some []
 |9=>some [7,8]
 |10=>some [7,8,11]
 |11|12|13|15|18=>some [7,8,11,12]
 |14|16|17=>some [7,8,11,12,13]
 |19=>some [8,11]
 |_=>none
noncomputable def zbAa:Env:={ mE [zqMa] Tryz.f165 with lv:=zFXa }
structure X_ref01_S_5 where (f1:Int) (f7:List Bool) (f8 f10:Int)
noncomputable def ztpa (k_ret:Int→Int→Int→Option R) (k_exit_0:(List Bool)→Int→Option R) (rec:X_ref01_S_5→Option R) (x:X_ref01_S_5):Option R :=
 cond (decide (x.f10<(x.f7.length:Int)))
 (cond (inB x.f10 x.f7.length)
 (let v4:=IntKind.i64.wrap (x.f1-1)
 cond (inB v4 x.f7.length)
 (cond (!((x.f7.getD x.f10.toNat false)==(x.f7.getD v4.toNat false)))
 (k_ret 0 0 2)
 (rec ⟨x.f1,x.f7,x.f8,(IntKind.i64.wrap (x.f10+1))⟩)) none) none)
 (k_exit_0 x.f7 x.f8)
noncomputable def zTza:LB:=⟨[.d 1 A0,.d 7 A19,.d 8 A0,.d 10 A0],[(.ret,[.d 4 A0,.d 5 A0,.d 6 A0]),((.exit 0),[.d 7 A19,.d 8 A0])]⟩
noncomputable def zdPa:LF X_ref01_S_5:=fun _ K=>ztpa (exS zTza 0 K) (exS zTza 1 K)
structure X_ref01_S_11 where (f7:List Bool) (f8 f11 f12:Int)
noncomputable def zema (k_exit_2:Int→Int→Option R) (rec:X_ref01_S_11→Option R) (x:X_ref01_S_11):Option R :=
 cond (decide (x.f12≥0))
 (let v3:=IntKind.i64.wrap ((x.f7.length:Int)-1)
 cond (inB v3 x.f7.length)
 (cond (decide (x.f12<(x.f7.length:Int)))
 (cond (inB x.f12 x.f7.length)
 (let v8:=IntKind.i64.wrap (x.f11*2)
 cond (x.f7.getD x.f12.toNat false)
 (rec ⟨x.f7,x.f8,(IntKind.i64.wrap (v8+1)),(IntKind.i64.wrap (x.f12-1))⟩)
 (rec ⟨x.f7,x.f8,v8,(IntKind.i64.wrap (x.f12-1))⟩)) none)
 (let v12:=IntKind.i64.wrap (x.f11*2)
 cond (x.f7.getD v3.toNat false)
 (rec ⟨x.f7,x.f8,(IntKind.i64.wrap (v12+1)),(IntKind.i64.wrap (x.f12-1))⟩)
 (rec ⟨x.f7,x.f8,v12,(IntKind.i64.wrap (x.f12-1))⟩))) none)
 (k_exit_2 x.f8 x.f11)
noncomputable def zZCa:LB:=⟨[.d 7 A19,.d 8 A0,.d 11 A0,.d 12 A0],[((.exit 2),[.d 8 A0,.d 11 A0])]⟩
noncomputable def zbNa:LF X_ref01_S_11:=fun _ K=>zema (exS zZCa 0 K)
noncomputable def zsLa:Loops:=fun z i R st K=>match z,i with
 |false,5=>lpS zTza X_ref01_S_5.mk zdPa K st
 |false,11=>lpS zZCa X_ref01_S_11.mk zbNa K st
 |_,_=>none
theorem zjUa:LOk zbAa zsLa inl0 5 Tryz.f165:=lok zTza X_ref01_S_5.mk (fun x=>(x.f1,x.f7,x.f8,x.f10,())) zdPa 5
theorem zYRa:LOk zbAa zsLa inl0 11 Tryz.f165:=lok zZCa X_ref01_S_11.mk (fun x=>(x.f7,x.f8,x.f11,x.f12,())) zbNa 11
theorem ziSa:zsaa zbAa zsLa inl0 (body Tryz.f165.body):=lsL (.cons zjUa (.cons zYRa .nil)) .nil
noncomputable def zLoa (a0:Tl) (a1:Int) (K:Int→Int→Int→Option R):Option R :=
 zUia a0 a1 fun r1 r2 r3 =>
 cond (r3 != 0)
 (K 0 0 r3)
 (loopN (ztpa (fun w5 w6 w7 =>
 K w5 w6 w7) (fun w8 w9 =>
 loopN (zema (fun w10 w11 =>
 K w11 w10 0)) zpaa ⟨w8,w9,0,63⟩)) zpaa ⟨a1,r1,r2,a1⟩)
noncomputable def zsTa:CSpec:={ ins:=[(.val (.sl 5 (.int .u8)) .s),(.val (.int .i64) .s)],outs:=[((.int .i64),.s),((.int .i64),.s),((.int .i64),.s)],fn:=fun d K _=>zLoa d.1 d.2.1 (fun r0 r1 r2=>K (r0,r1,r2,()) ()) }
theorem zkZa:Holds Tryz.prog 165 zsTa:=hw zbAa [(4,none),(5,none),(6,none)] zfaa Tryz.func165 ziSa ⟨mixed,envTyOk.ty,envTyOk.eq⟩
noncomputable def zFQa:GE Tryz.prog:=⟨165,[],zsTa,zkZa⟩
noncomputable def zXoa:Env:=mE [zFQa] Tryz.f167
structure X_ref01_PutS_5 where (f0 f3:Int) (f4:Tl) (f5:Int)
noncomputable def zqpa (k_exit_2:Int→Int→Tl→Option R) (rec:X_ref01_PutS_5→Option R) (x:X_ref01_PutS_5):Option R :=
 cond (decide (x.f5<x.f3))
 (let v3:=IntKind.u64.wrap (IntKind.i64.wrap (7*x.f5))
 cond (decide (0≤v3))
 (cond (128 != 0)
 (let v7:=IntKind.u8.wrap (Int.tmod (IntKind.u64.wrap (shrI .i64 x.f0 v3)) 128)
 cond (decide (x.f5<(IntKind.i64.wrap (x.f3-1))))
 (let v11:=List.set (List.replicate 1 (0:Int)) 0 (IntKind.u8.wrap (v7+128))
 cond (decide (x.f4.length+v11.length≤most))
 (rec ⟨x.f0,x.f3,(x.f4++v11),(IntKind.i64.wrap (x.f5+1))⟩) none)
 (let v14:=List.set (List.replicate 1 (0:Int)) 0 v7
 cond (decide (x.f4.length+v14.length≤most))
 (rec ⟨x.f0,x.f3,(x.f4++v14),(IntKind.i64.wrap (x.f5+1))⟩) none)) none) none)
 (k_exit_2 x.f0 x.f3 x.f4)
noncomputable def zWua:LB:=⟨[.d 0 A0,.d 3 A0,.d 4 A1,.d 5 A0],[((.exit 2),[.d 0 A0,.d 3 A0,.d 4 A1])]⟩
noncomputable def zUFa:LF X_ref01_PutS_5:=fun _ K=>zqpa (exS zWua 0 K)
structure X_ref01_PutS_3 where (f0 f3:Int)
noncomputable def zrpa (k_ret:Tl→Option R) (rec:X_ref01_PutS_3→Option R) (x:X_ref01_PutS_3):Option R :=
 loopN (zqpa (fun w1 w2 w3 =>
 zLoa w3 64 fun r4 r5 r6 =>
 cond (r6==0)
 (cond (r4==w1)
 (k_ret w3)
 (rec ⟨w1,(IntKind.i64.wrap (w2+1))⟩))
 (rec ⟨w1,(IntKind.i64.wrap (w2+1))⟩))) zpaa ⟨x.f0,x.f3,[],0⟩
noncomputable def zXua:LB:=⟨[.d 0 A0,.d 3 A0],[(.ret,[.d 2 A1])]⟩
noncomputable def zVFa:LF X_ref01_PutS_3:=fun _ K=>zrpa (exS zXua 0 K)
noncomputable def zoya:Loops:=fun z i R st K=>match z,i with
 |false,5=>lpS zWua X_ref01_PutS_5.mk zUFa K st
 |false,3=>lpS zXua X_ref01_PutS_3.mk zVFa K st
 |_,_=>none
theorem zPNa:LOk zXoa zoya inl0 5 Tryz.f167:=lok zWua X_ref01_PutS_5.mk (fun x=>(x.f0,x.f3,x.f4,x.f5,())) zUFa 5
theorem zQNa:LOk zXoa zoya inl0 3 Tryz.f167:=lok zXua X_ref01_PutS_3.mk (fun x=>(x.f0,x.f3,())) zVFa 3
theorem zFLa:zsaa zXoa zoya inl0 (body Tryz.f167.body):=lsL (.cons zQNa (.cons zPNa .nil)) .nil
noncomputable def zaqa (a0:Int) (K:Tl→Option R):Option R :=
 loopN (zrpa (fun w1 =>
 K w1)) zpaa ⟨a0,1⟩
noncomputable def zhIa:CSpec:={ ins:=[(.val (.int .i64) .s)],outs:=[((.sl 5 (.int .u8)),(.o .s))],fn:=fun d K _=>zaqa d.1 (fun r0=>K (r0,()) ()) }
theorem zTUa:Holds Tryz.prog 167 zhIa:=hw zXoa [(2,none)] zfaa Tryz.func167 zFLa ⟨mixed,envTyOk.ty,envTyOk.eq⟩
noncomputable def zrMa:GE Tryz.prog:=⟨167,[],zhIa,zTUa⟩
noncomputable def zVDa:Env:=mE [zrMa] Tryz.f166
noncomputable def zuha (a0:Int) (K:Tl→Option R):Option R :=
 zaqa a0 fun r1 =>
 K r1
noncomputable def zdsa:CSpec:={ ins:=[(.val (.int .i64) .s)],outs:=[((.sl 5 (.int .u8)),(.o .s))],fn:=fun d K _=>zuha d.1 (fun r0=>K (r0,()) ()) }
theorem zTGa:Holds Tryz.prog 166 zdsa:=hw zVDa [(2,none)] (lp:=lp0) (code:=body Tryz.f166.body) zfaa Tryz.func166 l0 ⟨mixed,envTyOk.ty,envTyOk.eq⟩
noncomputable def zXGa:GE Tryz.prog:=⟨166,[],zdsa,zTGa⟩
noncomputable def zLQa:Nat→Bool
 |1=>true
 |_=>false
noncomputable def zQPa:Nat→Option (List Nat)
 |0=>some [0]
 |1|3=>some [1]
 |2|4=>some [1,3]
 |5=>some [1,3,4]
 |6|7|8|10|12|14|16|17|23|25=>some [1,3,4,5]
 |9|11|13|15|21|22|24=>some [1,3,4,5,32]
 |18|19|20=>some [1,3,4,5,6]
 |26=>some [3]
 |_=>none
noncomputable def zoma:Env:={ mE [zEqa,zmta,zXGa,zrMa] Tryz.f124 with fz:=zLQa,lv:=zQPa }
structure X_ref06_Bytes_18 where (f1:Ti) (f3:Tl) (f4:Tb) (f5 f6:Int)
noncomputable def zala (k_exit_3:Ti→Tl→Tb→Int→Option R) (rec:X_ref06_Bytes_18→Option R) (x:X_ref06_Bytes_18):Option R :=
 cond (decide (x.f6<(x.f1.2.2.2.2.1.length:Int)))
 (cond (inB x.f6 x.f1.2.2.2.2.1.length)
 (zYba (IntKind.u64.wrap (x.f1.2.2.2.2.1.getD x.f6.toNat 0)) fun r5 =>
 cond (decide (x.f3.length+r5.length≤most))
 (rec ⟨x.f1,(x.f3++r5),x.f4,x.f5,(IntKind.i64.wrap (x.f6+1))⟩) none) none)
 (k_exit_3 x.f1 x.f3 x.f4 x.f5)
noncomputable def zOpa:LB:=⟨[.d 1 B1,.d 3 A1,.d 4 A20,.d 5 A0,.d 6 A0],[((.exit 3),[.d 1 B1,.d 3 A1,.d 4 A20,.d 5 A0])]⟩
noncomputable def zKza:LF X_ref06_Bytes_18:=fun _ K=>zala (exS zOpa 0 K)
structure X_ref06_Bytes_6 where (f1:Ti) (f3:Tl) (f4:Tb) (f5:Int)
noncomputable def zria (k_exit_0:Tl→Option R) (rec:X_ref06_Bytes_6→Option R) (x:X_ref06_Bytes_6):Option R :=
 cond (decide (x.f5<(x.f4.length:Int)))
 (cond (inB x.f5 x.f4.length)
 (let v3:=bt x.f4 x.f5
 cond (v3==116)
 (zuha x.f1.2.1 fun r5 =>
 cond (decide (x.f3.length+r5.length≤most))
 (rec ⟨x.f1,(x.f3++r5),x.f4,(IntKind.i64.wrap (x.f5+1))⟩) none)
 (cond (v3==97)
 (zYba (IntKind.u64.wrap x.f1.2.1) fun r10 =>
 cond (decide (x.f3.length+r10.length≤most))
 (rec ⟨x.f1,(x.f3++r10),x.f4,(IntKind.i64.wrap (x.f5+1))⟩) none)
 (cond (v3==98)
 (zYba (IntKind.u64.wrap x.f1.2.2.1) fun r15 =>
 cond (decide (x.f3.length+r15.length≤most))
 (rec ⟨x.f1,(x.f3++r15),x.f4,(IntKind.i64.wrap (x.f5+1))⟩) none)
 (cond (v3==108)
 (zYba (IntKind.u64.wrap (x.f1.2.2.2.2.1.length:Int)) fun r21 =>
 cond (decide (x.f3.length+r21.length≤most))
 (loopN (zala (fun w23 w24 w25 w26 =>
 rec ⟨w23,w24,w25,(IntKind.i64.wrap (w26+1))⟩)) zpaa ⟨x.f1,(x.f3++r21),x.f4,x.f5,0⟩) none)
 (let k1:Option R:=(zaqa x.f1.2.2.2.1 fun r29 =>
 cond (decide (x.f3.length+r29.length≤most))
 (rec ⟨x.f1,(x.f3++r29),x.f4,(IntKind.i64.wrap (x.f5+1))⟩) none)
 cond (v3==107)
 (k1)
 (cond (v3==113)
 (k1)
 (cond (v3==122)
 (let v37:=List.set (List.replicate 1 (0:Int)) 0 0
 cond (decide (x.f3.length+v37.length≤most))
 (rec ⟨x.f1,(x.f3++v37),x.f4,(IntKind.i64.wrap (x.f5+1))⟩) none)
 (rec ⟨x.f1,x.f3,x.f4,(IntKind.i64.wrap (x.f5+1))⟩)))))))) none)
 (k_exit_0 x.f3)
noncomputable def zNsa:LB:=⟨[.d 1 B1,.d 3 A1,.d 4 A20,.d 5 A0],[((.exit 0),[.d 3 A1])]⟩
noncomputable def zCCa:LF X_ref06_Bytes_6:=fun _ K=>zria (exS zNsa 0 K)
noncomputable def zuva:Loops:=fun z i R st K=>match z,i with
 |false,18=>lpS zOpa X_ref06_Bytes_18.mk zKza K st
 |false,6=>lpS zNsa X_ref06_Bytes_6.mk zCCa K st
 |_,_=>none
theorem zmJa:LOk zoma zuva inl0 18 Tryz.f124:=lok zOpa X_ref06_Bytes_18.mk (fun x=>(x.f1,x.f3,x.f4,x.f5,x.f6,())) zKza 18
theorem zgLa:LOk zoma zuva inl0 6 Tryz.f124:=lok zNsa X_ref06_Bytes_6.mk (fun x=>(x.f1,x.f3,x.f4,x.f5,())) zCCa 6
theorem zxJa:zsaa zoma zuva inl0 (body Tryz.f124.body):=lsL (.cons zgLa (.cons zmJa .nil)) .nil
noncomputable def zDma (a0:Ti) (K:Tl→Option R):Option R :=
 cond (decide (a0.1≥256))
 (let v4:=List.set (List.replicate 1 (0:Int)) 0 252
 zYba (IntKind.u64.wrap (IntKind.i64.wrap (a0.1-256))) fun r7 =>
 cond (decide (v4.length+r7.length≤most))
 (zYda a0.1 fun r9 =>
 loopN (zria (fun w10 =>
 K w10)) zpaa ⟨a0,(v4++r7),r9,0⟩) none)
 (zYda a0.1 fun r11 =>
 loopN (zria (fun w12 =>
 K w12)) zpaa ⟨a0,(List.set (List.replicate 1 (0:Int)) 0 (IntKind.u8.wrap a0.1)),r11,0⟩)
noncomputable def zmFa:CSpec:={ ins:=[(.val (.pair (.int .i64) (.pair (.int .i64) Ty0)) .s)],outs:=[((.sl 5 (.int .u8)),(.o .s))],fn:=fun d K _=>zDma d.1 (fun r0=>K (r0,()) ()) }
theorem zuSa:Holds Tryz.prog 124 zmFa:=hw zoma [(2,none)] zfaa Tryz.func124 zxJa ⟨mixed,envTyOk.ty,envTyOk.eq⟩
noncomputable def zHHa:GE Tryz.prog:=⟨124,[],zmFa,zuSa⟩
noncomputable def zpHa:Env:=mE [zqMa] Tryz.f149
structure X_ref01_U_6 where (f1:Int) (f7:List Bool) (f8 f10 f11:Int)
noncomputable def zdAa (k_ret:Int→Int→Int→Option R) (k_exit_0:Int→Int→Option R) (rec:X_ref01_U_6→Option R) (x:X_ref01_U_6):Option R :=
 cond (decide (x.f11<(x.f7.length:Int)))
 (cond (inB x.f11 x.f7.length)
 (cond (!(x.f7.getD x.f11.toNat false))
 (rec ⟨x.f1,x.f7,x.f8,x.f10,(IntKind.i64.wrap (x.f11+1))⟩)
 (cond (decide (x.f11≥x.f1))
 (k_ret 0 0 2)
 (let v7:=IntKind.u64.wrap x.f11
 cond (decide (0≤v7))
 (rec ⟨x.f1,x.f7,x.f8,(IntKind.u64.wrap (x.f10+(shlI .u64 1 v7))),(IntKind.i64.wrap (x.f11+1))⟩) none))) none)
 (k_exit_0 x.f8 x.f10)
noncomputable def zSza:LB:=⟨[.d 1 A0,.d 7 A19,.d 8 A0,.d 10 A16,.d 11 A0],[(.ret,[.d 4 A16,.d 5 A0,.d 6 A0]),((.exit 0),[.d 8 A0,.d 10 A16])]⟩
noncomputable def zcPa:LF X_ref01_U_6:=fun _ K=>zdAa (exS zSza 0 K) (exS zSza 1 K)
noncomputable def zgSa:Loops:=fun z i R st K=>match z,i with
 |false,6=>lpS zSza X_ref01_U_6.mk zcPa K st
 |_,_=>none
theorem ziUa:LOk zpHa zgSa inl0 6 Tryz.f149:=lok zSza X_ref01_U_6.mk (fun x=>(x.f1,x.f7,x.f8,x.f10,x.f11,())) zcPa 6
theorem zhSa:zsaa zpHa zgSa inl0 (body Tryz.f149.body):=lsL (.cons ziUa .nil) .nil
noncomputable def zeka (a0:Tl) (a1:Int) (K:Int→Int→Int→Option R):Option R :=
 zUia a0 a1 fun r1 r2 r3 =>
 cond (r3 != 0)
 (K 0 0 r3)
 (loopN (zdAa (fun w5 w6 w7 =>
 K w5 w6 w7) (fun w8 w9 =>
 K w9 w8 0)) zpaa ⟨a1,r1,r2,0,0⟩)
noncomputable def zrTa:CSpec:={ ins:=[(.val (.sl 5 (.int .u8)) .s),(.val (.int .i64) .s)],outs:=[((.int .u64),.s),((.int .i64),.s),((.int .i64),.s)],fn:=fun d K _=>zeka d.1 d.2.1 (fun r0 r1 r2=>K (r0,r1,r2,()) ()) }
theorem zjZa:Holds Tryz.prog 149 zrTa:=hw zpHa [(4,none),(5,none),(6,none)] zfaa Tryz.func149 zhSa ⟨mixed,envTyOk.ty,envTyOk.eq⟩
noncomputable def zZza:GE Tryz.prog:=⟨149,[],zrTa,zjZa⟩
noncomputable def zkTa:Env:={ E0 with n:=Tryz.f187.ntmps }
noncomputable def zspa (a0:Int) (K:Int→Int→Option R):Option R :=
 cond (a0==127)
 (K (IntKind.i64.wrap a0) 0)
 (cond (a0==126)
 (K (IntKind.i64.wrap a0) 0)
 (cond (a0==125)
 (K 0 3)
 (cond (a0==124)
 (K 0 3)
 (cond (a0==123)
 (K 0 3)
 (cond (a0==112)
 (K 0 3)
 (cond (a0==111)
 (K 0 3)
 (K 0 2)))))))
noncomputable def zOMa:CSpec:={ ins:=[(.val (.int .u8) .s)],outs:=[((.int .i64),.s),((.int .i64),.s)],fn:=fun d K _=>zspa d.1 (fun r0 r1=>K (r0,r1,()) ()) }
theorem zDWa:Holds Tryz.prog 187 zOMa:=hw zkTa [(2,none),(3,none)] (lp:=lp0) (code:=body Tryz.f187.body) zfaa Tryz.func187 l0 ⟨mixed,envTyOk.ty,envTyOk.eq⟩
noncomputable def zVGa:GE Tryz.prog:=⟨187,[],zOMa,zDWa⟩
noncomputable def zwOa:Env:=mE [zVGa,zFQa] Tryz.f164
noncomputable def zOra (a0:Tl) (K:Int→Int→Int→Option R):Option R :=
 cond (decide ((a0.length:Int)<1))
 (K 0 0 1)
 (cond (inB 0 a0.length)
 (cond ((a0.getD (0:Int).toNat 0)==64)
 (K (-64) 1 0)
 (cond (inB 0 a0.length)
 (zspa (a0.getD (0:Int).toNat 0) fun r6 r7 =>
 cond (r7==3)
 (K 0 0 3)
 (cond (r7==0)
 (K (IntKind.i64.wrap (r6-128)) 1 0)
 (zLoa a0 33 fun r11 r12 r13 =>
 cond (r13 != 0)
 (K 0 0 r13)
 (cond (decide (r11<0))
 (K 0 0 2)
 (K r11 r12 0))))) none)) none)
noncomputable def zoFa:CSpec:={ ins:=[(.val (.sl 5 (.int .u8)) .s)],outs:=[((.int .i64),.s),((.int .i64),.s),((.int .i64),.s)],fn:=fun d K _=>zOra d.1 (fun r0 r1 r2=>K (r0,r1,r2,()) ()) }
theorem zwSa:Holds Tryz.prog 164 zoFa:=hw zwOa [(2,none),(3,none),(4,none)] (lp:=lp0) (code:=body Tryz.f164.body) zfaa Tryz.func164 l0 ⟨mixed,envTyOk.ty,envTyOk.eq⟩
noncomputable def zNSa:GE Tryz.prog:=⟨164,[],zoFa,zwSa⟩
noncomputable def zrUa:Nat→Bool
 |13=>true
 |21=>true
 |33=>true
 |35=>true
 |37=>true
 |38=>true
 |51=>true
 |_=>false
noncomputable def zmUa:Nat→Option (List Nat)
 |0=>some [0,1]
 |1|3|6=>some [0,1,4]
 |2|10|16|18=>some [4]
 |4|5|13=>some [0,1,4,7]
 |7=>some [0,1,4,8,9,10]
 |8=>some [4,10]
 |9|11=>some [0,1,4,8,9]
 |12=>some [0,1,4,7,9]
 |14=>some [0,1,4,7,11]
 |15|17|19=>some [0,1,4,11,12]
 |20|21|22|25|29|30|42|44=>some [0,1,4,11,12,13]
 |23|47|49|51=>some [0,1,4,11,12,13,14,15]
 |24|26|27|28|41|43|45=>some [0,1,4,11,12,13,14,15,73]
 |31|32|33|34|35|37=>some [0,1,4,11,12,13,14,15,16]
 |36|38=>some [0,1,4,11,12,13,14,16]
 |39=>some [0,1,4,11,12,13,14,16,17,18,19]
 |40=>some [0,1,4,11,12,13,14,16,18,19]
 |46=>some [0,1,4,11,12,13,15]
 |48|50|53=>some [0,1,4,11,12,13,14]
 |52=>some [4,15]
 |54=>some [1,4,11]
 |_=>none
noncomputable def zCca:Env:={ mE [zZza,zmta,zNSa,zFQa] Tryz.f123 with js:=zrUa,lv:=zmUa }
structure Y_ref06_One_38 where (f0:Tl) (f1:Int) (f4 f11:Ti) (f12:Tb) (f13 f14 f15 f16:Int)
noncomputable def zrwa (k_normal:Tl→Int→Ti→Ti→Tb→Int→Int→Int→Option R) (k_exit_3:Tl→Int→Ti→Ti→Tb→Int→Int→Int→Option R) (x:Y_ref06_One_38):Option R :=
 cond (inB x.f13 x.f12.length)
 (cond ((bt x.f12 x.f13)==108)
 (cond (x.f15==0)
 (cond (decide ((x.f11.2.2.2.2.1.length:Int)<(IntKind.i64.wrap x.f16)))
 (k_normal x.f0 x.f1 x.f4 x.f11 x.f12 x.f13 x.f14 x.f16)
 (k_exit_3 x.f0 x.f1 x.f4 x.f11 x.f12 x.f13 x.f14 x.f15))
 (k_exit_3 x.f0 x.f1 x.f4 x.f11 x.f12 x.f13 x.f14 x.f15))
 (k_exit_3 x.f0 x.f1 x.f4 x.f11 x.f12 x.f13 x.f14 x.f15)) none
noncomputable def ztoa:LB:=⟨[.d 0 A18,.d 1 A0,.d 4 B10,.d 11 B10,.d 12 A20,.d 13 A0,.d 14 A0,.d 15 A0,.d 16 A16],[(.normal,[.d 0 A18,.d 1 A0,.d 4 B10,.d 11 B10,.d 12 A20,.d 13 A0,.d 14 A0,.d 16 A16]),((.exit 3),[.d 0 A18,.d 1 A0,.d 4 B10,.d 11 B10,.d 12 A20,.d 13 A0,.d 14 A0,.d 15 A0])]⟩
noncomputable def zKBa:JF Y_ref06_One_38:=fun _ K=>zrwa (exS ztoa 0 K) (exS ztoa 1 K)
structure X_ref06_One_37 where (f0:Tl) (f1:Int) (f4 f11:Ti) (f12:Tb) (f13 f14 f15 f16:Int)
noncomputable def zhpa (k_exit_3:Tl→Int→Ti→Ti→Tb→Int→Int→Int→Option R) (rec:X_ref06_One_37→Option R) (x:X_ref06_One_37):Option R :=
 zrwa (fun w1 w2 w3 w4 w5 w6 w7 w8 =>
 let v9:=IntKind.i64.wrap (w2+w7)
 cond (inR v9 (w1.length:Int) w1.length)
 (zeka (rng w1 v9 (w1.length:Int)) 32 fun r11 r12 r13 =>
 let v15:=List.set (List.replicate 1 (0:Int)) 0 (IntKind.i64.wrap r11)
 cond (decide (w4.2.2.2.2.1.length+v15.length≤most))
 (rec ⟨w1,w2,w3,(w4.1,(w4.2.1,(w4.2.2.1,(w4.2.2.2.1,((w4.2.2.2.2.1++v15),w4.2.2.2.2.2))))),w5,w6,(IntKind.i64.wrap (w7+r12)),r13,w8⟩) none) none) (fun w18 w19 w20 w21 w22 w23 w24 w25 =>
 k_exit_3 w18 w19 w20 w21 w22 w23 w24 w25) ⟨x.f0,x.f1,x.f4,x.f11,x.f12,x.f13,x.f14,x.f15,x.f16⟩
noncomputable def zOua:LB:=⟨[.d 0 A18,.d 1 A0,.d 4 B10,.d 11 B10,.d 12 A20,.d 13 A0,.d 14 A0,.d 15 A0,.d 16 A16],[((.exit 3),[.d 0 A18,.d 1 A0,.d 4 B10,.d 11 B10,.d 12 A20,.d 13 A0,.d 14 A0,.d 15 A0])]⟩
noncomputable def zJFa:LF X_ref06_One_37:=fun _ K=>zhpa (exS zOua 0 K)
structure Y_ref06_One_33 where (f0:Tl) (f1:Int) (f4 f11:Ti) (f12:Tb) (f13 f14 f15 f16:Int)
noncomputable def zcpa (k_normal:Tl→Int→Ti→Ti→Tb→Int→Int→Int→Int→Option R) (x:Y_ref06_One_33):Option R :=
 cond (inB x.f13 x.f12.length)
 (cond ((bt x.f12 x.f13)==97)
 (k_normal x.f0 x.f1 x.f4 (x.f11.1,((IntKind.i64.wrap x.f16),x.f11.2.2)) x.f12 x.f13 x.f14 x.f15 x.f16)
 (k_normal x.f0 x.f1 x.f4 x.f11 x.f12 x.f13 x.f14 x.f15 x.f16)) none
noncomputable def zHua:LB:=⟨[.d 0 A18,.d 1 A0,.d 4 B10,.d 11 B10,.d 12 A20,.d 13 A0,.d 14 A0,.d 15 A0,.d 16 A16],[(.normal,[.d 0 A18,.d 1 A0,.d 4 B10,.d 11 B10,.d 12 A20,.d 13 A0,.d 14 A0,.d 15 A0,.d 16 A16])]⟩
noncomputable def zNBa:JF Y_ref06_One_33:=fun _ K=>zcpa (exS zHua 0 K)
structure Y_ref06_One_35 where (f0:Tl) (f1:Int) (f4 f11:Ti) (f12:Tb) (f13 f14 f15 f16:Int)
noncomputable def zbpa (k_normal:Tl→Int→Ti→Ti→Tb→Int→Int→Int→Int→Option R) (x:Y_ref06_One_35):Option R :=
 cond (inB x.f13 x.f12.length)
 (cond ((bt x.f12 x.f13)==98)
 (k_normal x.f0 x.f1 x.f4 (x.f11.1,(x.f11.2.1,((IntKind.i64.wrap x.f16),x.f11.2.2.2))) x.f12 x.f13 x.f14 x.f15 x.f16)
 (k_normal x.f0 x.f1 x.f4 x.f11 x.f12 x.f13 x.f14 x.f15 x.f16)) none
noncomputable def zGua:LB:=⟨[.d 0 A18,.d 1 A0,.d 4 B10,.d 11 B10,.d 12 A20,.d 13 A0,.d 14 A0,.d 15 A0,.d 16 A16],[(.normal,[.d 0 A18,.d 1 A0,.d 4 B10,.d 11 B10,.d 12 A20,.d 13 A0,.d 14 A0,.d 15 A0,.d 16 A16])]⟩
noncomputable def zMBa:JF Y_ref06_One_35:=fun _ K=>zbpa (exS zGua 0 K)
structure Y_ref06_One_37 where (f0:Tl) (f1:Int) (f4 f11:Ti) (f12:Tb) (f13 f14 f15 f16:Int)
noncomputable def zapa (k_normal:Tl→Int→Ti→Ti→Tb→Int→Int→Int→Int→Option R) (x:Y_ref06_One_37):Option R :=
 cond (inB x.f13 x.f12.length)
 (cond ((bt x.f12 x.f13)==108)
 (cond (x.f15==0)
 (cond (decide (x.f16>64))
 (k_normal x.f0 x.f1 x.f4 x.f11 x.f12 x.f13 x.f14 4 x.f16)
 (k_normal x.f0 x.f1 x.f4 x.f11 x.f12 x.f13 x.f14 x.f15 x.f16))
 (k_normal x.f0 x.f1 x.f4 x.f11 x.f12 x.f13 x.f14 x.f15 x.f16))
 (k_normal x.f0 x.f1 x.f4 x.f11 x.f12 x.f13 x.f14 x.f15 x.f16)) none
noncomputable def zFua:LB:=⟨[.d 0 A18,.d 1 A0,.d 4 B10,.d 11 B10,.d 12 A20,.d 13 A0,.d 14 A0,.d 15 A0,.d 16 A16],[(.normal,[.d 0 A18,.d 1 A0,.d 4 B10,.d 11 B10,.d 12 A20,.d 13 A0,.d 14 A0,.d 15 A0,.d 16 A16])]⟩
noncomputable def zLBa:JF Y_ref06_One_37:=fun _ K=>zapa (exS zFua 0 K)
structure Y_ref06_One_51 where (f0:Tl) (f1:Int) (f4 f11:Ti) (f12:Tb) (f13 f14 f15:Int)
noncomputable def zZoa (k_normal:Tl→Int→Ti→Ti→Tb→Int→Int→Int→Option R) (x:Y_ref06_One_51):Option R :=
 cond (inB x.f13 x.f12.length)
 (let v1:=bt x.f12 x.f13
 cond (v1==116)
 (cond (inR x.f1 (x.f0.length:Int) x.f0.length)
 (zOra (rng x.f0 x.f1 (x.f0.length:Int)) fun r4 r5 r6 =>
 k_normal x.f0 x.f1 x.f4 (x.f11.1,(r4,x.f11.2.2)) x.f12 x.f13 r5 r6) none)
 (let k1:Option R:=(cond (inR x.f1 (x.f0.length:Int) x.f0.length)
 (zeka (rng x.f0 x.f1 (x.f0.length:Int)) 32 fun r9 r10 r11 =>
 zcpa (fun w12 w13 w14 w15 w16 w17 w18 w19 w20 =>
 zbpa (fun w21 w22 w23 w24 w25 w26 w27 w28 w29 =>
 zapa (fun w30 w31 w32 w33 w34 w35 w36 w37 w38 =>
 loopN (zhpa (fun w39 w40 w41 w42 w43 w44 w45 w46 =>
 k_normal w39 w40 w41 w42 w43 w44 w45 w46)) zpaa ⟨w30,w31,w32,w33,w34,w35,w36,w37,w38⟩) ⟨w21,w22,w23,w24,w25,w26,w27,w28,w29⟩) ⟨w12,w13,w14,w15,w16,w17,w18,w19,w20⟩) ⟨x.f0,x.f1,x.f4,x.f11,x.f12,x.f13,r10,r11,r9⟩) none)
 cond (v1==97)
 (k1)
 (cond (v1==98)
 (k1)
 (cond (v1==108)
 (k1)
 (cond (v1==107)
 (cond (inR x.f1 (x.f0.length:Int) x.f0.length)
 (zLoa (rng x.f0 x.f1 (x.f0.length:Int)) 32 fun r129 r130 r131 =>
 k_normal x.f0 x.f1 x.f4 (x.f11.1,(x.f11.2.1,(x.f11.2.2.1,(r129,x.f11.2.2.2.2)))) x.f12 x.f13 r130 r131) none)
 (cond (v1==113)
 (cond (inR x.f1 (x.f0.length:Int) x.f0.length)
 (zLoa (rng x.f0 x.f1 (x.f0.length:Int)) 64 fun r134 r135 r136 =>
 k_normal x.f0 x.f1 x.f4 (x.f11.1,(x.f11.2.1,(x.f11.2.2.1,(r134,x.f11.2.2.2.2)))) x.f12 x.f13 r135 r136) none)
 (cond (v1==122)
 (cond (decide (x.f1≥(x.f0.length:Int)))
 (k_normal x.f0 x.f1 x.f4 x.f11 x.f12 x.f13 1 1)
 (cond (inB x.f1 x.f0.length)
 (cond ((x.f0.getD x.f1.toNat 0) != 0)
 (k_normal x.f0 x.f1 x.f4 x.f11 x.f12 x.f13 1 2)
 (k_normal x.f0 x.f1 x.f4 x.f11 x.f12 x.f13 1 x.f15)) none))
 (k_normal x.f0 x.f1 x.f4 x.f11 x.f12 x.f13 x.f14 x.f15)))))))) none
noncomputable def zEua:LB:=⟨[.d 0 A18,.d 1 A0,.d 4 B10,.d 11 B10,.d 12 A20,.d 13 A0,.d 14 A0,.d 15 A0],[(.normal,[.d 0 A18,.d 1 A0,.d 4 B10,.d 11 B10,.d 12 A20,.d 13 A0,.d 14 A0,.d 15 A0])]⟩
noncomputable def zJBa:JF Y_ref06_One_51:=fun _ K=>zZoa (exS zEua 0 K)
structure Y_ref06_One_21 where (f0:Tl) (f1:Int) (f4 f11:Ti) (f12:Tb) (f13:Int)
noncomputable def zswa (k_ret:Ti→Int→Int→Option R) (k_normal:Tl→Int→Ti→Ti→Tb→Int→Option R) (x:Y_ref06_One_21):Option R :=
 zZoa (fun w1 w2 w3 w4 w5 w6 w7 w8 =>
 cond (w8 != 0)
 (k_ret (0,(0,(0,(0,([],()))))) 0 w8)
 (k_normal w1 (IntKind.i64.wrap (w2+w7)) w3 w4 w5 w6)) ⟨x.f0,x.f1,x.f4,x.f11,x.f12,x.f13,0,0⟩
noncomputable def zuoa:LB:=⟨[.d 0 A18,.d 1 A0,.d 4 B10,.d 11 B10,.d 12 A20,.d 13 A0],[(.ret,[.d 4 B10,.d 5 A0,.d 6 A0]),(.normal,[.d 0 A18,.d 1 A0,.d 4 B10,.d 11 B10,.d 12 A20,.d 13 A0])]⟩
noncomputable def zOBa:JF Y_ref06_One_21:=fun _ K=>zswa (exS zuoa 0 K) (exS zuoa 1 K)
structure X_ref06_One_20 where (f0:Tl) (f1:Int) (f4 f11:Ti) (f12:Tb) (f13:Int)
noncomputable def zipa (k_ret:Ti→Int→Int→Option R) (k_exit_0:Int→Ti→Ti→Option R) (rec:X_ref06_One_20→Option R) (x:X_ref06_One_20):Option R :=
 cond (decide (x.f13<(x.f12.length:Int)))
 (zswa (fun w3 w4 w5 =>
 k_ret w3 w4 w5) (fun w6 w7 w8 w9 w10 w11 =>
 rec ⟨w6,w7,w8,w9,w10,(IntKind.i64.wrap (w11+1))⟩) ⟨x.f0,x.f1,x.f4,x.f11,x.f12,x.f13⟩)
 (k_exit_0 x.f1 x.f4 x.f11)
noncomputable def zAoa:LB:=⟨[.d 0 A18,.d 1 A0,.d 4 B10,.d 11 B10,.d 12 A20,.d 13 A0],[(.ret,[.d 4 B10,.d 5 A0,.d 6 A0]),((.exit 0),[.d 1 A0,.d 4 B10,.d 11 B10])]⟩
noncomputable def zKFa:LF X_ref06_One_20:=fun _ K=>zipa (exS zAoa 0 K) (exS zAoa 1 K)
structure Y_ref06_One_13 where (f0:Tl) (f1:Int) (f4:Ti) (f7:Int)
noncomputable def ztwa (k_ret:Ti→Int→Int→Option R) (k_normal:Tl→Int→Ti→Int→Option R) (x:Y_ref06_One_13):Option R :=
 cond (x.f7==252)
 (cond (inR x.f1 (x.f0.length:Int) x.f0.length)
 (zeka (rng x.f0 x.f1 (x.f0.length:Int)) 32 fun r3 r4 r5 =>
 cond (r5 != 0)
 (k_ret (0,(0,(0,(0,([],()))))) 0 r5)
 (cond (decide (r3>255))
 (k_ret (0,(0,(0,(0,([],()))))) 0 2)
 (k_normal x.f0 (IntKind.i64.wrap (x.f1+r4)) x.f4 (IntKind.i64.wrap (256+(IntKind.i64.wrap r3)))))) none)
 (k_normal x.f0 x.f1 x.f4 x.f7)
noncomputable def zvoa:LB:=⟨[.d 0 A18,.d 1 A0,.d 4 B10,.d 7 A0],[(.ret,[.d 4 B10,.d 5 A0,.d 6 A0]),(.normal,[.d 0 A18,.d 1 A0,.d 4 B10,.d 7 A0])]⟩
noncomputable def zPBa:JF Y_ref06_One_13:=fun _ K=>ztwa (exS zvoa 0 K) (exS zvoa 1 K)
noncomputable def zaea:Loops:=fun z i R st K=>match z,i with
 |false,37=>lpS zOua X_ref06_One_37.mk zJFa K st
 |false,20=>lpS zAoa X_ref06_One_20.mk zKFa K st
 |true,38=>jpS ztoa Y_ref06_One_38.mk zKBa K st
 |true,33=>jpS zHua Y_ref06_One_33.mk zNBa K st
 |true,35=>jpS zGua Y_ref06_One_35.mk zMBa K st
 |true,37=>jpS zFua Y_ref06_One_37.mk zLBa K st
 |true,51=>jpS zEua Y_ref06_One_51.mk zJBa K st
 |true,21=>jpS zuoa Y_ref06_One_21.mk zOBa K st
 |true,13=>jpS zvoa Y_ref06_One_13.mk zPBa K st
 |_,_=>none
theorem zLLa:JOk zCca zaea inl0 38 Tryz.f123:=jok ztoa Y_ref06_One_38.mk (fun x=>(x.f0,x.f1,x.f4,x.f11,x.f12,x.f13,x.f14,x.f15,x.f16,())) zKBa 38
theorem zENa:LOk zCca zaea inl0 37 Tryz.f123:=lok zOua X_ref06_One_37.mk (fun x=>(x.f0,x.f1,x.f4,x.f11,x.f12,x.f13,x.f14,x.f15,x.f16,())) zJFa 37
theorem zOLa:JOk zCca zaea inl0 33 Tryz.f123:=jok zHua Y_ref06_One_33.mk (fun x=>(x.f0,x.f1,x.f4,x.f11,x.f12,x.f13,x.f14,x.f15,x.f16,())) zNBa 33
theorem zNLa:JOk zCca zaea inl0 35 Tryz.f123:=jok zGua Y_ref06_One_35.mk (fun x=>(x.f0,x.f1,x.f4,x.f11,x.f12,x.f13,x.f14,x.f15,x.f16,())) zMBa 35
theorem zMLa:JOk zCca zaea inl0 37 Tryz.f123:=jok zFua Y_ref06_One_37.mk (fun x=>(x.f0,x.f1,x.f4,x.f11,x.f12,x.f13,x.f14,x.f15,x.f16,())) zLBa 37
theorem zKLa:JOk zCca zaea inl0 51 Tryz.f123:=jok zEua Y_ref06_One_51.mk (fun x=>(x.f0,x.f1,x.f4,x.f11,x.f12,x.f13,x.f14,x.f15,())) zJBa 51
theorem zPLa:JOk zCca zaea inl0 21 Tryz.f123:=jok zuoa Y_ref06_One_21.mk (fun x=>(x.f0,x.f1,x.f4,x.f11,x.f12,x.f13,())) zOBa 21
theorem zFNa:LOk zCca zaea inl0 20 Tryz.f123:=lok zAoa X_ref06_One_20.mk (fun x=>(x.f0,x.f1,x.f4,x.f11,x.f12,x.f13,())) zKFa 20
theorem zQLa:JOk zCca zaea inl0 13 Tryz.f123:=jok zvoa Y_ref06_One_13.mk (fun x=>(x.f0,x.f1,x.f4,x.f7,())) zPBa 13
theorem zYNa:zsaa zCca zaea inl0 (body Tryz.f123.body):=lsL (.cons zFNa (.cons zENa .nil)) (.cons zLLa (.cons zMLa (.cons zNLa (.cons zOLa (.cons zKLa (.cons zPLa (.cons zQLa .nil)))))))
noncomputable def zzta (a0:Tl) (a1:Int) (K:Ti→Int→Int→Option R):Option R :=
 cond (decide (a1≥(a0.length:Int)))
 (K (0,(0,(0,(0,([],()))))) 0 1)
 (cond (inB a1 a0.length)
 (ztwa (fun w6 w7 w8 =>
 K w6 w7 w8) (fun w9 w10 w11 w12 =>
 zYda w12 fun r13 =>
 cond (r13==[])
 (K (0,(0,(0,(0,([],()))))) 0 2)
 (cond (r13==([63]:List UInt8))
 (K (0,(0,(0,(0,([],()))))) 0 3)
 (loopN (zipa (fun w16 w17 w18 =>
 K w16 w17 w18) (fun w19 w20 w21 =>
 K w21 w19 0)) zpaa ⟨w9,w10,w11,(w12,(0,(0,(0,([],()))))),r13,0⟩))) ⟨a0,(IntKind.i64.wrap (a1+1)),(0,(0,(0,(0,([],()))))),(IntKind.i64.wrap (a0.getD a1.toNat 0))⟩) none)
noncomputable def zMMa:CSpec:={ ins:=[(.val (.sl 5 (.int .u8)) .s),(.val (.int .i64) .s)],outs:=[((.pair (.int .i64) (.pair (.int .i64) Ty0)),(.p .s (.p .s (.p .s (.p .s (.p (.o .s) .s)))))),((.int .i64),.s),((.int .i64),.s)],fn:=fun d K _=>zzta d.1 d.2.1 (fun r0 r1 r2=>K (r0,r1,r2,()) ()) }
theorem zBWa:Holds Tryz.prog 123 zMMa:=hw zCca [(4,some 45),(5,none),(6,none)] zfaa Tryz.func123 zYNa ⟨mixed,envTyOk.ty,envTyOk.eq⟩
noncomputable def zROa:GE Tryz.prog:=⟨123,[],zMMa,zBWa⟩
noncomputable def zYla:Env:={ E0 with n:=Tryz.f42.ntmps }
structure X_ref05_SameInts_4 where (f0 f1:Tl) (f5:Int)
noncomputable def zFha (k_ret:Bool→Option R) (k_exit_0:Option R) (rec:X_ref05_SameInts_4→Option R) (x:X_ref05_SameInts_4):Option R :=
 cond (decide (x.f5<(x.f0.length:Int)))
 (cond (inB x.f5 x.f0.length)
 (cond (inB x.f5 x.f1.length)
 (cond ((x.f0.getD x.f5.toNat 0) != (x.f1.getD x.f5.toNat 0))
 (k_ret false)
 (rec ⟨x.f0,x.f1,(IntKind.i64.wrap (x.f5+1))⟩)) none) none)
 (k_exit_0)
noncomputable def zrha:LB:=⟨[.d 0 A2,.d 1 A2,.d 5 A0],[(.ret,[.d 4 A22]),((.exit 0),[])]⟩
noncomputable def zsua:LF X_ref05_SameInts_4:=fun _ K=>zFha (exS zrha 0 K) (exS zrha 1 K)
noncomputable def zMwa:Loops:=fun z i R st K=>match z,i with
 |false,4=>lpS zrha X_ref05_SameInts_4.mk zsua K st
 |_,_=>none
theorem zBEa:LOk zYla zMwa inl0 4 Tryz.f42:=lok zrha X_ref05_SameInts_4.mk (fun x=>(x.f0,x.f1,x.f5,())) zsua 4
theorem zvDa:zsaa zYla zMwa inl0 (body Tryz.f42.body):=lsL (.cons zBEa .nil) .nil
noncomputable def zDba (a0 a1:Tl) (K:Bool→Option R):Option R :=
 cond ((a0.length:Int) != (a1.length:Int))
 (K false)
 (loopN (zFha (fun w4 =>
 K w4) (K true)) zpaa ⟨a0,a1,0⟩)
noncomputable def zTwa:CSpec:={ ins:=[(.val (.sl 3 (.int .i64)) .s),(.val (.sl 3 (.int .i64)) .s)],outs:=[(.bool,.s)],fn:=fun d K _=>zDba d.1 d.2.1 (fun r0=>K (r0,()) ()) }
theorem zbMa:Holds Tryz.prog 42 zTwa:=hw zYla [(4,none)] zfaa Tryz.func42 zvDa ⟨mixed,envTyOk.ty,envTyOk.eq⟩
noncomputable def zDqa:GE Tryz.prog:=⟨42,[],zTwa,zbMa⟩
noncomputable def zWSa:Nat→Bool
 |2=>true
 |3=>true
 |_=>false
noncomputable def zYQa:Env:={ mE [zDqa] Tryz.f125 with fz:=zWSa }
noncomputable def zWpa (a0 a1:Ti) (K:Bool→Option R):Option R :=
 cond (a0.1==a1.1)
 (cond (a0.2.1==a1.2.1)
 (cond (a0.2.2.1==a1.2.2.1)
 (cond (a0.2.2.2.1==a1.2.2.2.1)
 (zDba a0.2.2.2.2.1 a1.2.2.2.2.1 fun r5 =>
 K r5)
 (K false))
 (K false))
 (K false))
 (K false)
noncomputable def zSHa:CSpec:={ ins:=[(.val (.pair (.int .i64) (.pair (.int .i64) Ty0)) .s),(.val (.pair (.int .i64) (.pair (.int .i64) Ty0)) .s)],outs:=[(.bool,.s)],fn:=fun d K _=>zWpa d.1 d.2.1 (fun r0=>K (r0,()) ()) }
theorem zEUa:Holds Tryz.prog 125 zSHa:=hw zYQa [(4,none)] (lp:=lp0) (code:=body Tryz.f125.body) zfaa Tryz.func125 l0 ⟨mixed,envTyOk.ty,envTyOk.eq⟩
noncomputable def zkMa:GE Tryz.prog:=⟨125,[],zSHa,zEUa⟩
noncomputable def znOa:Nat→Bool
 |1=>true
 |_=>false
noncomputable def zrOa:Nat→Bool
 |6=>true
 |_=>false
noncomputable def zTNa:Nat→Option (List Nat)
 |0=>some [0]
 |1|12=>some [1]
 |2|4|10=>some [1,3]
 |3|8|11=>some []
 |5|6|9=>some [1,3,33,34,35]
 |7=>some [1,3,5,33,34,35]
 |13=>some [1,6,8]
 |_=>none
noncomputable def zGqa:Env:={ mE [zmta,zWGa,zHHa,zROa,zkMa] Tryz.f71 with fz:=znOa,fs:=zrOa,lv:=zTNa }
structure X_ref06_Formed_5 where (f1:Ti) (f3:Tb) (f33:Tl) (f34 f35:Int)
noncomputable def zYka (k_ret:Bool→Option R) (k_exit_0:Ti→Tb→Option R) (rec:X_ref06_Formed_5→Option R) (x:X_ref06_Formed_5):Option R :=
 cond (decide (x.f35<x.f34))
 (cond (inB x.f35 x.f33.length)
 (let v2:=(x.f33.getD x.f35.toNat 0)
 cond (decide (v2<0))
 (k_ret false)
 (cond (decide (v2>4294967295))
 (k_ret false)
 (rec ⟨x.f1,x.f3,x.f33,x.f34,(IntKind.i64.wrap (x.f35+1))⟩))) none)
 (k_exit_0 x.f1 x.f3)
noncomputable def zTja:LB:=⟨[.d 1 B1,.d 3 A20,.d 33 A5,.d 34 A0,.d 35 A0],[(.ret,[.d 2 A22]),((.exit 0),[.d 1 B1,.d 3 A20])]⟩
noncomputable def zIza:LF X_ref06_Formed_5:=fun _ K=>zYka (exS zTja 0 K) (exS zTja 1 K)
noncomputable def zCBa:Loops:=fun z i R st K=>match z,i with
 |false,5=>lpS zTja X_ref06_Formed_5.mk zIza K st
 |_,_=>none
theorem zkJa:LOk zGqa zCBa inl0 5 Tryz.f71:=lok zTja X_ref06_Formed_5.mk (fun x=>(x.f1,x.f3,x.f33,x.f34,x.f35,())) zIza 5
theorem zzGa:zsaa zGqa zCBa inl0 (body Tryz.f71.body):=lsL (.cons zkJa .nil) .nil
noncomputable def zIoa (a0:Ti) (K:Bool→Option R):Option R :=
 zYda a0.1 fun r1 =>
 cond (r1==[])
 (K false)
 (cond (r1==([63]:List UInt8))
 (K false)
 (cond (decide (a0.1<0))
 (K false)
 (cond (decide (a0.1>511))
 (K false)
 (let v6:=List.set (List.replicate 1 (0:Int)) 0 a0.2.2.1
 cond (decide (v6.length+a0.2.2.2.2.1.length≤most))
 (let v7:=v6++a0.2.2.2.2.1
 loopN (zYka (fun w9 =>
 K w9) (fun w10 w11 =>
 let k1:Option R:=(let k2:Option R:=(zDma w10 fun r18 =>
 zzta r18 0 fun r19 r20 r21 =>
 cond (r21==0)
 (zWpa w10 r19 fun r23 =>
 K r23)
 (K false))
 cond (w11==([116]:List UInt8))
 (ztha w10.2.1 fun r16 =>
 cond (!r16)
 (K false)
 (k2))
 (k2))
 cond (!(w11==([116]:List UInt8)))
 (cond (decide (w10.2.1<0))
 (K false)
 (cond (decide (w10.2.1>4294967295))
 (K false)
 (k1)))
 (k1))) zpaa ⟨a0,r1,v7,(v7.length:Int),0⟩) none))))
noncomputable def zcCa:CSpec:={ ins:=[(.val (.pair (.int .i64) (.pair (.int .i64) Ty0)) .s)],outs:=[(.bool,.s)],fn:=fun d K _=>zIoa d.1 (fun r0=>K (r0,()) ()) }
theorem zhQa:Holds Tryz.prog 71 zcCa:=hw zGqa [(2,none)] zfaa Tryz.func71 zzGa ⟨mixed,envTyOk.ty,envTyOk.eq⟩
noncomputable def zyQa:GE Tryz.prog:=⟨71,[],zcCa,zhQa⟩
noncomputable def zeza:Env:=mE [zHHa] Tryz.f72
structure X_ref06_All_3 where (f0:Tj) (f3:Tl) (f4:Int)
noncomputable def zqsa (k_exit_0:Tl→Option R) (rec:X_ref06_All_3→Option R) (x:X_ref06_All_3):Option R :=
 cond (decide (x.f4<(x.f0.length:Int)))
 (cond (inB x.f4 x.f0.length)
 (zDma (x.f0.getD x.f4.toNat (0,(0,(0,(0,([],())))))) fun r4 =>
 cond (decide (x.f3.length+r4.length≤most))
 (rec ⟨x.f0,(x.f3++r4),(IntKind.i64.wrap (x.f4+1))⟩) none) none)
 (k_exit_0 x.f3)
noncomputable def zUxa:LB:=⟨[.d 0 A3,.d 3 A1,.d 4 A0],[((.exit 0),[.d 3 A1])]⟩
noncomputable def zrIa:LF X_ref06_All_3:=fun _ K=>zqsa (exS zUxa 0 K)
noncomputable def zrLa:Loops:=fun z i R st K=>match z,i with
 |false,3=>lpS zUxa X_ref06_All_3.mk zrIa K st
 |_,_=>none
theorem zGPa:LOk zeza zrLa inl0 3 Tryz.f72:=lok zUxa X_ref06_All_3.mk (fun x=>(x.f0,x.f3,x.f4,())) zrIa 3
theorem zZNa:zsaa zeza zrLa inl0 (body Tryz.f72.body):=lsL (.cons zGPa .nil) .nil
noncomputable def zAta (a0:Tj) (K:Tl→Option R):Option R :=
 loopN (zqsa (fun w1 =>
 K w1)) zpaa ⟨a0,[],0⟩
noncomputable def zNMa:CSpec:={ ins:=[(.val (.sl 45 (.pair (.int .i64) (.pair (.int .i64) Ty0))) .s)],outs:=[((.sl 5 (.int .u8)),(.o .s))],fn:=fun d K _=>zAta d.1 (fun r0=>K (r0,()) ()) }
theorem zCWa:Holds Tryz.prog 72 zNMa:=hw zeza [(2,none)] zfaa Tryz.func72 zZNa ⟨mixed,envTyOk.ty,envTyOk.eq⟩
noncomputable def zSOa:GE Tryz.prog:=⟨72,[],zNMa,zCWa⟩
noncomputable def zcTa:Nat→Bool
 |8=>true
 |_=>false
noncomputable def zHRa:Nat→Bool
 |74=>true
 |_=>false
noncomputable def zeSa:Nat→Option (List Nat)
 |0|1=>some [0]
 |2=>some [0,5]
 |3=>some [0,5,6]
 |4=>some [0,5,6,7]
 |5=>some [0,5,6,8,9,10]
 |6=>some [10]
 |7|9|13|20|22=>some [0,5,6,8,9]
 |8|12|16=>some []
 |10|11|14|15|17|18|19=>some [0,5,6,8,9,11]
 |21=>some [5,8,9]
 |23=>some [0,5,6,9]
 |_=>none
noncomputable def zgwa:Env:={ mE [zROa] Tryz.f73 with fs:=zcTa,sb:=zHRa,lv:=zeSa }
structure X_ref06_Body_4 where (f0:Tl) (f5:Tj) (f6:Tb) (f7:Int)
noncomputable def zjpa (k_ret:Tj→Int→Int→Option R) (rec:X_ref06_Body_4→Option R) (x:X_ref06_Body_4):Option R :=
 zzta x.f0 x.f7 fun r1 r2 r3 =>
 cond (r3 != 0)
 (k_ret [] 0 r3)
 (cond ((x.f5.length:Int)==2000)
 (k_ret [] 0 4)
 (let v7:=(x.f6.length:Int)
 let k1:Option R:=(cond (r1.1==5)
 (cond (v7==0)
 (k_ret [] 0 2)
 (let v19:=IntKind.i64.wrap (v7-1)
 cond (inB v19 x.f6.length)
 (cond ((bt x.f6 v19) != 52)
 (k_ret [] 0 2)
 (let v22:=IntKind.i64.wrap (v7-1)
 cond (inR 0 v22 x.f6.length)
 (let v23:=rng x.f6 0 v22
 cond (decide (v23.length+([53]:List UInt8).length≤most))
 (let v25:=List.set (List.replicate 1 ((0:Int),((0:Int),((0:Int),((0:Int),(([]:List (Int)),())))))) 0 r1
 cond (decide (x.f5.length+v25.length≤most))
 (rec ⟨x.f0,(x.f5++v25),(v23++([53]:List UInt8)),r2⟩) none) none) none)) none))
 (let k2:Option R:=(cond (r1.1==11)
 (let v34:=List.set (List.replicate 1 ((0:Int),((0:Int),((0:Int),((0:Int),(([]:List (Int)),())))))) 0 r1
 cond (decide (x.f5.length+v34.length≤most))
 (k_ret (x.f5++v34) r2 0) none)
 (let v36:=List.set (List.replicate 1 ((0:Int),((0:Int),((0:Int),((0:Int),(([]:List (Int)),())))))) 0 r1
 cond (decide (x.f5.length+v36.length≤most))
 (rec ⟨x.f0,(x.f5++v36),x.f6,r2⟩) none))
 cond (r1.1==11)
 (cond (decide (v7>0))
 (let v29:=IntKind.i64.wrap (v7-1)
 cond (inR 0 v29 x.f6.length)
 (let v31:=List.set (List.replicate 1 ((0:Int),((0:Int),((0:Int),((0:Int),(([]:List (Int)),())))))) 0 r1
 cond (decide (x.f5.length+v31.length≤most))
 (rec ⟨x.f0,(x.f5++v31),(rng x.f6 0 v29),r2⟩) none) none)
 (k2))
 (k2)))
 cond (decide (r1.1≥2))
 (cond (decide (r1.1≤4))
 (cond (v7==64)
 (k_ret [] 0 4)
 (let v13:=runeB (IntKind.i32.wrap (IntKind.i64.wrap (48+r1.1)))
 cond (decide (x.f6.length+v13.length≤most))
 (let v15:=List.set (List.replicate 1 ((0:Int),((0:Int),((0:Int),((0:Int),(([]:List (Int)),())))))) 0 r1
 cond (decide (x.f5.length+v15.length≤most))
 (rec ⟨x.f0,(x.f5++v15),(x.f6++v13),r2⟩) none) none))
 (k1))
 (k1)))
noncomputable def zQua:LB:=⟨[.d 0 A18,.d 5 A21,.d 6 A20,.d 7 A0],[(.ret,[.d 2 A21,.d 3 A0,.d 4 A0])]⟩
noncomputable def zMFa:LF X_ref06_Body_4:=fun _ K=>zjpa (exS zQua 0 K)
noncomputable def zzHa:Loops:=fun z i R st K=>match z,i with
 |false,4=>lpS zQua X_ref06_Body_4.mk zMFa K st
 |_,_=>none
theorem zHNa:LOk zgwa zzHa inl0 4 Tryz.f73:=lok zQua X_ref06_Body_4.mk (fun x=>(x.f0,x.f5,x.f6,x.f7,())) zMFa 4
theorem zyLa:zsaa zgwa zzHa inl0 (body Tryz.f73.body):=lsL (.cons zHNa .nil) .nil
noncomputable def zXpa (a0:Tl) (K:Tj→Int→Int→Option R):Option R :=
 loopN (zjpa (fun w1 w2 w3 =>
 K w1 w2 w3)) zpaa ⟨a0,[],[],0⟩
noncomputable def zUHa:CSpec:={ ins:=[(.val (.sl 5 (.int .u8)) .s)],outs:=[((.sl 45 (.pair (.int .i64) (.pair (.int .i64) Ty0))),(.o .s)),((.int .i64),.s),((.int .i64),.s)],fn:=fun d K _=>zXpa d.1 (fun r0 r1 r2=>K (r0,r1,r2,()) ()) }
theorem zGUa:Holds Tryz.prog 73 zUHa:=hw zgwa [(2,none),(3,none),(4,none)] zfaa Tryz.func73 zyLa ⟨mixed,envTyOk.ty,envTyOk.eq⟩
noncomputable def zmMa:GE Tryz.prog:=⟨73,[],zUHa,zGUa⟩
noncomputable def zHna:Env:=mE [zkMa] Tryz.f74
structure X_ref06_SameAll_4 where (f0 f1:Tj) (f5:Int)
noncomputable def zDia (k_ret:Bool→Option R) (k_exit_0:Option R) (rec:X_ref06_SameAll_4→Option R) (x:X_ref06_SameAll_4):Option R :=
 cond (decide (x.f5<(x.f0.length:Int)))
 (cond (inB x.f5 x.f0.length)
 (cond (inB x.f5 x.f1.length)
 (zWpa (x.f0.getD x.f5.toNat (0,(0,(0,(0,([],())))))) (x.f1.getD x.f5.toNat (0,(0,(0,(0,([],())))))) fun r5 =>
 cond (!r5)
 (k_ret false)
 (rec ⟨x.f0,x.f1,(IntKind.i64.wrap (x.f5+1))⟩)) none) none)
 (k_exit_0)
noncomputable def ztia:LB:=⟨[.d 0 A3,.d 1 A3,.d 5 A0],[(.ret,[.d 4 A22]),((.exit 0),[])]⟩
noncomputable def zXwa:LF X_ref06_SameAll_4:=fun _ K=>zDia (exS ztia 0 K) (exS ztia 1 K)
noncomputable def zlya:Loops:=fun z i R st K=>match z,i with
 |false,4=>lpS ztia X_ref06_SameAll_4.mk zXwa K st
 |_,_=>none
theorem zrGa:LOk zHna zlya inl0 4 Tryz.f74:=lok ztia X_ref06_SameAll_4.mk (fun x=>(x.f0,x.f1,x.f5,())) zXwa 4
theorem zFEa:zsaa zHna zlya inl0 (body Tryz.f74.body):=lsL (.cons zrGa .nil) .nil
noncomputable def zZca (a0 a1:Tj) (K:Bool→Option R):Option R :=
 cond ((a0.length:Int) != (a1.length:Int))
 (K false)
 (loopN (zDia (fun w4 =>
 K w4) (K true)) zpaa ⟨a0,a1,0⟩)
noncomputable def zjza:CSpec:={ ins:=[(.val (.sl 45 (.pair (.int .i64) (.pair (.int .i64) Ty0))) .s),(.val (.sl 45 (.pair (.int .i64) (.pair (.int .i64) Ty0))) .s)],outs:=[(.bool,.s)],fn:=fun d K _=>zZca d.1 d.2.1 (fun r0=>K (r0,()) ()) }
theorem zfOa:Holds Tryz.prog 74 zjza:=hw zHna [(4,none)] zfaa Tryz.func74 zFEa ⟨mixed,envTyOk.ty,envTyOk.eq⟩
noncomputable def zWBa:GE Tryz.prog:=⟨74,[],zjza,zfOa⟩
noncomputable def zHqa:Env:=mE [zyQa,zSOa,zmMa,zWBa] Tryz.f36
structure X_ref06_Closed_2 where (f0:Tj) (f3:Int)
noncomputable def zZka (k_ret:Bool→Option R) (k_exit_0:Tj→Option R) (rec:X_ref06_Closed_2→Option R) (x:X_ref06_Closed_2):Option R :=
 cond (decide (x.f3<(x.f0.length:Int)))
 (cond (inB x.f3 x.f0.length)
 (zIoa (x.f0.getD x.f3.toNat (0,(0,(0,(0,([],())))))) fun r4 =>
 cond (!r4)
 (k_ret false)
 (rec ⟨x.f0,(IntKind.i64.wrap (x.f3+1))⟩)) none)
 (k_exit_0 x.f0)
noncomputable def zUja:LB:=⟨[.d 0 A3,.d 3 A0],[(.ret,[.d 2 A22]),((.exit 0),[.d 0 A3])]⟩
noncomputable def zJza:LF X_ref06_Closed_2:=fun _ K=>zZka (exS zUja 0 K) (exS zUja 1 K)
noncomputable def zDBa:Loops:=fun z i R st K=>match z,i with
 |false,2=>lpS zUja X_ref06_Closed_2.mk zJza K st
 |_,_=>none
theorem zlJa:LOk zHqa zDBa inl0 2 Tryz.f36:=lok zUja X_ref06_Closed_2.mk (fun x=>(x.f0,x.f3,())) zJza 2
theorem zAGa:zsaa zHqa zDBa inl0 (body Tryz.f36.body):=lsL (.cons zlJa .nil) .nil
noncomputable def zMea (a0:Tj) (K:Bool→Option R):Option R :=
 loopN (zZka (fun w1 =>
 K w1) (fun w2 =>
 zAta w2 fun r3 =>
 zXpa r3 fun r4 r5 r6 =>
 cond (r6==0)
 (cond (r5==(r3.length:Int))
 (zZca w2 r4 fun r10 =>
 K r10)
 (K false))
 (K false))) zpaa ⟨a0,0⟩
noncomputable def zdCa:CSpec:={ ins:=[(.val (.sl 45 (.pair (.int .i64) (.pair (.int .i64) Ty0))) .s)],outs:=[(.bool,.s)],fn:=fun d K _=>zMea d.1 (fun r0=>K (r0,()) ()) }
theorem ziQa:Holds Tryz.prog 36 zdCa:=hw zHqa [(2,none)] zfaa Tryz.func36 zAGa ⟨mixed,envTyOk.ty,envTyOk.eq⟩
noncomputable def zzQa:GE Tryz.prog:=⟨36,[],zdCa,ziQa⟩
noncomputable def zIQa:Nat→Bool
 |1=>true
 |_=>false
noncomputable def zOQa:Nat→Bool
 |5=>true
 |7=>true
 |9=>true
 |11=>true
 |13=>true
 |15=>true
 |19=>true
 |21=>true
 |_=>false
noncomputable def zMPa:Nat→Option (List Nat)
 |0=>some [0]
 |1=>some [1]
 |2|7|12|17|22|27|37|42=>some [1,3]
 |3|4|6=>some [1,3,33,34,35]
 |5=>some [1,3,5,33,34,35]
 |8|9|11=>some [1,3,104,105,106]
 |10=>some [1,3,7,104,105,106]
 |13|14|16=>some [1,3,117,118,119]
 |15=>some [1,3,9,117,118,119]
 |18|19|21=>some [1,3,130,131,132]
 |20=>some [1,3,11,130,131,132]
 |23|24|26=>some [1,3,154,155,156]
 |25=>some [1,3,13,154,155,156]
 |28|29|36=>some [1,3,179,180,181]
 |30|31=>some [1,3,15,179,180,181]
 |32|33|35=>some [1,3,179,180,181,207,208,209]
 |34=>some [1,3,17,179,180,181,207,208,209]
 |38|39|41=>some [1,3,225,226,227]
 |40=>some [1,3,19,225,226,227]
 |43|44|51=>some [3,254,255,256]
 |45|46=>some [3,21,254,255,256]
 |47|48|50=>some [3,254,255,256,273,274,275]
 |49=>some [3,23,254,255,256,273,274,275]
 |52=>some [3]
 |_=>none
noncomputable def zBPa:TypeId→Md
 |42=>(.p .s (.p (.o .s) (.p (.o .s) .s)))
 |_ => .s
noncomputable def zyba:Env:={ mE [zNWa,zcFa,zMSa,zzQa] Tryz.f51 with fz:=zIQa,fs:=zOQa,lv:=zMPa,om:=zBPa }
structure X_ref08_plain_3 where (f1:It21) (f3:Bool) (f33:List ((Tb)×It15)) (f34 f35:Int)
noncomputable def ziia (k_exit_0:It21→Bool→Option R) (rec:X_ref08_plain_3→Option R) (x:X_ref08_plain_3):Option R :=
 cond (decide (x.f35<x.f34))
 (cond (inB x.f35 x.f33.length)
 (let v2:=x.f33.getD x.f35.toNat ([],([],(0,(0,((0,(false,(0,()))),(false,()))))))
 cond x.f3
 (zkja (List.set (List.replicate 1 (0:Int)) 0 v2.2.2.2.1) fun r4 =>
 cond r4
 (cond (decide (v2.2.2.1≥0))
 (cond (decide (v2.2.2.1≤3))
 (let k2:Option R:=(cond ((x.f33.getD x.f35.toNat ([],([],(0,(0,((0,(false,(0,()))),(false,()))))))).2.2.1 != 3)
 (rec ⟨x.f1,true,x.f33,x.f34,(IntKind.i64.wrap (x.f35+1))⟩)
 (cond (v2.2.2.2.1==127)
 (rec ⟨x.f1,true,x.f33,x.f34,(IntKind.i64.wrap (x.f35+1))⟩)
 (rec ⟨x.f1,(v2.2.2.2.1==126),x.f33,x.f34,(IntKind.i64.wrap (x.f35+1))⟩)))
 let k1:Option R:=(cond ((x.f33.getD x.f35.toNat ([],([],(0,(0,((0,(false,(0,()))),(false,()))))))).2.2.1 != 0)
 (zIda v2.2.2.2.2.1 fun r17 =>
 cond r17
 (k2)
 (rec ⟨x.f1,false,x.f33,x.f34,(IntKind.i64.wrap (x.f35+1))⟩))
 (rec ⟨x.f1,false,x.f33,x.f34,(IntKind.i64.wrap (x.f35+1))⟩))
 cond (v2.2.2.1 != 1)
 (cond (v2.2.2.1 != 2)
 (cond ((v2.2.2.2.2.1.1==0)&&((v2.2.2.2.2.1.2.1==false)&&((v2.2.2.2.2.1.2.2.1==0)&&true)))
 (k2)
 (k1))
 (k1))
 (k1))
 (rec ⟨x.f1,false,x.f33,x.f34,(IntKind.i64.wrap (x.f35+1))⟩))
 (rec ⟨x.f1,false,x.f33,x.f34,(IntKind.i64.wrap (x.f35+1))⟩))
 (rec ⟨x.f1,false,x.f33,x.f34,(IntKind.i64.wrap (x.f35+1))⟩))
 (rec ⟨x.f1,false,x.f33,x.f34,(IntKind.i64.wrap (x.f35+1))⟩)) none)
 (k_exit_0 x.f1 x.f3)
noncomputable def zCsa:LB:=⟨[.d 1 B8,.d 3 A22,.d 33 A7,.d 34 A0,.d 35 A0],[((.exit 0),[.d 1 B8,.d 3 A22])]⟩
noncomputable def zpCa:LF X_ref08_plain_3:=fun _ K=>ziia (exS zCsa 0 K)
structure X_ref08_plain_8 where (f1:It21) (f3:Bool) (f104:List Tm) (f105 f106:Int)
noncomputable def zhia (k_exit_2:It21→Bool→Option R) (rec:X_ref08_plain_8→Option R) (x:X_ref08_plain_8):Option R :=
 cond (decide (x.f106<x.f105))
 (cond (inB x.f106 x.f104.length)
 (cond x.f3
 (zIda (x.f104.getD x.f106.toNat (0,(false,(0,())))) fun r3 =>
 rec ⟨x.f1,r3,x.f104,x.f105,(IntKind.i64.wrap (x.f106+1))⟩)
 (rec ⟨x.f1,false,x.f104,x.f105,(IntKind.i64.wrap (x.f106+1))⟩)) none)
 (k_exit_2 x.f1 x.f3)
noncomputable def zBsa:LB:=⟨[.d 1 B8,.d 3 A22,.d 104 A23,.d 105 A0,.d 106 A0],[((.exit 2),[.d 1 B8,.d 3 A22])]⟩
noncomputable def zoCa:LF X_ref08_plain_8:=fun _ K=>zhia (exS zBsa 0 K)
structure X_ref08_plain_13 where (f1:It21) (f3:Bool) (f117:List Tq) (f118 f119:Int)
noncomputable def zmha (k_exit_4:It21→Bool→Option R) (rec:X_ref08_plain_13→Option R) (x:X_ref08_plain_13):Option R :=
 cond (decide (x.f119<x.f118))
 (cond (inB x.f119 x.f117.length)
 (cond x.f3
 (zNra (x.f117.getD x.f119.toNat ([],([],()))) fun r3 =>
 rec ⟨x.f1,r3,x.f117,x.f118,(IntKind.i64.wrap (x.f119+1))⟩)
 (rec ⟨x.f1,false,x.f117,x.f118,(IntKind.i64.wrap (x.f119+1))⟩)) none)
 (k_exit_4 x.f1 x.f3)
noncomputable def zFpa:LB:=⟨[.d 1 B8,.d 3 A22,.d 117 A6,.d 118 A0,.d 119 A0],[((.exit 4),[.d 1 B8,.d 3 A22])]⟩
noncomputable def zxza:LF X_ref08_plain_13:=fun _ K=>zmha (exS zFpa 0 K)
structure X_ref08_plain_18 where (f1:It21) (f3:Bool) (f130:List ((Int)×It16)) (f131 f132:Int)
noncomputable def zlha (k_exit_6:It21→Bool→Option R) (rec:X_ref08_plain_18→Option R) (x:X_ref08_plain_18):Option R :=
 cond (decide (x.f132<x.f131))
 (cond (inB x.f132 x.f130.length)
 (let v2:=x.f130.getD x.f132.toNat (0,(false,([],())))
 cond x.f3
 (let k1:Option R:=(zMea v2.2.2.1 fun r4 =>
 rec ⟨x.f1,r4,x.f130,x.f131,(IntKind.i64.wrap (x.f132+1))⟩)
 cond (v2.1==127)
 (k1)
 (cond (v2.1==126)
 (k1)
 (rec ⟨x.f1,false,x.f130,x.f131,(IntKind.i64.wrap (x.f132+1))⟩)))
 (rec ⟨x.f1,false,x.f130,x.f131,(IntKind.i64.wrap (x.f132+1))⟩)) none)
 (k_exit_6 x.f1 x.f3)
noncomputable def zEpa:LB:=⟨[.d 1 B8,.d 3 A22,.d 130 A9,.d 131 A0,.d 132 A0],[((.exit 6),[.d 1 B8,.d 3 A22])]⟩
noncomputable def zwza:LF X_ref08_plain_18:=fun _ K=>zlha (exS zEpa 0 K)
structure X_ref08_plain_23 where (f1:It21) (f3:Bool) (f154:List Tx) (f155 f156:Int)
noncomputable def zkha (k_exit_8:It21→Bool→Option R) (rec:X_ref08_plain_23→Option R) (x:X_ref08_plain_23):Option R :=
 cond (decide (x.f156<x.f155))
 (cond (inB x.f156 x.f154.length)
 (let v2:=x.f154.getD x.f156.toNat ([],(0,(0,())))
 cond x.f3
 (zkja (List.set (List.replicate 1 (0:Int)) 0 v2.2.2.1) fun r4 =>
 cond r4
 (cond (decide (v2.2.1≥0))
 (rec ⟨x.f1,(decide (v2.2.1≤3)),x.f154,x.f155,(IntKind.i64.wrap (x.f156+1))⟩)
 (rec ⟨x.f1,false,x.f154,x.f155,(IntKind.i64.wrap (x.f156+1))⟩))
 (rec ⟨x.f1,false,x.f154,x.f155,(IntKind.i64.wrap (x.f156+1))⟩))
 (rec ⟨x.f1,false,x.f154,x.f155,(IntKind.i64.wrap (x.f156+1))⟩)) none)
 (k_exit_8 x.f1 x.f3)
noncomputable def zDpa:LB:=⟨[.d 1 B8,.d 3 A22,.d 154 A10,.d 155 A0,.d 156 A0],[((.exit 8),[.d 1 B8,.d 3 A22])]⟩
noncomputable def zvza:LF X_ref08_plain_23:=fun _ K=>zkha (exS zDpa 0 K)
structure X_ref08_plain_32 where (f1:It21) (f3:Bool) (f179:List ((Int)×It17)) (f180 f181:Int) (f207:Tl) (f208 f209:Int)
noncomputable def zzea (k_exit_12:It21→Bool→(List ((Int)×It17))→Int→Int→Option R) (rec:X_ref08_plain_32→Option R) (x:X_ref08_plain_32):Option R :=
 cond (decide (x.f209<x.f208))
 (cond (inB x.f209 x.f207.length)
 (let v2:=x.f207.getD x.f209.toNat 0
 cond x.f3
 (cond (decide (v2≥(-1)))
 (rec ⟨x.f1,(decide (v2≤4294967295)),x.f179,x.f180,x.f181,x.f207,x.f208,(IntKind.i64.wrap (x.f209+1))⟩)
 (rec ⟨x.f1,false,x.f179,x.f180,x.f181,x.f207,x.f208,(IntKind.i64.wrap (x.f209+1))⟩))
 (rec ⟨x.f1,false,x.f179,x.f180,x.f181,x.f207,x.f208,(IntKind.i64.wrap (x.f209+1))⟩)) none)
 (k_exit_12 x.f1 x.f3 x.f179 x.f180 x.f181)
noncomputable def zBpa:LB:=⟨[.d 1 B8,.d 3 A22,.d 179 A11,.d 180 A0,.d 181 A0,.d 207 A2,.d 208 A0,.d 209 A0],[((.exit 12),[.d 1 B8,.d 3 A22,.d 179 A11,.d 180 A0,.d 181 A0])]⟩
noncomputable def ztza:LF X_ref08_plain_32:=fun _ K=>zzea (exS zBpa 0 K)
structure X_ref08_plain_28 where (f1:It21) (f3:Bool) (f179:List ((Int)×It17)) (f180 f181:Int)
noncomputable def zjha (k_exit_10:It21→Bool→Option R) (rec:X_ref08_plain_28→Option R) (x:X_ref08_plain_28):Option R :=
 cond (decide (x.f181<x.f180))
 (cond (inB x.f181 x.f179.length)
 (let v2:=x.f179.getD x.f181.toNat (0,([],([],())))
 let k1:Option R:=(loopN (zzea (fun w22 w23 w24 w25 w26 =>
 rec ⟨w22,w23,w24,w25,(IntKind.i64.wrap (w26+1))⟩)) zpaa ⟨x.f1,false,x.f179,x.f180,x.f181,v2.2.2.1,((List.length (x.f179.getD x.f181.toNat (0,([],([],())))).2.2.1:Nat):Int),0⟩)
 cond x.f3
 (cond (decide (v2.1≥0))
 (cond (decide (v2.1≤2))
 (cond (v2.1 != 0)
 (loopN (zzea (fun w7 w8 w9 w10 w11 =>
 rec ⟨w7,w8,w9,w10,(IntKind.i64.wrap (w11+1))⟩)) zpaa ⟨x.f1,true,x.f179,x.f180,x.f181,v2.2.2.1,(v2.2.2.1.length:Int),0⟩)
 (zMea v2.2.1 fun r13 =>
 loopN (zzea (fun w15 w16 w17 w18 w19 =>
 rec ⟨w15,w16,w17,w18,(IntKind.i64.wrap (w19+1))⟩)) zpaa ⟨x.f1,r13,x.f179,x.f180,x.f181,v2.2.2.1,(v2.2.2.1.length:Int),0⟩))
 (k1))
 (k1))
 (k1)) none)
 (k_exit_10 x.f1 x.f3)
noncomputable def zCpa:LB:=⟨[.d 1 B8,.d 3 A22,.d 179 A11,.d 180 A0,.d 181 A0],[((.exit 10),[.d 1 B8,.d 3 A22])]⟩
noncomputable def zuza:LF X_ref08_plain_28:=fun _ K=>zjha (exS zCpa 0 K)
structure X_ref08_plain_38 where (f1:It21) (f3:Bool) (f225:List ((Int)×It17)) (f226 f227:Int)
noncomputable def ziha (k_exit_14:It21→Bool→Option R) (rec:X_ref08_plain_38→Option R) (x:X_ref08_plain_38):Option R :=
 cond (decide (x.f227<x.f226))
 (cond (inB x.f227 x.f225.length)
 (let v2:=x.f225.getD x.f227.toNat (0,([],([],())))
 cond x.f3
 (cond (decide (v2.1≥0))
 (cond (decide (v2.1≤1))
 (cond (v2.1 != 0)
 (rec ⟨x.f1,true,x.f225,x.f226,(IntKind.i64.wrap (x.f227+1))⟩)
 (zMea v2.2.1 fun r7 =>
 rec ⟨x.f1,r7,x.f225,x.f226,(IntKind.i64.wrap (x.f227+1))⟩))
 (rec ⟨x.f1,false,x.f225,x.f226,(IntKind.i64.wrap (x.f227+1))⟩))
 (rec ⟨x.f1,false,x.f225,x.f226,(IntKind.i64.wrap (x.f227+1))⟩))
 (rec ⟨x.f1,false,x.f225,x.f226,(IntKind.i64.wrap (x.f227+1))⟩)) none)
 (k_exit_14 x.f1 x.f3)
noncomputable def zApa:LB:=⟨[.d 1 B8,.d 3 A22,.d 225 A12,.d 226 A0,.d 227 A0],[((.exit 14),[.d 1 B8,.d 3 A22])]⟩
noncomputable def zsza:LF X_ref08_plain_38:=fun _ K=>ziha (exS zApa 0 K)
structure X_ref08_plain_47 where (f3:Bool) (f254:List ((Int)×It13)) (f255 f256:Int) (f273:Tl) (f274 f275:Int)
noncomputable def zgha (k_exit_18:Bool→(List ((Int)×It13))→Int→Int→Option R) (rec:X_ref08_plain_47→Option R) (x:X_ref08_plain_47):Option R :=
 cond (decide (x.f275<x.f274))
 (cond (inB x.f275 x.f273.length)
 (let v2:=x.f273.getD x.f275.toNat 0
 cond x.f3
 (cond (v2==127)
 (rec ⟨true,x.f254,x.f255,x.f256,x.f273,x.f274,(IntKind.i64.wrap (x.f275+1))⟩)
 (rec ⟨(v2==126),x.f254,x.f255,x.f256,x.f273,x.f274,(IntKind.i64.wrap (x.f275+1))⟩))
 (rec ⟨false,x.f254,x.f255,x.f256,x.f273,x.f274,(IntKind.i64.wrap (x.f275+1))⟩)) none)
 (k_exit_18 x.f3 x.f254 x.f255 x.f256)
noncomputable def zypa:LB:=⟨[.d 3 A22,.d 254 A8,.d 255 A0,.d 256 A0,.d 273 A2,.d 274 A0,.d 275 A0],[((.exit 18),[.d 3 A22,.d 254 A8,.d 255 A0,.d 256 A0])]⟩
noncomputable def zqza:LF X_ref08_plain_47:=fun _ K=>zgha (exS zypa 0 K)
structure X_ref08_plain_43 where (f3:Bool) (f254:List ((Int)×It13)) (f255 f256:Int)
noncomputable def zhha (k_exit_16:Bool→Option R) (rec:X_ref08_plain_43→Option R) (x:X_ref08_plain_43):Option R :=
 cond (decide (x.f256<x.f255))
 (cond (inB x.f256 x.f254.length)
 (let v2:=x.f254.getD x.f256.toNat (0,([],([],())))
 let k1:Option R:=(loopN (zgha (fun w13 w14 w15 w16 =>
 rec ⟨w13,w14,w15,(IntKind.i64.wrap (w16+1))⟩)) zpaa ⟨false,x.f254,x.f255,x.f256,v2.2.1,((List.length (x.f254.getD x.f256.toNat (0,([],([],())))).2.1:Nat):Int),0⟩)
 cond x.f3
 (zkja (List.set (List.replicate 1 (0:Int)) 0 v2.1) fun r4 =>
 cond r4
 (zMea v2.2.2.1 fun r5 =>
 loopN (zgha (fun w7 w8 w9 w10 =>
 rec ⟨w7,w8,w9,(IntKind.i64.wrap (w10+1))⟩)) zpaa ⟨r5,x.f254,x.f255,x.f256,v2.2.1,(v2.2.1.length:Int),0⟩)
 (k1))
 (k1)) none)
 (k_exit_16 x.f3)
noncomputable def zzpa:LB:=⟨[.d 3 A22,.d 254 A8,.d 255 A0,.d 256 A0],[((.exit 16),[.d 3 A22])]⟩
noncomputable def zrza:LF X_ref08_plain_43:=fun _ K=>zhha (exS zzpa 0 K)
noncomputable def zaca:Loops:=fun z i R st K=>match z,i with
 |false,3=>lpS zCsa X_ref08_plain_3.mk zpCa K st
 |false,8=>lpS zBsa X_ref08_plain_8.mk zoCa K st
 |false,13=>lpS zFpa X_ref08_plain_13.mk zxza K st
 |false,18=>lpS zEpa X_ref08_plain_18.mk zwza K st
 |false,23=>lpS zDpa X_ref08_plain_23.mk zvza K st
 |false,32=>lpS zBpa X_ref08_plain_32.mk ztza K st
 |false,28=>lpS zCpa X_ref08_plain_28.mk zuza K st
 |false,38=>lpS zApa X_ref08_plain_38.mk zsza K st
 |false,47=>lpS zypa X_ref08_plain_47.mk zqza K st
 |false,43=>lpS zzpa X_ref08_plain_43.mk zrza K st
 |_,_=>none
theorem zTKa:LOk zyba zaca inl0 3 Tryz.f51:=lok zCsa X_ref08_plain_3.mk (fun x=>(x.f1,x.f3,x.f33,x.f34,x.f35,())) zpCa 3
theorem zSKa:LOk zyba zaca inl0 8 Tryz.f51:=lok zBsa X_ref08_plain_8.mk (fun x=>(x.f1,x.f3,x.f104,x.f105,x.f106,())) zoCa 8
theorem zZIa:LOk zyba zaca inl0 13 Tryz.f51:=lok zFpa X_ref08_plain_13.mk (fun x=>(x.f1,x.f3,x.f117,x.f118,x.f119,())) zxza 13
theorem zYIa:LOk zyba zaca inl0 18 Tryz.f51:=lok zEpa X_ref08_plain_18.mk (fun x=>(x.f1,x.f3,x.f130,x.f131,x.f132,())) zwza 18
theorem zXIa:LOk zyba zaca inl0 23 Tryz.f51:=lok zDpa X_ref08_plain_23.mk (fun x=>(x.f1,x.f3,x.f154,x.f155,x.f156,())) zvza 23
theorem zVIa:LOk zyba zaca inl0 32 Tryz.f51:=lok zBpa X_ref08_plain_32.mk (fun x=>(x.f1,x.f3,x.f179,x.f180,x.f181,x.f207,x.f208,x.f209,())) ztza 32
theorem zWIa:LOk zyba zaca inl0 28 Tryz.f51:=lok zCpa X_ref08_plain_28.mk (fun x=>(x.f1,x.f3,x.f179,x.f180,x.f181,())) zuza 28
theorem zUIa:LOk zyba zaca inl0 38 Tryz.f51:=lok zApa X_ref08_plain_38.mk (fun x=>(x.f1,x.f3,x.f225,x.f226,x.f227,())) zsza 38
theorem zSIa:LOk zyba zaca inl0 47 Tryz.f51:=lok zypa X_ref08_plain_47.mk (fun x=>(x.f3,x.f254,x.f255,x.f256,x.f273,x.f274,x.f275,())) zqza 47
theorem zTIa:LOk zyba zaca inl0 43 Tryz.f51:=lok zzpa X_ref08_plain_43.mk (fun x=>(x.f3,x.f254,x.f255,x.f256,())) zrza 43
theorem ztJa:zsaa zyba zaca inl0 (body Tryz.f51.body):=lsL (.cons zTKa (.cons zSKa (.cons zZIa (.cons zYIa (.cons zXIa (.cons zWIa (.cons zVIa (.cons zUIa (.cons zTIa (.cons zSIa .nil)))))))))) .nil
noncomputable def zJra (a0:It21) (K:Bool→Option R):Option R :=
 zkja a0.2.2.2.2.2.2.2.1 fun r1 =>
 cond r1
 (zkja a0.2.2.2.2.2.2.2.2.2.1 fun r2 =>
 loopN (ziia (fun w4 w5 =>
 let v6:=List.replicate 0 ((0:Int),(false,((0:Int),())))
 cond (decide (v6.length+w4.2.2.2.1.length≤most))
 (let v7:=v6++w4.2.2.2.1
 cond (decide (v7.length+w4.2.2.2.2.1.length≤most))
 (let v8:=v7++w4.2.2.2.2.1
 loopN (zhia (fun w10 w11 =>
 loopN (zmha (fun w13 w14 =>
 loopN (zlha (fun w16 w17 =>
 loopN (zkha (fun w19 w20 =>
 loopN (zjha (fun w22 w23 =>
 loopN (ziha (fun w25 w26 =>
 loopN (zhha (fun w28 =>
 K w28)) zpaa ⟨w26,w25.2.2.1,(w25.2.2.1.length:Int),0⟩)) zpaa ⟨w22,w23,w22.2.2.2.2.2.2.2.2.2.2.1,(w22.2.2.2.2.2.2.2.2.2.2.1.length:Int),0⟩)) zpaa ⟨w19,w20,w19.2.2.2.2.2.2.2.2.1,(w19.2.2.2.2.2.2.2.2.1.length:Int),0⟩)) zpaa ⟨w16,w17,w16.2.2.2.2.2.2.1,(w16.2.2.2.2.2.2.1.length:Int),0⟩)) zpaa ⟨w13,w14,w13.2.2.2.2.2.1,(w13.2.2.2.2.2.1.length:Int),0⟩)) zpaa ⟨w10,w11,w10.1,(w10.1.length:Int),0⟩)) zpaa ⟨w4,w5,v8,(v8.length:Int),0⟩) none) none)) zpaa ⟨a0,r2,a0.2.1,(a0.2.1.length:Int),0⟩)
 (loopN (ziia (fun w30 w31 =>
 let v32:=List.replicate 0 ((0:Int),(false,((0:Int),())))
 cond (decide (v32.length+w30.2.2.2.1.length≤most))
 (let v33:=v32++w30.2.2.2.1
 cond (decide (v33.length+w30.2.2.2.2.1.length≤most))
 (let v34:=v33++w30.2.2.2.2.1
 loopN (zhia (fun w36 w37 =>
 loopN (zmha (fun w39 w40 =>
 loopN (zlha (fun w42 w43 =>
 loopN (zkha (fun w45 w46 =>
 loopN (zjha (fun w48 w49 =>
 loopN (ziha (fun w51 w52 =>
 loopN (zhha (fun w54 =>
 K w54)) zpaa ⟨w52,w51.2.2.1,(w51.2.2.1.length:Int),0⟩)) zpaa ⟨w48,w49,w48.2.2.2.2.2.2.2.2.2.2.1,(w48.2.2.2.2.2.2.2.2.2.2.1.length:Int),0⟩)) zpaa ⟨w45,w46,w45.2.2.2.2.2.2.2.2.1,(w45.2.2.2.2.2.2.2.2.1.length:Int),0⟩)) zpaa ⟨w42,w43,w42.2.2.2.2.2.2.1,(w42.2.2.2.2.2.2.1.length:Int),0⟩)) zpaa ⟨w39,w40,w39.2.2.2.2.2.1,(w39.2.2.2.2.2.1.length:Int),0⟩)) zpaa ⟨w36,w37,w36.1,(w36.1.length:Int),0⟩)) zpaa ⟨w30,w31,v34,(v34.length:Int),0⟩) none) none)) zpaa ⟨a0,false,a0.2.1,(a0.2.1.length:Int),0⟩)
noncomputable def zhFa:CSpec:={ ins:=[(.val Ty32 .s)],outs:=[(.bool,.s)],fn:=fun d K _=>zJra d.1 (fun r0=>K (r0,()) ()) }
theorem zpSa:Holds Tryz.prog 51 zhFa:=hw zyba [(2,none)] zfaa Tryz.func51 ztJa ⟨mixed,envTyOk.ty,envTyOk.eq⟩
noncomputable def zHSa:GE Tryz.prog:=⟨51,[],zhFa,zpSa⟩
noncomputable def zhUa:TypeId→Md
 |42=>(.p .s (.p (.o .s) (.p (.o .s) .s)))
 |_ => .s
noncomputable def zjTa:Env:={ mE [zEqa] Tryz.f139 with om:=zhUa }
noncomputable def zCba (a0:Tl) (a1:Int) (K:Tl→Option R):Option R :=
 zYba (IntKind.u64.wrap a1) fun r2 =>
 cond (decide (a0.length+r2.length≤most))
 (K (a0++r2)) none
noncomputable def zKMa:CSpec:={ ins:=[(.val (.sl 5 (.int .u8)) (.o .s)),(.val (.int .i64) .s)],outs:=[((.sl 5 (.int .u8)),(.o .s))],fn:=fun d K _=>zCba d.1 d.2.1 (fun r0=>K (r0,()) ()) }
theorem zzWa:Holds Tryz.prog 139 zKMa:=hw zjTa [(4,none)] (lp:=lp0) (code:=body Tryz.f139.body) zfaa Tryz.func139 l0 ⟨mixed,envTyOk.ty,envTyOk.eq⟩
noncomputable def zUGa:GE Tryz.prog:=⟨139,[],zKMa,zzWa⟩
noncomputable def zcHa:Nat→Bool
 |1=>true
 |_=>false
noncomputable def zmga:Env:={ E0 with n:=Tryz.f140.ntmps,fz:=zcHa }
structure X_ref05_FuncBytes_7 where (f3 f5:Tl) (f6:Int) (f12:List Tl) (f13 f14:Int)
noncomputable def zyga (k_exit_2:Tl→(List Tl)→Int→Int→Option R) (rec:X_ref05_FuncBytes_7→Option R) (x:X_ref05_FuncBytes_7):Option R :=
 cond (decide (x.f6<(x.f5.length:Int)))
 (cond (inB x.f6 x.f5.length)
 (let v5:=List.set (List.replicate 1 (0:Int)) 0 (IntKind.u8.wrap (x.f5.getD x.f6.toNat 0))
 cond (decide (x.f3.length+v5.length≤most))
 (rec ⟨(x.f3++v5),x.f5,(IntKind.i64.wrap (x.f6+1)),x.f12,x.f13,x.f14⟩) none) none)
 (k_exit_2 x.f3 x.f12 x.f13 x.f14)
noncomputable def zVja:LB:=⟨[.d 3 A1,.d 5 A2,.d 6 A0,.d 12 A14,.d 13 A0,.d 14 A0],[((.exit 2),[.d 3 A1,.d 12 A14,.d 13 A0,.d 14 A0])]⟩
noncomputable def zksa:LF X_ref05_FuncBytes_7:=fun _ K=>zyga (exS zVja 0 K)
structure X_ref05_FuncBytes_3 where (f3:Tl) (f12:List Tl) (f13 f14:Int)
noncomputable def zzga (k_exit_0:Tl→Option R) (rec:X_ref05_FuncBytes_3→Option R) (x:X_ref05_FuncBytes_3):Option R :=
 cond (decide (x.f14<x.f13))
 (cond (inB x.f14 x.f12.length)
 (let v2:=(x.f12.getD x.f14.toNat [])
 let v5:=List.set (List.replicate 1 (0:Int)) 0 (IntKind.u8.wrap (v2.length:Int))
 cond (decide (x.f3.length+v5.length≤most))
 (loopN (zyga (fun w7 w8 w9 w10 =>
 rec ⟨w7,w8,w9,(IntKind.i64.wrap (w10+1))⟩)) zpaa ⟨(x.f3++v5),v2,0,x.f12,x.f13,x.f14⟩) none) none)
 (k_exit_0 x.f3)
noncomputable def zWja:LB:=⟨[.d 3 A1,.d 12 A14,.d 13 A0,.d 14 A0],[((.exit 0),[.d 3 A1])]⟩
noncomputable def zlsa:LF X_ref05_FuncBytes_3:=fun _ K=>zzga (exS zWja 0 K)
noncomputable def zPla:Loops:=fun z i R st K=>match z,i with
 |false,7=>lpS zVja X_ref05_FuncBytes_7.mk zksa K st
 |false,3=>lpS zWja X_ref05_FuncBytes_3.mk zlsa K st
 |_,_=>none
theorem zoDa:LOk zmga zPla inl0 7 Tryz.f140:=lok zVja X_ref05_FuncBytes_7.mk (fun x=>(x.f3,x.f5,x.f6,x.f12,x.f13,x.f14,())) zksa 7
theorem zpDa:LOk zmga zPla inl0 3 Tryz.f140:=lok zWja X_ref05_FuncBytes_3.mk (fun x=>(x.f3,x.f12,x.f13,x.f14,())) zlsa 3
theorem zIAa:zsaa zmga zPla inl0 (body Tryz.f140.body):=lsL (.cons zpDa (.cons zoDa .nil)) .nil
noncomputable def zxia (a0:Tq) (K:Tl→Option R):Option R :=
 let v2:=List.set (List.set (List.replicate 2 ([]:List (Int))) 0 a0.1) 1 a0.2.1
 loopN (zzga (fun w4 =>
 K w4)) zpaa ⟨(List.set (List.replicate 1 (0:Int)) 0 96),v2,(v2.length:Int),0⟩
noncomputable def zjua:CSpec:={ ins:=[(.val (.pair (.sl 3 (.int .i64)) (.pair (.sl 3 (.int .i64)) .unit)) .s)],outs:=[((.sl 5 (.int .u8)),(.o .s))],fn:=fun d K _=>zxia d.1 (fun r0=>K (r0,()) ()) }
theorem zJJa:Holds Tryz.prog 140 zjua:=hw zmga [(2,none)] zfaa Tryz.func140 zIAa ⟨mixed,envTyOk.ty,envTyOk.eq⟩
noncomputable def zTJa:GE Tryz.prog:=⟨140,[],zjua,zJJa⟩
noncomputable def zzOa:Env:=mE [zEqa] Tryz.f146
noncomputable def zRra (a0:Tb) (K:Tl→Option R):Option R :=
 zYba (IntKind.u64.wrap (a0.length:Int)) fun r3 =>
 cond (decide (r3.length+List.length (nums a0)≤most))
 (K (r3++(nums a0))) none
noncomputable def ztFa:CSpec:={ ins:=[(.val .str .s)],outs:=[((.sl 5 (.int .u8)),(.o .s))],fn:=fun d K _=>zRra d.1 (fun r0=>K (r0,()) ()) }
theorem zBSa:Holds Tryz.prog 146 ztFa:=hw zzOa [(2,none)] (lp:=lp0) (code:=body Tryz.f146.body) zfaa Tryz.func146 l0 ⟨mixed,envTyOk.ty,envTyOk.eq⟩
noncomputable def zRSa:GE Tryz.prog:=⟨146,[],ztFa,zBSa⟩
noncomputable def zSRa:TypeId→Md
 |42=>(.p .s (.p (.o .s) (.p (.o .s) .s)))
 |_ => .s
noncomputable def zUQa:Env:={ mE [zRSa] Tryz.f93 with om:=zSRa }
noncomputable def zKea (a0:Tl) (a1:Tb) (K:Tl→Option R):Option R :=
 zRra a1 fun r1 =>
 cond (decide (a0.length+r1.length≤most))
 (K (a0++r1)) none
noncomputable def zMHa:CSpec:={ ins:=[(.val (.sl 5 (.int .u8)) (.o .s)),(.val .str .s)],outs:=[((.sl 5 (.int .u8)),(.o .s))],fn:=fun d K _=>zKea d.1 d.2.1 (fun r0=>K (r0,()) ()) }
theorem zyUa:Holds Tryz.prog 93 zMHa:=hw zUQa [(4,none)] (lp:=lp0) (code:=body Tryz.f93.body) zfaa Tryz.func93 l0 ⟨mixed,envTyOk.ty,envTyOk.eq⟩
noncomputable def zhMa:GE Tryz.prog:=⟨93,[],zMHa,zyUa⟩
noncomputable def zPDa:Nat→Bool
 |1=>true
 |_=>false
noncomputable def zvBa:Env:={ mE [zEqa] Tryz.f171 with fz:=zPDa }
noncomputable def zdga (a0:Tm) (K:Tl→Option R):Option R :=
 cond a0.2.1
 (let k1:Option R:=(zYba (IntKind.u64.wrap a0.1) fun r4 =>
 cond (decide (List.length (List.set (List.replicate 1 (0:Int)) 0 1)+r4.length≤most))
 (let v5:=(List.set (List.replicate 1 (0:Int)) 0 1)++r4
 zYba (IntKind.u64.wrap a0.2.2.1) fun r6 =>
 cond (decide (v5.length+r6.length≤most))
 (K (v5++r6)) none) none)
 both
 (k1)
 (k1))
 (let v13:=List.set (List.replicate 1 (0:Int)) 0 0
 zYba (IntKind.u64.wrap a0.1) fun r15 =>
 cond (decide (v13.length+r15.length≤most))
 (K (v13++r15)) none)
noncomputable def zWqa:CSpec:={ ins:=[(.val (.pair (.int .i64) (.pair .bool (.pair (.int .i64) .unit))) .s)],outs:=[((.sl 5 (.int .u8)),(.o .s))],fn:=fun d K _=>zdga d.1 (fun r0=>K (r0,()) ()) }
theorem zWEa:Holds Tryz.prog 171 zWqa:=hw zvBa [(2,none)] (lp:=lp0) (code:=body Tryz.f171.body) zfaa Tryz.func171 l0 ⟨mixed,envTyOk.ty,envTyOk.eq⟩
noncomputable def zdFa:GE Tryz.prog:=⟨171,[],zWqa,zWEa⟩
noncomputable def zlOa:Nat→Bool
 |3=>true
 |_=>false
noncomputable def zwNa:TypeId→Md
 |42=>(.p .s (.p (.o .s) (.p (.o .s) .s)))
 |_ => .s
noncomputable def zzMa:Env:={ mE [zdFa] Tryz.f141 with fz:=zlOa,om:=zwNa }
noncomputable def zLea (a0:Tl) (a1:Tm) (K:Tl→Option R):Option R :=
 zdga a1 fun r1 =>
 cond (decide (a0.length+r1.length≤most))
 (K (a0++r1)) none
noncomputable def zYBa:CSpec:={ ins:=[(.val (.sl 5 (.int .u8)) (.o .s)),(.val (.pair (.int .i64) (.pair .bool (.pair (.int .i64) .unit))) .s)],outs:=[((.sl 5 (.int .u8)),(.o .s))],fn:=fun d K _=>zLea d.1 d.2.1 (fun r0=>K (r0,()) ()) }
theorem zdQa:Holds Tryz.prog 141 zYBa:=hw zzMa [(4,none)] (lp:=lp0) (code:=body Tryz.f141.body) zfaa Tryz.func141 l0 ⟨mixed,envTyOk.ty,envTyOk.eq⟩
noncomputable def zuQa:GE Tryz.prog:=⟨141,[],zYBa,zdQa⟩
noncomputable def zURa:TypeId→Md
 |42=>(.p .s (.p (.o .s) (.p (.o .s) .s)))
 |_ => .s
noncomputable def zWQa:Env:={ E0 with n:=Tryz.f142.ntmps,om:=zURa }
noncomputable def zVpa (a0:Tl) (a1:Bool) (K:Tl→Option R):Option R :=
 cond a1
 (let v1:=List.set (List.replicate 1 (0:Int)) 0 1
 cond (decide (a0.length+v1.length≤most))
 (K (a0++v1)) none)
 (let v3:=List.set (List.replicate 1 (0:Int)) 0 0
 cond (decide (a0.length+v3.length≤most))
 (K (a0++v3)) none)
noncomputable def zOHa:CSpec:={ ins:=[(.val (.sl 5 (.int .u8)) (.o .s)),(.val .bool .s)],outs:=[((.sl 5 (.int .u8)),(.o .s))],fn:=fun d K _=>zVpa d.1 d.2.1 (fun r0=>K (r0,()) ()) }
theorem zAUa:Holds Tryz.prog 142 zOHa:=hw zWQa [(4,none)] (lp:=lp0) (code:=body Tryz.f142.body) zfaa Tryz.func142 l0 ⟨mixed,envTyOk.ty,envTyOk.eq⟩
noncomputable def zcVa:GE Tryz.prog:=⟨142,[],zOHa,zAUa⟩
noncomputable def zVRa:TypeId→Md
 |42=>(.p .s (.p (.o .s) (.p (.o .s) .s)))
 |_ => .s
noncomputable def zXQa:Env:={ mE [zSOa] Tryz.f143 with om:=zVRa }
noncomputable def zSia (a0:Tl) (a1:Tj) (K:Tl→Option R):Option R :=
 zAta a1 fun r1 =>
 cond (decide (a0.length+r1.length≤most))
 (K (a0++r1)) none
noncomputable def zPHa:CSpec:={ ins:=[(.val (.sl 5 (.int .u8)) (.o .s)),(.val (.sl 45 (.pair (.int .i64) (.pair (.int .i64) Ty0))) .s)],outs:=[((.sl 5 (.int .u8)),(.o .s))],fn:=fun d K _=>zSia d.1 d.2.1 (fun r0=>K (r0,()) ()) }
theorem zBUa:Holds Tryz.prog 143 zPHa:=hw zXQa [(4,none)] (lp:=lp0) (code:=body Tryz.f143.body) zfaa Tryz.func143 l0 ⟨mixed,envTyOk.ty,envTyOk.eq⟩
noncomputable def zJDa:GE Tryz.prog:=⟨143,[],zPHa,zBUa⟩
noncomputable def zaHa:Nat→Bool
 |3=>true
 |_=>false
noncomputable def zHGa:Nat→Bool
 |4=>true
 |9=>true
 |11=>true
 |14=>true
 |16=>true
 |18=>true
 |21=>true
 |_=>false
noncomputable def ztGa:Nat→Option (List Nat)
 |0=>some [0,1]
 |1=>some [0,3]
 |2|6|8|12|13|14|15|16|17|18|19=>some [0,3,5]
 |3|4|5=>some [0,3,5,6]
 |7|9|10|11=>some [0,3,5,7]
 |20|21|22|23|24|25|26=>some [0,3,5,8]
 |27=>some [0]
 |_=>none
noncomputable def zoGa:TypeId→Md
 |42=>(.p .s (.p (.o .s) (.p (.o .s) .s)))
 |_ => .s
noncomputable def zQaa:Env:={ mE [zUGa,zJDa] Tryz.f144 with fz:=zaHa,js:=zHGa,lv:=ztGa,om:=zoGa }
structure Y_ref08_elemBytes_4 where (f0:Tl) (f3:(Int)×It17) (f5:Bool) (f6:Int)
noncomputable def zEka (k_normal:Tl→((Int)×It17)→Bool→Int→Option R) (x:Y_ref08_elemBytes_4):Option R :=
 cond x.f5
 (k_normal x.f0 x.f3 true x.f6)
 (cond (inB x.f6 x.f3.2.2.1.length)
 (k_normal x.f0 x.f3 ((x.f3.2.2.1.getD x.f6.toNat 0)==(-1)) x.f6) none)
noncomputable def zHja:LB:=⟨[.d 0 A1,.d 3 B11,.d 5 A22,.d 6 A0],[(.normal,[.d 0 A1,.d 3 B11,.d 5 A22,.d 6 A0])]⟩
noncomputable def zmqa:JF Y_ref08_elemBytes_4:=fun _ K=>zEka (exS zHja 0 K)
structure X_ref08_elemBytes_3 where (f0:Tl) (f3:(Int)×It17) (f5:Bool) (f6:Int)
noncomputable def zvga (k_exit_0:Tl→((Int)×It17)→Bool→Option R) (rec:X_ref08_elemBytes_3→Option R) (x:X_ref08_elemBytes_3):Option R :=
 cond (decide (x.f6<(x.f3.2.2.1.length:Int)))
 (zEka (fun w3 w4 w5 w6 =>
 rec ⟨w3,w4,w5,(IntKind.i64.wrap (w6+1))⟩) ⟨x.f0,x.f3,x.f5,x.f6⟩)
 (k_exit_0 x.f0 x.f3 x.f5)
noncomputable def zOja:LB:=⟨[.d 0 A1,.d 3 B11,.d 5 A22,.d 6 A0],[((.exit 0),[.d 0 A1,.d 3 B11,.d 5 A22])]⟩
noncomputable def zhsa:LF X_ref08_elemBytes_3:=fun _ K=>zvga (exS zOja 0 K)
structure Y_ref08_elemBytes_21 where (f0:Tl) (f3:(Int)×It17) (f5:Bool) (f8:Int)
noncomputable def zaja (k_normal:Tl→((Int)×It17)→Bool→Int→Option R) (x:Y_ref08_elemBytes_21):Option R :=
 cond (inB x.f8 x.f3.2.2.1.length)
 (cond ((x.f3.2.2.1.getD x.f8.toNat 0)==(-1))
 (let v3:=List.set (List.set (List.set (List.replicate 3 (0:Int)) 0 208) 1 112) 2 11
 cond (decide (x.f0.length+v3.length≤most))
 (k_normal (x.f0++v3) x.f3 x.f5 x.f8) none)
 (cond x.f5
 (cond (inB x.f8 x.f3.2.2.1.length)
 (let k2:Option R:=(zCba (x.f0++(List.set (List.replicate 1 (0:Int)) 0 210)) (x.f3.2.2.1.getD x.f8.toNat 0) fun r16 =>
 cond (decide (r16.length+List.length (List.set (List.replicate 1 (0:Int)) 0 11)≤most))
 (k_normal (r16++(List.set (List.replicate 1 (0:Int)) 0 11)) x.f3 x.f5 x.f8) none)
 let k1:Option R:=(cond (decide (x.f0.length+List.length (List.set (List.replicate 1 (0:Int)) 0 210)≤most))
 (k2) none)
 both
 (let v6:=List.set (List.replicate 1 (0:Int)) 0 210
 both
 (cond (decide (x.f0.length+v6.length≤most))
 (both
 (k2)
 (k2)) none)
 (k1))
 (k1)) none)
 (cond (inB x.f8 x.f3.2.2.1.length)
 (zCba x.f0 (x.f3.2.2.1.getD x.f8.toNat 0) fun r24 =>
 k_normal r24 x.f3 x.f5 x.f8) none))) none
noncomputable def zGia:LB:=⟨[.d 0 A1,.d 3 B11,.d 5 A22,.d 8 A0],[(.normal,[.d 0 A1,.d 3 B11,.d 5 A22,.d 8 A0])]⟩
noncomputable def zYna:JF Y_ref08_elemBytes_21:=fun _ K=>zaja (exS zGia 0 K)
structure X_ref08_elemBytes_20 where (f0:Tl) (f3:(Int)×It17) (f5:Bool) (f8:Int)
noncomputable def zifa (k_exit_2:Tl→Option R) (rec:X_ref08_elemBytes_20→Option R) (x:X_ref08_elemBytes_20):Option R :=
 cond (decide (x.f8<(x.f3.2.2.1.length:Int)))
 (zaja (fun w3 w4 w5 w6 =>
 rec ⟨w3,w4,w5,(IntKind.i64.wrap (w6+1))⟩) ⟨x.f0,x.f3,x.f5,x.f8⟩)
 (k_exit_2 x.f0)
noncomputable def zPia:LB:=⟨[.d 0 A1,.d 3 B11,.d 5 A22,.d 8 A0],[((.exit 2),[.d 0 A1])]⟩
noncomputable def zgra:LF X_ref08_elemBytes_20:=fun _ K=>zifa (exS zPia 0 K)
structure Y_ref08_elemBytes_9 where (f0:Tl) (f3:(Int)×It17) (f5:Bool) (f7:Int)
noncomputable def zsga (k_normal:Tl→((Int)×It17)→Bool→Int→Option R) (x:Y_ref08_elemBytes_9):Option R :=
 cond (x.f3.1==2)
 (k_normal x.f0 x.f3 x.f5 3)
 (k_normal x.f0 x.f3 x.f5 x.f7)
noncomputable def zGja:LB:=⟨[.d 0 A1,.d 3 B11,.d 5 A22,.d 7 A0],[(.normal,[.d 0 A1,.d 3 B11,.d 5 A22,.d 7 A0])]⟩
noncomputable def zlqa:JF Y_ref08_elemBytes_9:=fun _ K=>zsga (exS zGja 0 K)
structure Y_ref08_elemBytes_11 where (f0:Tl) (f3:(Int)×It17) (f5:Bool) (f7:Int)
noncomputable def zcfa (k_normal:Tl→((Int)×It17)→Bool→Int→Option R) (x:Y_ref08_elemBytes_11):Option R :=
 cond x.f5
 (k_normal x.f0 x.f3 x.f5 (IntKind.i64.wrap (x.f7+4)))
 (k_normal x.f0 x.f3 x.f5 x.f7)
noncomputable def zKia:LB:=⟨[.d 0 A1,.d 3 B11,.d 5 A22,.d 7 A0],[(.normal,[.d 0 A1,.d 3 B11,.d 5 A22,.d 7 A0])]⟩
noncomputable def zcoa:JF Y_ref08_elemBytes_11:=fun _ K=>zcfa (exS zKia 0 K)
structure Y_ref08_elemBytes_14 where (f0:Tl) (f3:(Int)×It17) (f5:Bool)
noncomputable def zbfa (k_normal:Tl→((Int)×It17)→Bool→Option R) (x:Y_ref08_elemBytes_14):Option R :=
 cond (x.f3.1==0)
 (zSia x.f0 x.f3.2.1 fun r2 =>
 k_normal r2 x.f3 x.f5)
 (k_normal x.f0 x.f3 x.f5)
noncomputable def zJia:LB:=⟨[.d 0 A1,.d 3 B11,.d 5 A22],[(.normal,[.d 0 A1,.d 3 B11,.d 5 A22])]⟩
noncomputable def zboa:JF Y_ref08_elemBytes_14:=fun _ K=>zbfa (exS zJia 0 K)
structure Y_ref08_elemBytes_16 where (f0:Tl) (f3:(Int)×It17) (f5:Bool)
noncomputable def zafa (k_normal:Tl→((Int)×It17)→Bool→Option R) (x:Y_ref08_elemBytes_16):Option R :=
 cond (x.f3.1 != 0)
 (cond x.f5
 (let v2:=List.set (List.replicate 1 (0:Int)) 0 112
 cond (decide (x.f0.length+v2.length≤most))
 (k_normal (x.f0++v2) x.f3 x.f5) none)
 (k_normal x.f0 x.f3 x.f5))
 (k_normal x.f0 x.f3 x.f5)
noncomputable def zIia:LB:=⟨[.d 0 A1,.d 3 B11,.d 5 A22],[(.normal,[.d 0 A1,.d 3 B11,.d 5 A22])]⟩
noncomputable def zaoa:JF Y_ref08_elemBytes_16:=fun _ K=>zafa (exS zIia 0 K)
structure Y_ref08_elemBytes_18 where (f0:Tl) (f3:(Int)×It17) (f5:Bool)
noncomputable def zZea (k_normal:Tl→((Int)×It17)→Bool→Option R) (x:Y_ref08_elemBytes_18):Option R :=
 cond (x.f3.1 != 0)
 (cond (!x.f5)
 (let v3:=List.set (List.replicate 1 (0:Int)) 0 0
 cond (decide (x.f0.length+v3.length≤most))
 (k_normal (x.f0++v3) x.f3 x.f5) none)
 (k_normal x.f0 x.f3 x.f5))
 (k_normal x.f0 x.f3 x.f5)
noncomputable def zHia:LB:=⟨[.d 0 A1,.d 3 B11,.d 5 A22],[(.normal,[.d 0 A1,.d 3 B11,.d 5 A22])]⟩
noncomputable def zZna:JF Y_ref08_elemBytes_18:=fun _ K=>zZea (exS zHia 0 K)
noncomputable def zkba:Loops:=fun z i R st K=>match z,i with
 |false,3=>lpS zOja X_ref08_elemBytes_3.mk zhsa K st
 |false,20=>lpS zPia X_ref08_elemBytes_20.mk zgra K st
 |true,4=>jpS zHja Y_ref08_elemBytes_4.mk zmqa K st
 |true,21=>jpS zGia Y_ref08_elemBytes_21.mk zYna K st
 |true,9=>jpS zGja Y_ref08_elemBytes_9.mk zlqa K st
 |true,11=>jpS zKia Y_ref08_elemBytes_11.mk zcoa K st
 |true,14=>jpS zJia Y_ref08_elemBytes_14.mk zboa K st
 |true,16=>jpS zIia Y_ref08_elemBytes_16.mk zaoa K st
 |true,18=>jpS zHia Y_ref08_elemBytes_18.mk zZna K st
 |_,_=>none
theorem zWAa:JOk zQaa zkba inl0 4 Tryz.f144:=jok zHja Y_ref08_elemBytes_4.mk (fun x=>(x.f0,x.f3,x.f5,x.f6,())) zmqa 4
theorem zlDa:LOk zQaa zkba inl0 3 Tryz.f144:=lok zOja X_ref08_elemBytes_3.mk (fun x=>(x.f0,x.f3,x.f5,x.f6,())) zhsa 3
theorem zxya:JOk zQaa zkba inl0 21 Tryz.f144:=jok zGia Y_ref08_elemBytes_21.mk (fun x=>(x.f0,x.f3,x.f5,x.f8,())) zYna 21
theorem zzAa:LOk zQaa zkba inl0 20 Tryz.f144:=lok zPia X_ref08_elemBytes_20.mk (fun x=>(x.f0,x.f3,x.f5,x.f8,())) zgra 20
theorem zVAa:JOk zQaa zkba inl0 9 Tryz.f144:=jok zGja Y_ref08_elemBytes_9.mk (fun x=>(x.f0,x.f3,x.f5,x.f7,())) zlqa 9
theorem zBya:JOk zQaa zkba inl0 11 Tryz.f144:=jok zKia Y_ref08_elemBytes_11.mk (fun x=>(x.f0,x.f3,x.f5,x.f7,())) zcoa 11
theorem zAya:JOk zQaa zkba inl0 14 Tryz.f144:=jok zJia Y_ref08_elemBytes_14.mk (fun x=>(x.f0,x.f3,x.f5,())) zboa 14
theorem zzya:JOk zQaa zkba inl0 16 Tryz.f144:=jok zIia Y_ref08_elemBytes_16.mk (fun x=>(x.f0,x.f3,x.f5,())) zaoa 16
theorem zyya:JOk zQaa zkba inl0 18 Tryz.f144:=jok zHia Y_ref08_elemBytes_18.mk (fun x=>(x.f0,x.f3,x.f5,())) zZna 18
theorem zGAa:zsaa zQaa zkba inl0 (body Tryz.f144.body):=lsL (.cons zlDa (.cons zzAa .nil)) (.cons zWAa (.cons zxya (.cons zyya (.cons zzya (.cons zAya (.cons zBya (.cons zVAa .nil)))))))
noncomputable def zvia (a0:Tl) (a1:(Int)×It17) (K:Tl→Option R):Option R :=
 loopN (zvga (fun w1 w2 w3 =>
 zsga (fun w4 w5 w6 w7 =>
 zcfa (fun w8 w9 w10 w11 =>
 zCba w8 w11 fun r12 =>
 zbfa (fun w13 w14 w15 =>
 zafa (fun w16 w17 w18 =>
 zZea (fun w19 w20 w21 =>
 zCba w19 (w20.2.2.1.length:Int) fun r23 =>
 loopN (zifa (fun w24 =>
 K w24)) zpaa ⟨r23,w20,w21,0⟩) ⟨w16,w17,w18⟩) ⟨w13,w14,w15⟩) ⟨r12,w9,w10⟩) ⟨w4,w5,w6,w7⟩) ⟨w1,w2,w3,w2.1⟩)) zpaa ⟨a0,a1,false,0⟩
noncomputable def zhua:CSpec:={ ins:=[(.val (.sl 5 (.int .u8)) (.o .s)),(.val (.pair (.int .i64) Ty25) .s)],outs:=[((.sl 5 (.int .u8)),(.o .s))],fn:=fun d K _=>zvia d.1 d.2.1 (fun r0=>K (r0,()) ()) }
theorem zHJa:Holds Tryz.prog 144 zhua:=hw zQaa [(4,none)] zfaa Tryz.func144 zGAa ⟨mixed,envTyOk.ty,envTyOk.eq⟩
noncomputable def zRJa:GE Tryz.prog:=⟨144,[],zhua,zHJa⟩
noncomputable def zbHa:Nat→Bool
 |1=>true
 |_=>false
noncomputable def zIGa:Nat→Bool
 |7=>true
 |9=>true
 |_=>false
noncomputable def zpGa:TypeId→Md
 |42=>(.p .s (.p (.o .s) (.p (.o .s) .s)))
 |_ => .s
noncomputable def zIca:Env:={ mE [zUGa,zJDa] Tryz.f145 with fz:=zbHa,js:=zIGa,om:=zpGa }
structure Y_ref08_codeBytes_7 where (f1:(Int)×It13) (f3:Tl) (f4 f5 f6:Int)
noncomputable def zGka (k_normal:((Int)×It13)→Tl→Int→Int→Int→Option R) (k_exit_2:((Int)×It13)→Tl→Int→Int→Int→Option R) (x:Y_ref08_codeBytes_7):Option R :=
 cond (decide (x.f6<(x.f1.2.1.length:Int)))
 (cond (inB x.f6 x.f1.2.1.length)
 (cond (inB x.f5 x.f1.2.1.length)
 (cond ((x.f1.2.1.getD x.f6.toNat 0)==(x.f1.2.1.getD x.f5.toNat 0))
 (k_normal x.f1 x.f3 x.f4 x.f5 x.f6)
 (k_exit_2 x.f1 x.f3 x.f4 x.f5 x.f6)) none) none)
 (k_exit_2 x.f1 x.f3 x.f4 x.f5 x.f6)
noncomputable def zXfa:LB:=⟨[.d 1 B12,.d 3 A1,.d 4 A0,.d 5 A0,.d 6 A0],[(.normal,[.d 1 B12,.d 3 A1,.d 4 A0,.d 5 A0,.d 6 A0]),((.exit 2),[.d 1 B12,.d 3 A1,.d 4 A0,.d 5 A0,.d 6 A0])]⟩
noncomputable def zoqa:JF Y_ref08_codeBytes_7:=fun _ K=>zGka (exS zXfa 0 K) (exS zXfa 1 K)
structure X_ref08_codeBytes_6 where (f1:(Int)×It13) (f3:Tl) (f4 f5 f6:Int)
noncomputable def zwga (k_exit_2:((Int)×It13)→Tl→Int→Int→Int→Option R) (rec:X_ref08_codeBytes_6→Option R) (x:X_ref08_codeBytes_6):Option R :=
 zGka (fun w1 w2 w3 w4 w5 =>
 rec ⟨w1,w2,w3,w4,(IntKind.i64.wrap (w5+1))⟩) (fun w7 w8 w9 w10 w11 =>
 k_exit_2 w7 w8 w9 w10 w11) ⟨x.f1,x.f3,x.f4,x.f5,x.f6⟩
noncomputable def zPja:LB:=⟨[.d 1 B12,.d 3 A1,.d 4 A0,.d 5 A0,.d 6 A0],[((.exit 2),[.d 1 B12,.d 3 A1,.d 4 A0,.d 5 A0,.d 6 A0])]⟩
noncomputable def zisa:LF X_ref08_codeBytes_6:=fun _ K=>zwga (exS zPja 0 K)
structure Y_ref08_codeBytes_9 where (f1:(Int)×It13) (f3:Tl) (f4 f5 f6:Int)
noncomputable def zFka (k_normal:((Int)×It13)→Tl→Int→Int→Option R) (x:Y_ref08_codeBytes_9):Option R :=
 cond (inB x.f5 x.f1.2.1.length)
 (let v3:=IntKind.u8.wrap (x.f1.2.1.getD x.f5.toNat 0)
 let k1:Option R:=(zCba x.f3 (IntKind.i64.wrap (x.f6-x.f5)) fun r4 =>
 let v5:=List.set (List.replicate 1 (0:Int)) 0 v3
 cond (decide (r4.length+v5.length≤most))
 (k_normal x.f1 (r4++v5) x.f4 x.f6) none)
 both
 (k1)
 (k1)) none
noncomputable def zIja:LB:=⟨[.d 1 B12,.d 3 A1,.d 4 A0,.d 5 A0,.d 6 A0],[(.normal,[.d 1 B12,.d 3 A1,.d 4 A0,.d 6 A0])]⟩
noncomputable def znqa:JF Y_ref08_codeBytes_9:=fun _ K=>zFka (exS zIja 0 K)
structure X_ref08_codeBytes_4 where (f1:(Int)×It13) (f3:Tl) (f4 f5:Int)
noncomputable def zxga (k_exit_0:((Int)×It13)→Tl→Int→Option R) (rec:X_ref08_codeBytes_4→Option R) (x:X_ref08_codeBytes_4):Option R :=
 cond (decide (x.f5<(x.f1.2.1.length:Int)))
 (loopN (zwga (fun w3 w4 w5 w6 w7 =>
 zFka (fun w8 w9 w10 w11 =>
 rec ⟨w8,w9,(IntKind.i64.wrap (w10+1)),w11⟩) ⟨w3,w4,w5,w6,w7⟩)) zpaa ⟨x.f1,x.f3,x.f4,x.f5,x.f5⟩)
 (k_exit_0 x.f1 x.f3 x.f4)
noncomputable def zQja:LB:=⟨[.d 1 B12,.d 3 A1,.d 4 A0,.d 5 A0],[((.exit 0),[.d 1 B12,.d 3 A1,.d 4 A0])]⟩
noncomputable def zjsa:LF X_ref08_codeBytes_4:=fun _ K=>zxga (exS zQja 0 K)
noncomputable def zqea:Loops:=fun z i R st K=>match z,i with
 |false,6=>lpS zPja X_ref08_codeBytes_6.mk zisa K st
 |false,4=>lpS zQja X_ref08_codeBytes_4.mk zjsa K st
 |true,7=>jpS zXfa Y_ref08_codeBytes_7.mk zoqa K st
 |true,9=>jpS zIja Y_ref08_codeBytes_9.mk znqa K st
 |_,_=>none
theorem zYAa:JOk zIca zqea inl0 7 Tryz.f145:=jok zXfa Y_ref08_codeBytes_7.mk (fun x=>(x.f1,x.f3,x.f4,x.f5,x.f6,())) zoqa 7
theorem zmDa:LOk zIca zqea inl0 6 Tryz.f145:=lok zPja X_ref08_codeBytes_6.mk (fun x=>(x.f1,x.f3,x.f4,x.f5,x.f6,())) zisa 6
theorem zXAa:JOk zIca zqea inl0 9 Tryz.f145:=jok zIja Y_ref08_codeBytes_9.mk (fun x=>(x.f1,x.f3,x.f4,x.f5,x.f6,())) znqa 9
theorem znDa:LOk zIca zqea inl0 4 Tryz.f145:=lok zQja X_ref08_codeBytes_4.mk (fun x=>(x.f1,x.f3,x.f4,x.f5,())) zjsa 4
theorem zHAa:zsaa zIca zqea inl0 (body Tryz.f145.body):=lsL (.cons znDa (.cons zmDa .nil)) (.cons zYAa (.cons zXAa .nil))
noncomputable def zwia (a0:(Int)×It13) (K:Tl→Option R):Option R :=
 loopN (zxga (fun w1 w2 w3 =>
 zCba [] w3 fun r4 =>
 cond (decide (r4.length+w2.length≤most))
 (zSia (r4++w2) w1.2.2.1 fun r6 =>
 K r6) none)) zpaa ⟨a0,[],0,0⟩
noncomputable def ziua:CSpec:={ ins:=[(.val (.pair (.int .i64) Ty14) .s)],outs:=[((.sl 5 (.int .u8)),(.o .s))],fn:=fun d K _=>zwia d.1 (fun r0=>K (r0,()) ()) }
theorem zIJa:Holds Tryz.prog 145 ziua:=hw zIca [(2,none)] zfaa Tryz.func145 zHAa ⟨mixed,envTyOk.ty,envTyOk.eq⟩
noncomputable def zSJa:GE Tryz.prog:=⟨145,[],ziua,zIJa⟩
noncomputable def zlBa:Nat→Bool
 |3=>true
 |_=>false
noncomputable def zmBa:Nat→Bool
 |9=>true
 |10=>true
 |12=>true
 |_=>false
noncomputable def zQAa:Nat→Bool
 |11=>true
 |18=>true
 |48=>true
 |_=>false
noncomputable def zDAa:Nat→Option (List Nat)
 |0=>some [0,1]
 |1=>some [0,3]
 |2|4|6|8=>some [0,3,6]
 |3=>some []
 |5|7=>some [3]
 |9=>some [0,3,6,7]
 |10|11|12|14|16|28|30|32|34|36|39|41|44=>some [0,3,6,7,8]
 |13|15|27|29|31|33|35|38|40|43=>some [0,3,6,7,8,75]
 |17|18|20|22|24|26=>some [0,3,6,7,8,9]
 |19|21|23|25=>some [0,3,6,7,8,9,106]
 |37=>some [0,3,6,7,8,10]
 |42=>some [0,3,6,7,8,11]
 |45|46|47|48=>some [0,3,6,7,8,12]
 |49=>some [7]
 |_=>none
noncomputable def ztAa:TypeId→Md
 |42=>(.p .s (.p (.o .s) (.p (.o .s) .s)))
 |_ => .s
noncomputable def zPba:Env:={ mE [zUGa,zTJa,zhMa,zuQa,zcVa,zJDa,zRJa,zSJa] Tryz.f92 with fz:=zlBa,fs:=zmBa,js:=zQAa,lv:=zDAa,om:=ztAa }
structure Y_ref08_sectionBytes_18 where (f0:Int) (f3:It21) (f6:Int) (f7:Tl) (f8:Int) (f9:(Tb)×It15)
noncomputable def zxda (k_normal:Int→It21→Int→Tl→Int→((Tb)×It15)→Option R) (x:Y_ref08_sectionBytes_18):Option R :=
 let v1:=IntKind.u8.wrap x.f9.2.2.1
 both
 (zKea x.f7 x.f9.1 fun r2 =>
 let k1:Option R:=(zKea r2 x.f9.2.1 fun r3 =>
 let v4:=List.set (List.replicate 1 (0:Int)) 0 v1
 cond (decide (r3.length+v4.length≤most))
 (k_normal x.f0 x.f3 x.f6 (r3++v4) x.f8 x.f9) none)
 both
 (k1)
 (k1))
 (let v9:=List.set (List.replicate 1 (0:Int)) 0 v1
 zKea x.f7 x.f9.1 fun r10 =>
 zKea r10 x.f9.2.1 fun r11 =>
 cond (decide (r11.length+v9.length≤most))
 (k_normal x.f0 x.f3 x.f6 (r11++v9) x.f8 x.f9) none)
noncomputable def zLfa:LB:=⟨[.d 0 A0,.d 3 B8,.d 6 A0,.d 7 A1,.d 8 A0,.d 9 B13],[(.normal,[.d 0 A0,.d 3 B8,.d 6 A0,.d 7 A1,.d 8 A0,.d 9 B13])]⟩
noncomputable def znka:JF Y_ref08_sectionBytes_18:=fun _ K=>zxda (exS zLfa 0 K)
structure Y_ref08_sectionBytes_48 where (f0:Int) (f3:It21) (f6:Int) (f7:Tl) (f8:Int) (f12:(Int)×It17)
noncomputable def zwda (k_normal:Int→It21→Int→Tl→Int→((Int)×It17)→Option R) (x:Y_ref08_sectionBytes_48):Option R :=
 cond (x.f12.1==0)
 (zSia x.f7 x.f12.2.1 fun r2 =>
 k_normal x.f0 x.f3 x.f6 r2 x.f8 x.f12)
 (k_normal x.f0 x.f3 x.f6 x.f7 x.f8 x.f12)
noncomputable def zKfa:LB:=⟨[.d 0 A0,.d 3 B8,.d 6 A0,.d 7 A1,.d 8 A0,.d 12 B14],[(.normal,[.d 0 A0,.d 3 B8,.d 6 A0,.d 7 A1,.d 8 A0,.d 12 B14])]⟩
noncomputable def zmka:JF Y_ref08_sectionBytes_48:=fun _ K=>zwda (exS zKfa 0 K)
structure Y_ref08_sectionBytes_11 where (f0:Int) (f3:It21) (f6:Int) (f7:Tl) (f8:Int)
noncomputable def zyda (k_normal:Int→It21→Int→Tl→Int→Option R) (x:Y_ref08_sectionBytes_11):Option R :=
 cond (x.f0==1)
 (cond (inB x.f8 x.f3.1.length)
 (zxia (x.f3.1.getD x.f8.toNat ([],([],()))) fun r3 =>
 cond (decide (x.f7.length+r3.length≤most))
 (k_normal x.f0 x.f3 x.f6 (x.f7++r3) x.f8) none) none)
 (cond (x.f0==2)
 (cond (inB x.f8 x.f3.2.1.length)
 (zxda (fun w7 w8 w9 w10 w11 w12 =>
 cond (w12.2.2.1==0)
 (zCba w10 w12.2.2.2.1 fun r14 =>
 k_normal w7 w8 w9 r14 w11)
 (cond (w12.2.2.1==1)
 (let v16:=List.set (List.replicate 1 (0:Int)) 0 112
 cond (decide (w10.length+v16.length≤most))
 (zLea (w10++v16) w12.2.2.2.2.1 fun r18 =>
 k_normal w7 w8 w9 r18 w11) none)
 (cond (w12.2.2.1==2)
 (zLea w10 w12.2.2.2.2.1 fun r20 =>
 k_normal w7 w8 w9 r20 w11)
 (cond (w12.2.2.1==3)
 (let v23:=List.set (List.replicate 1 (0:Int)) 0 (IntKind.u8.wrap w12.2.2.2.1)
 cond (decide (w10.length+v23.length≤most))
 (zVpa (w10++v23) w12.2.2.2.2.2.1 fun r25 =>
 k_normal w7 w8 w9 r25 w11) none)
 (k_normal w7 w8 w9 w10 w11))))) ⟨x.f0,x.f3,x.f6,x.f7,x.f8,(x.f3.2.1.getD x.f8.toNat ([],([],(0,(0,((0,(false,(0,()))),(false,())))))))⟩) none)
 (cond (x.f0==3)
 (cond (inB x.f8 x.f3.2.2.1.length)
 (zCba x.f7 (x.f3.2.2.1.getD x.f8.toNat (0,([],([],())))).1 fun r28 =>
 k_normal x.f0 x.f3 x.f6 r28 x.f8) none)
 (cond (x.f0==4)
 (cond (inB x.f8 x.f3.2.2.2.1.length)
 (let v31:=List.set (List.replicate 1 (0:Int)) 0 112
 cond (decide (x.f7.length+v31.length≤most))
 (zLea (x.f7++v31) (x.f3.2.2.2.1.getD x.f8.toNat (0,(false,(0,())))) fun r33 =>
 k_normal x.f0 x.f3 x.f6 r33 x.f8) none) none)
 (cond (x.f0==5)
 (cond (inB x.f8 x.f3.2.2.2.2.1.length)
 (zLea x.f7 (x.f3.2.2.2.2.1.getD x.f8.toNat (0,(false,(0,())))) fun r36 =>
 k_normal x.f0 x.f3 x.f6 r36 x.f8) none)
 (cond (x.f0==6)
 (cond (inB x.f8 x.f3.2.2.2.2.2.1.length)
 (cond (inB x.f8 x.f3.2.2.2.2.2.1.length)
 (cond (inB x.f8 x.f3.2.2.2.2.2.1.length)
 (let v42:=List.set (List.replicate 1 (0:Int)) 0 (IntKind.u8.wrap (x.f3.2.2.2.2.2.1.getD x.f8.toNat (0,(false,([],())))).1)
 cond (decide (x.f7.length+v42.length≤most))
 (zVpa (x.f7++v42) (x.f3.2.2.2.2.2.1.getD x.f8.toNat (0,(false,([],())))).2.1 fun r44 =>
 zSia r44 (x.f3.2.2.2.2.2.1.getD x.f8.toNat (0,(false,([],())))).2.2.1 fun r45 =>
 k_normal x.f0 x.f3 x.f6 r45 x.f8) none) none) none) none)
 (cond (x.f0==7)
 (cond (inB x.f8 x.f3.2.2.2.2.2.2.1.length)
 (let v47:=x.f3.2.2.2.2.2.2.1.getD x.f8.toNat ([],(0,(0,())))
 let v48:=IntKind.u8.wrap v47.2.1
 let k1:Option R:=(zKea x.f7 v47.1 fun r49 =>
 let v50:=List.set (List.replicate 1 (0:Int)) 0 v48
 cond (decide (r49.length+v50.length≤most))
 (zCba (r49++v50) v47.2.2.1 fun r52 =>
 k_normal x.f0 x.f3 x.f6 r52 x.f8) none)
 both
 (k1)
 (k1)) none)
 (cond (x.f0==9)
 (cond (inB x.f8 x.f3.2.2.2.2.2.2.2.2.1.length)
 (zvia x.f7 (x.f3.2.2.2.2.2.2.2.2.1.getD x.f8.toNat (0,([],([],())))) fun r59 =>
 k_normal x.f0 x.f3 x.f6 r59 x.f8) none)
 (cond (x.f0==10)
 (cond (inB x.f8 x.f3.2.2.1.length)
 (zwia (x.f3.2.2.1.getD x.f8.toNat (0,([],([],())))) fun r62 =>
 zCba x.f7 (r62.length:Int) fun r64 =>
 cond (decide (r64.length+r62.length≤most))
 (k_normal x.f0 x.f3 x.f6 (r64++r62) x.f8) none) none)
 (cond (x.f0==11)
 (cond (inB x.f8 x.f3.2.2.2.2.2.2.2.2.2.2.1.length)
 (let v67:=x.f3.2.2.2.2.2.2.2.2.2.2.1.getD x.f8.toNat (0,([],([],())))
 zCba x.f7 v67.1 fun r68 =>
 zwda (fun w69 w70 w71 w72 w73 w74 =>
 zCba w72 (w74.2.2.1.length:Int) fun r76 =>
 cond (decide (r76.length+w74.2.2.1.length≤most))
 (k_normal w69 w70 w71 (r76++w74.2.2.1) w73) none) ⟨x.f0,x.f3,x.f6,r68,x.f8,v67⟩) none)
 (k_normal x.f0 x.f3 x.f6 x.f7 x.f8))))))))))
noncomputable def zMfa:LB:=⟨[.d 0 A0,.d 3 B8,.d 6 A0,.d 7 A1,.d 8 A0],[(.normal,[.d 0 A0,.d 3 B8,.d 6 A0,.d 7 A1,.d 8 A0])]⟩
noncomputable def zoka:JF Y_ref08_sectionBytes_11:=fun _ K=>zyda (exS zMfa 0 K)
structure X_ref08_sectionBytes_10 where (f0:Int) (f3:It21) (f6:Int) (f7:Tl) (f8:Int)
noncomputable def zzda (k_exit_0:Tl→Option R) (rec:X_ref08_sectionBytes_10→Option R) (x:X_ref08_sectionBytes_10):Option R :=
 cond (decide (x.f8<x.f6))
 (zyda (fun w2 w3 w4 w5 w6 =>
 rec ⟨w2,w3,w4,w5,(IntKind.i64.wrap (w6+1))⟩) ⟨x.f0,x.f3,x.f6,x.f7,x.f8⟩)
 (k_exit_0 x.f7)
noncomputable def zPfa:LB:=⟨[.d 0 A0,.d 3 B8,.d 6 A0,.d 7 A1,.d 8 A0],[((.exit 0),[.d 7 A1])]⟩
noncomputable def zFla:LF X_ref08_sectionBytes_10:=fun _ K=>zzda (exS zPfa 0 K)
noncomputable def zVca:Loops:=fun z i R st K=>match z,i with
 |false,10=>lpS zPfa X_ref08_sectionBytes_10.mk zFla K st
 |true,18=>jpS zLfa Y_ref08_sectionBytes_18.mk znka K st
 |true,48=>jpS zKfa Y_ref08_sectionBytes_48.mk zmka K st
 |true,11=>jpS zMfa Y_ref08_sectionBytes_11.mk zoka K st
 |_,_=>none
theorem zIta:JOk zPba zVca inl0 18 Tryz.f92:=jok zLfa Y_ref08_sectionBytes_18.mk (fun x=>(x.f0,x.f3,x.f6,x.f7,x.f8,x.f9,())) znka 18
theorem zHta:JOk zPba zVca inl0 48 Tryz.f92:=jok zKfa Y_ref08_sectionBytes_48.mk (fun x=>(x.f0,x.f3,x.f6,x.f7,x.f8,x.f12,())) zmka 48
theorem zJta:JOk zPba zVca inl0 11 Tryz.f92:=jok zMfa Y_ref08_sectionBytes_11.mk (fun x=>(x.f0,x.f3,x.f6,x.f7,x.f8,())) zoka 11
theorem znva:LOk zPba zVca inl0 10 Tryz.f92:=lok zPfa X_ref08_sectionBytes_10.mk (fun x=>(x.f0,x.f3,x.f6,x.f7,x.f8,())) zFla 10
theorem zxva:zsaa zPba zVca inl0 (body Tryz.f92.body):=lsL (.cons znva .nil) (.cons zIta (.cons zHta (.cons zJta .nil)))
noncomputable def zJea (a0:Int) (a1:It21) (K:Tl→Bool→Option R):Option R :=
 cond (inB a0 13)
 (let v14:=List.getD (List.set (List.set (List.set (List.set (List.set (List.set (List.set (List.set (List.set (List.set (List.set (List.set (List.set (List.replicate 13 (0:Int)) 0 0) 1 (a1.1.length:Int)) 2 (a1.2.1.length:Int)) 3 (a1.2.2.1.length:Int)) 4 (a1.2.2.2.1.length:Int)) 5 (a1.2.2.2.2.1.length:Int)) 6 (a1.2.2.2.2.2.1.length:Int)) 7 (a1.2.2.2.2.2.2.1.length:Int)) 8 (a1.2.2.2.2.2.2.2.1.length:Int)) 9 (a1.2.2.2.2.2.2.2.2.1.length:Int)) 10 (a1.2.2.1.length:Int)) 11 (a1.2.2.2.2.2.2.2.2.2.2.1.length:Int)) 12 (a1.2.2.2.2.2.2.2.2.2.1.length:Int)) a0.toNat 0
 cond (v14==0)
 (K [] false)
 (cond (a0==8)
 (cond (inB 0 a1.2.2.2.2.2.2.2.1.length)
 (zCba [] (a1.2.2.2.2.2.2.2.1.getD (0:Int).toNat 0) fun r18 =>
 K r18 true) none)
 (cond (a0==12)
 (cond (inB 0 a1.2.2.2.2.2.2.2.2.2.1.length)
 (zCba [] (a1.2.2.2.2.2.2.2.2.2.1.getD (0:Int).toNat 0) fun r21 =>
 K r21 true) none)
 (zCba [] v14 fun r22 =>
 loopN (zzda (fun w23 =>
 K w23 true)) zpaa ⟨a0,a1,v14,r22,0⟩)))) none
noncomputable def zooa:CSpec:={ ins:=[(.val (.int .i64) .s),(.val Ty32 .s)],outs:=[((.sl 5 (.int .u8)),(.o .s)),(.bool,.s)],fn:=fun d K _=>zJea d.1 d.2.1 (fun r0 r1=>K (r0,r1,()) ()) }
theorem zFDa:Holds Tryz.prog 92 zooa:=hw zPba [(4,none),(5,none)] zfaa Tryz.func92 zxva ⟨mixed,envTyOk.ty,envTyOk.eq⟩
noncomputable def zIDa:GE Tryz.prog:=⟨92,[],zooa,zFDa⟩
noncomputable def zvOa:Env:={ E0 with n:=Tryz.f172.ntmps }
noncomputable def zCma (a0:Int) (K:Int→Option R):Option R :=
 cond (a0==12)
 (K 95)
 (K (IntKind.i64.wrap (a0*10)))
noncomputable def zkFa:CSpec:={ ins:=[(.val (.int .i64) .s)],outs:=[((.int .i64),.s)],fn:=fun d K _=>zCma d.1 (fun r0=>K (r0,()) ()) }
theorem zsSa:Holds Tryz.prog 172 zkFa:=hw zvOa [(2,none)] (lp:=lp0) (code:=body Tryz.f172.body) zfaa Tryz.func172 l0 ⟨mixed,envTyOk.ty,envTyOk.eq⟩
noncomputable def zKSa:GE Tryz.prog:=⟨172,[],zkFa,zsSa⟩
noncomputable def zdza:Env:=mE [zKSa] Tryz.f147
structure X_ref07_may_4 where (f0:List Ts) (f1 f5:Int)
noncomputable def zpsa (k_ret:Bool→Option R) (k_exit_0:Option R) (rec:X_ref07_may_4→Option R) (x:X_ref07_may_4):Option R :=
 cond (decide (x.f5<(x.f0.length:Int)))
 (cond (x.f1 != 0)
 (cond (inB x.f5 x.f0.length)
 (cond ((x.f0.getD x.f5.toNat (0,([],()))).1 != 0)
 (cond (inB x.f5 x.f0.length)
 (zCma (x.f0.getD x.f5.toNat (0,([],()))).1 fun r7 =>
 zCma x.f1 fun r8 =>
 cond (decide (r7≥r8))
 (k_ret false)
 (rec ⟨x.f0,x.f1,(IntKind.i64.wrap (x.f5+1))⟩)) none)
 (rec ⟨x.f0,x.f1,(IntKind.i64.wrap (x.f5+1))⟩)) none)
 (rec ⟨x.f0,x.f1,(IntKind.i64.wrap (x.f5+1))⟩))
 (k_exit_0)
noncomputable def zIra:LB:=⟨[.d 0 A24,.d 1 A0,.d 5 A0],[(.ret,[.d 4 A22]),((.exit 0),[])]⟩
noncomputable def zqIa:LF X_ref07_may_4:=fun _ K=>zpsa (exS zIra 0 K) (exS zIra 1 K)
noncomputable def zqLa:Loops:=fun z i R st K=>match z,i with
 |false,4=>lpS zIra X_ref07_may_4.mk zqIa K st
 |_,_=>none
theorem zFPa:LOk zdza zqLa inl0 4 Tryz.f147:=lok zIra X_ref07_may_4.mk (fun x=>(x.f0,x.f1,x.f5,())) zqIa 4
theorem zXNa:zsaa zdza zqLa inl0 (body Tryz.f147.body):=lsL (.cons zFPa .nil) .nil
noncomputable def zyta (a0:List Ts) (a1:Int) (K:Bool→Option R):Option R :=
 cond (decide (a1<0))
 (K false)
 (cond (decide (a1>12))
 (K false)
 (loopN (zpsa (fun w3 =>
 K w3) (K true)) zpaa ⟨a0,a1,0⟩))
noncomputable def zLMa:CSpec:={ ins:=[(.val (.sl 186 (.pair (.int .i64) (.pair (.sl 5 (.int .u8)) .unit))) .s),(.val (.int .i64) .s)],outs:=[(.bool,.s)],fn:=fun d K _=>zyta d.1 d.2.1 (fun r0=>K (r0,()) ()) }
theorem zAWa:Holds Tryz.prog 147 zLMa:=hw zdza [(4,none)] zfaa Tryz.func147 zXNa ⟨mixed,envTyOk.ty,envTyOk.eq⟩
noncomputable def zQOa:GE Tryz.prog:=⟨147,[],zLMa,zAWa⟩
noncomputable def zdSa:Nat→Option (List Nat)
 |0|1|6=>some [0]
 |2|3|4=>some [0,4]
 |5|14=>some []
 |7=>some [0,5]
 |8|9|10|11|12=>some [0,5,6]
 |13|15=>some [5]
 |_=>none
noncomputable def zVoa:Env:={ mE [zQOa,zEqa] Tryz.f94 with lv:=zdSa }
structure X_ref07_Join_2 where (f0:List Ts) (f4:Int)
noncomputable def zgpa (k_ret:Tl→Int→Option R) (k_exit_0:(List Ts)→Option R) (rec:X_ref07_Join_2→Option R) (x:X_ref07_Join_2):Option R :=
 cond (decide (x.f4<(x.f0.length:Int)))
 (cond (inR 0 x.f4 x.f0.length)
 (cond (inB x.f4 x.f0.length)
 (zyta (rng x.f0 0 x.f4) (x.f0.getD x.f4.toNat (0,([],()))).1 fun r5 =>
 cond (!r5)
 (k_ret [] 2)
 (rec ⟨x.f0,(IntKind.i64.wrap (x.f4+1))⟩)) none) none)
 (k_exit_0 x.f0)
noncomputable def zzoa:LB:=⟨[.d 0 A24,.d 4 A0],[(.ret,[.d 2 A1,.d 3 A0]),((.exit 0),[.d 0 A24])]⟩
noncomputable def zIFa:LF X_ref07_Join_2:=fun _ K=>zgpa (exS zzoa 0 K) (exS zzoa 1 K)
structure X_ref07_Join_8 where (f0:List Ts) (f5:Tl) (f6:Int)
noncomputable def zfpa (k_exit_2:Tl→Option R) (rec:X_ref07_Join_8→Option R) (x:X_ref07_Join_8):Option R :=
 cond (decide (x.f6<(x.f0.length:Int)))
 (cond (inB x.f6 x.f0.length)
 (let v5:=List.set (List.replicate 1 (0:Int)) 0 (IntKind.u8.wrap (x.f0.getD x.f6.toNat (0,([],()))).1)
 cond (decide (x.f5.length+v5.length≤most))
 (let v6:=x.f5++v5
 cond (inB x.f6 x.f0.length)
 (zYba (IntKind.u64.wrap ((List.length (x.f0.getD x.f6.toNat (0,([],()))).2.1:Nat):Int)) fun r10 =>
 cond (decide (v6.length+r10.length≤most))
 (let v11:=v6++r10
 cond (inB x.f6 x.f0.length)
 (let v12:=x.f0.getD x.f6.toNat (0,([],()))
 cond (decide (v11.length+v12.2.1.length≤most))
 (rec ⟨x.f0,(v11++v12.2.1),(IntKind.i64.wrap (x.f6+1))⟩) none) none) none) none) none) none)
 (k_exit_2 x.f5)
noncomputable def zNua:LB:=⟨[.d 0 A24,.d 5 A1,.d 6 A0],[((.exit 2),[.d 5 A1])]⟩
noncomputable def zHFa:LF X_ref07_Join_8:=fun _ K=>zfpa (exS zNua 0 K)
noncomputable def zkya:Loops:=fun z i R st K=>match z,i with
 |false,2=>lpS zzoa X_ref07_Join_2.mk zIFa K st
 |false,8=>lpS zNua X_ref07_Join_8.mk zHFa K st
 |_,_=>none
theorem zDNa:LOk zVoa zkya inl0 2 Tryz.f94:=lok zzoa X_ref07_Join_2.mk (fun x=>(x.f0,x.f4,())) zIFa 2
theorem zCNa:LOk zVoa zkya inl0 8 Tryz.f94:=lok zNua X_ref07_Join_8.mk (fun x=>(x.f0,x.f5,x.f6,())) zHFa 8
theorem zwLa:zsaa zVoa zkya inl0 (body Tryz.f94.body):=lsL (.cons zDNa (.cons zCNa .nil)) .nil
noncomputable def zeva (a0:List Ts) (K:Tl→Int→Option R):Option R :=
 loopN (zgpa (fun w1 w2 =>
 K w1 w2) (fun w3 =>
 let v4:=List.set (List.set (List.set (List.set (List.set (List.set (List.set (List.set (List.replicate 8 (0:Int)) 0 0) 1 97) 2 115) 3 109) 4 1) 5 0) 6 0) 7 0
 cond (Nat.blt 0 v4.length)
 (loopN (zfpa (fun w5 =>
 cond (decide ((w5.length:Int)>65536))
 (K [] 4)
 (K w5 0))) zpaa ⟨w3,v4,0⟩) none)) zpaa ⟨a0,0⟩
noncomputable def zRHa:CSpec:={ ins:=[(.val (.sl 186 (.pair (.int .i64) (.pair (.sl 5 (.int .u8)) .unit))) .s)],outs:=[((.sl 5 (.int .u8)),(.o .s)),((.int .i64),.s)],fn:=fun d K _=>zeva d.1 (fun r0 r1=>K (r0,r1,()) ()) }
theorem zDUa:Holds Tryz.prog 94 zRHa:=hw zVoa [(2,none),(3,none)] zfaa Tryz.func94 zwLa ⟨mixed,envTyOk.ty,envTyOk.eq⟩
noncomputable def zeVa:GE Tryz.prog:=⟨94,[],zRHa,zDUa⟩
noncomputable def zKQa:Nat→Bool
 |1=>true
 |_=>false
noncomputable def zOPa:Nat→Option (List Nat)
 |0=>some [0]
 |1=>some [1]
 |2|9=>some [1,4]
 |3|4|8=>some [1,4,10,11,12]
 |5=>some [1,4,6,10,11,12]
 |6=>some [1,4,6,7,8,10,11,12]
 |7=>some [1,4,6,7,10,11,12]
 |10|11|12=>some [1,4,9]
 |13=>some [4]
 |_=>none
noncomputable def zDPa:TypeId→Md
 |42=>(.p .s (.p (.o .s) (.p (.o .s) .s)))
 |_ => .s
noncomputable def zmma:Env:={ mE [zIDa,zhMa,zeVa] Tryz.f52 with fz:=zKQa,lv:=zOPa,om:=zDPa }
structure X_ref08_Bytes_3 where (f1:It21) (f4:List Ts) (f10:Tl) (f11 f12:Int)
noncomputable def ztma (k_exit_0:It21→(List Ts)→Option R) (rec:X_ref08_Bytes_3→Option R) (x:X_ref08_Bytes_3):Option R :=
 cond (decide (x.f12<x.f11))
 (cond (inB x.f12 x.f10.length)
 (let v2:=(x.f10.getD x.f12.toNat 0)
 zJea v2 x.f1 fun r3 r4 =>
 cond r4
 (let v5:=List.set (List.replicate 1 ((0:Int),(([]:List (Int)),()))) 0 (v2,(r3,()))
 cond (decide (x.f4.length+v5.length≤most))
 (rec ⟨x.f1,(x.f4++v5),x.f10,x.f11,(IntKind.i64.wrap (x.f12+1))⟩) none)
 (rec ⟨x.f1,x.f4,x.f10,x.f11,(IntKind.i64.wrap (x.f12+1))⟩)) none)
 (k_exit_0 x.f1 x.f4)
noncomputable def zMsa:LB:=⟨[.d 1 B8,.d 4 A25,.d 10 A5,.d 11 A0,.d 12 A0],[((.exit 0),[.d 1 B8,.d 4 A25])]⟩
noncomputable def zACa:LF X_ref08_Bytes_3:=fun _ K=>ztma (exS zMsa 0 K)
structure X_ref08_Bytes_10 where (f1:It21) (f4:List Ts) (f9:Int)
noncomputable def zWka (k_exit_2:(List Ts)→Option R) (rec:X_ref08_Bytes_10→Option R) (x:X_ref08_Bytes_10):Option R :=
 cond (decide (x.f9<(x.f1.2.2.2.2.2.2.2.2.2.2.2.1.length:Int)))
 (cond (inB x.f9 x.f1.2.2.2.2.2.2.2.2.2.2.2.1.length)
 (cond (inB x.f9 x.f1.2.2.2.2.2.2.2.2.2.2.2.1.length)
 (let v4:=x.f1.2.2.2.2.2.2.2.2.2.2.2.1.getD x.f9.toNat ([],([],()))
 zKea [] (x.f1.2.2.2.2.2.2.2.2.2.2.2.1.getD x.f9.toNat ([],([],()))).1 fun r5 =>
 cond (decide (r5.length+v4.2.1.length≤most))
 (let v7:=List.set (List.replicate 1 ((0:Int),(([]:List (Int)),()))) 0 (0,((r5++v4.2.1),()))
 cond (decide (x.f4.length+v7.length≤most))
 (rec ⟨x.f1,(x.f4++v7),(IntKind.i64.wrap (x.f9+1))⟩) none) none) none) none)
 (k_exit_2 x.f4)
noncomputable def zNpa:LB:=⟨[.d 1 B8,.d 4 A25,.d 9 A0],[((.exit 2),[.d 4 A25])]⟩
noncomputable def zGza:LF X_ref08_Bytes_10:=fun _ K=>zWka (exS zNpa 0 K)
noncomputable def zsva:Loops:=fun z i R st K=>match z,i with
 |false,3=>lpS zMsa X_ref08_Bytes_3.mk zACa K st
 |false,10=>lpS zNpa X_ref08_Bytes_10.mk zGza K st
 |_,_=>none
theorem zeLa:LOk zmma zsva inl0 3 Tryz.f52:=lok zMsa X_ref08_Bytes_3.mk (fun x=>(x.f1,x.f4,x.f10,x.f11,x.f12,())) zACa 3
theorem ziJa:LOk zmma zsva inl0 10 Tryz.f52:=lok zNpa X_ref08_Bytes_10.mk (fun x=>(x.f1,x.f4,x.f9,())) zGza 10
theorem zvJa:zsaa zmma zsva inl0 (body Tryz.f52.body):=lsL (.cons zeLa (.cons ziJa .nil)) .nil
noncomputable def zLra (a0:It21) (K:Tl→Int→Option R):Option R :=
 let v1:=List.set (List.set (List.set (List.set (List.set (List.set (List.set (List.set (List.set (List.set (List.set (List.set (List.replicate 12 (0:Int)) 0 1) 1 2) 2 3) 3 4) 4 5) 5 6) 6 7) 7 8) 8 9) 9 12) 10 10) 11 11
 loopN (ztma (fun w3 w4 =>
 loopN (zWka (fun w5 =>
 zeva w5 fun r6 r7 =>
 K r6 r7)) zpaa ⟨w3,w4,0⟩)) zpaa ⟨a0,[],v1,(v1.length:Int),0⟩
noncomputable def zjFa:CSpec:={ ins:=[(.val Ty32 .s)],outs:=[((.sl 5 (.int .u8)),(.o .s)),((.int .i64),.s)],fn:=fun d K _=>zLra d.1 (fun r0 r1=>K (r0,r1,()) ()) }
theorem zrSa:Holds Tryz.prog 52 zjFa:=hw zmma [(2,none),(3,none)] zfaa Tryz.func52 zvJa ⟨mixed,envTyOk.ty,envTyOk.eq⟩
noncomputable def zJSa:GE Tryz.prog:=⟨52,[],zjFa,zrSa⟩
noncomputable def zfRa:Env:={ E0 with n:=Tryz.f150.ntmps }
noncomputable def zbqa (a0:Tl) (K:Tl→Option R):Option R :=
 let v1:=List.replicate 0 (0:Int)
 cond (decide (v1.length+a0.length≤most))
 (K (v1++a0)) none
noncomputable def ziIa:CSpec:={ ins:=[(.val (.sl 5 (.int .u8)) .s)],outs:=[((.sl 5 (.int .u8)),(.o .s))],fn:=fun d K _=>zbqa d.1 (fun r0=>K (r0,()) ()) }
theorem zUUa:Holds Tryz.prog 150 ziIa:=hw zfRa [(2,none)] (lp:=lp0) (code:=body Tryz.f150.body) zfaa Tryz.func150 l0 ⟨mixed,envTyOk.ty,envTyOk.eq⟩
noncomputable def zsMa:GE Tryz.prog:=⟨150,[],ziIa,zUUa⟩
noncomputable def zPPa:Nat→Option (List Nat)
 |0|1|3|11=>some [0]
 |2|8|10=>some []
 |4=>some [0,4]
 |5|6|7|9=>some [0,4,5]
 |12=>some [0,6]
 |13|14=>some [0,6,7]
 |15|17=>some [0,6,7,8]
 |16|22|25=>some [6]
 |18=>some [0,6,7,8,9,10,11]
 |19=>some [6,11]
 |20=>some [0,6,7,8,9,10]
 |21|23=>some [0,6,7,8,9]
 |24=>some [0,6,7,9]
 |_=>none
noncomputable def znma:Env:={ mE [zQOa,zZza,zsMa] Tryz.f95 with lv:=zPPa }
structure X_ref07_Split_5 where (f0:Tl) (f4:Tb) (f5:Int)
noncomputable def zuma (k_ret:(List Ts)→Int→Option R) (k_exit_0:Tl→Option R) (rec:X_ref07_Split_5→Option R) (x:X_ref07_Split_5):Option R :=
 cond (decide (x.f5<8))
 (cond (x.f5==(x.f0.length:Int))
 (k_ret [] 1)
 (cond (inB x.f5 x.f0.length)
 (cond (inB x.f5 x.f4.length)
 (cond ((x.f0.getD x.f5.toNat 0) != (bt x.f4 x.f5))
 (k_ret [] 2)
 (rec ⟨x.f0,x.f4,(IntKind.i64.wrap (x.f5+1))⟩)) none) none))
 (k_exit_0 x.f0)
noncomputable def zgma:LB:=⟨[.d 0 A18,.d 4 A20,.d 5 A0],[(.ret,[.d 2 A25,.d 3 A0]),((.exit 0),[.d 0 A18])]⟩
noncomputable def zBCa:LF X_ref07_Split_5:=fun _ K=>zuma (exS zgma 0 K) (exS zgma 1 K)
structure X_ref07_Split_13 where (f0:Tl) (f6:List Ts) (f7:Int)
noncomputable def zXka (k_ret:(List Ts)→Int→Option R) (k_exit_2:(List Ts)→Option R) (rec:X_ref07_Split_13→Option R) (x:X_ref07_Split_13):Option R :=
 cond (decide (x.f7<(x.f0.length:Int)))
 (cond (inB x.f7 x.f0.length)
 (let v4:=IntKind.i64.wrap (x.f0.getD x.f7.toNat 0)
 zyta x.f6 v4 fun r5 =>
 cond (!r5)
 (k_ret x.f6 2)
 (let v7:=IntKind.i64.wrap (x.f7+1)
 cond (inR v7 (x.f0.length:Int) x.f0.length)
 (zeka (rng x.f0 v7 (x.f0.length:Int)) 32 fun r9 r10 r11 =>
 cond (r11 != 0)
 (k_ret x.f6 r11)
 (let v14:=IntKind.i64.wrap (x.f7+(IntKind.i64.wrap (1+r10)))
 cond (decide ((IntKind.u64.wrap (IntKind.i64.wrap ((x.f0.length:Int)-v14)))<r9))
 (k_ret x.f6 1)
 (let v20:=IntKind.i64.wrap (v14+(IntKind.i64.wrap r9))
 cond (inR v14 v20 x.f0.length)
 (zbqa (rng x.f0 v14 v20) fun r22 =>
 let v23:=List.set (List.replicate 1 ((0:Int),(([]:List (Int)),()))) 0 (v4,(r22,()))
 cond (decide (x.f6.length+v23.length≤most))
 (rec ⟨x.f0,(x.f6++v23),(IntKind.i64.wrap (v14+(IntKind.i64.wrap r9)))⟩) none) none))) none)) none)
 (k_exit_2 x.f6)
noncomputable def zSja:LB:=⟨[.d 0 A18,.d 6 A25,.d 7 A0],[(.ret,[.d 2 A25,.d 3 A0]),((.exit 2),[.d 6 A25])]⟩
noncomputable def zHza:LF X_ref07_Split_13:=fun _ K=>zXka (exS zSja 0 K) (exS zSja 1 K)
noncomputable def ztva:Loops:=fun z i R st K=>match z,i with
 |false,5=>lpS zgma X_ref07_Split_5.mk zBCa K st
 |false,13=>lpS zSja X_ref07_Split_13.mk zHza K st
 |_,_=>none
theorem zfLa:LOk znma ztva inl0 5 Tryz.f95:=lok zgma X_ref07_Split_5.mk (fun x=>(x.f0,x.f4,x.f5,())) zBCa 5
theorem zjJa:LOk znma ztva inl0 13 Tryz.f95:=lok zSja X_ref07_Split_13.mk (fun x=>(x.f0,x.f6,x.f7,())) zHza 13
theorem zwJa:zsaa znma ztva inl0 (body Tryz.f95.body):=lsL (.cons zfLa (.cons zjJa .nil)) .nil
noncomputable def zMra (a0:Tl) (K:(List Ts)→Int→Option R):Option R :=
 cond (decide ((a0.length:Int)>65536))
 (K [] 4)
 (let v3:=([0,97,115,109,1,0,0,0]:List UInt8)
 loopN (zuma (fun w4 w5 =>
 K w4 w5) (fun w6 =>
 loopN (zXka (fun w7 w8 =>
 K w7 w8) (fun w9 =>
 K w9 0)) zpaa ⟨w6,[],8⟩)) zpaa ⟨a0,v3,0⟩)
noncomputable def zlFa:CSpec:={ ins:=[(.val (.sl 5 (.int .u8)) .s)],outs:=[((.sl 186 (.pair (.int .i64) (.pair (.sl 5 (.int .u8)) .unit))),(.o .s)),((.int .i64),.s)],fn:=fun d K _=>zMra d.1 (fun r0 r1=>K (r0,r1,()) ()) }
theorem ztSa:Holds Tryz.prog 95 zlFa:=hw znma [(2,none),(3,none)] zfaa Tryz.func95 zwJa ⟨mixed,envTyOk.ty,envTyOk.eq⟩
noncomputable def zLSa:GE Tryz.prog:=⟨95,[],zlFa,ztSa⟩
noncomputable def zcRa:Env:={ E0 with n:=Tryz.f199.ntmps }
noncomputable def ziva (a0:Int) (K:Int→Option R):Option R :=
 cond (decide (a0<128))
 (K 1)
 (let k1:Option R:=(let k2:Option R:=(cond (decide (a0≥240))
 (cond (decide (a0<248))
 (K 4)
 (K 0))
 (K 0))
 cond (decide (a0≥224))
 (cond (decide (a0<240))
 (K 3)
 (k2))
 (k2))
 cond (decide (a0≥192))
 (cond (decide (a0<224))
 (K 2)
 (k1))
 (k1))
noncomputable def zaIa:CSpec:={ ins:=[(.val (.int .u8) .s)],outs:=[((.int .i64),.s)],fn:=fun d K _=>ziva d.1 (fun r0=>K (r0,()) ()) }
theorem zMUa:Holds Tryz.prog 199 zaIa:=hw zcRa [(2,none)] (lp:=lp0) (code:=body Tryz.f199.body) zfaa Tryz.func199 l0 ⟨mixed,envTyOk.ty,envTyOk.eq⟩
noncomputable def zkVa:GE Tryz.prog:=⟨199,[],zaIa,zMUa⟩
end Go.Trm.G1
