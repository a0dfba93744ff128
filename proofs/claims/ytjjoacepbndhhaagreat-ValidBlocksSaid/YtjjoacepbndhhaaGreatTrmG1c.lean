import Derived.Test.YtjjoacepbndhhaaGreatTrmG1b
import Derived.Test.YtjjoacepbndhhaaGreatProg
import Derived.KernelRfl
set_option linter.unusedVariables false
set_option linter.unusedSimpArgs false
namespace Go.Trm.G1
variable {R:Type}
open Go.Proofs
set_option maxRecDepth 100000
noncomputable def zdRa:Env:={ E0 with n:=Tryz.f200.ntmps }
noncomputable def zjva (a0:Int) (K:Tl→Option R):Option R :=
 cond (decide (a0<128))
 (K (List.set (List.replicate 1 (0:Int)) 0 (IntKind.u8.wrap a0)))
 (cond (decide (a0<2048))
 (cond (64 != 0)
 (cond (64 != 0)
 (K (List.set (List.set (List.replicate 2 (0:Int)) 0 (IntKind.u8.wrap (IntKind.i64.wrap (192+(IntKind.i64.wrap (Int.tdiv a0 64)))))) 1 (IntKind.u8.wrap (IntKind.i64.wrap (128+(Int.tmod a0 64)))))) none) none)
 (cond (decide (a0<65536))
 (cond (4096 != 0)
 (cond (64 != 0)
 (cond (64 != 0)
 (cond (64 != 0)
 (K (List.set (List.set (List.set (List.replicate 3 (0:Int)) 0 (IntKind.u8.wrap (IntKind.i64.wrap (224+(IntKind.i64.wrap (Int.tdiv a0 4096)))))) 1 (IntKind.u8.wrap (IntKind.i64.wrap (128+(Int.tmod (IntKind.i64.wrap (Int.tdiv a0 64)) 64))))) 2 (IntKind.u8.wrap (IntKind.i64.wrap (128+(Int.tmod a0 64)))))) none) none) none) none)
 (cond (262144 != 0)
 (cond (4096 != 0)
 (cond (64 != 0)
 (cond (64 != 0)
 (cond (64 != 0)
 (cond (64 != 0)
 (K (List.set (List.set (List.set (List.set (List.replicate 4 (0:Int)) 0 (IntKind.u8.wrap (IntKind.i64.wrap (240+(IntKind.i64.wrap (Int.tdiv a0 262144)))))) 1 (IntKind.u8.wrap (IntKind.i64.wrap (128+(Int.tmod (IntKind.i64.wrap (Int.tdiv a0 4096)) 64))))) 2 (IntKind.u8.wrap (IntKind.i64.wrap (128+(Int.tmod (IntKind.i64.wrap (Int.tdiv a0 64)) 64))))) 3 (IntKind.u8.wrap (IntKind.i64.wrap (128+(Int.tmod a0 64)))))) none) none) none) none) none) none)))
noncomputable def zbIa:CSpec:={ ins:=[(.val (.int .i64) .s)],outs:=[((.sl 5 (.int .u8)),(.o .s))],fn:=fun d K _=>zjva d.1 (fun r0=>K (r0,()) ()) }
theorem zNUa:Holds Tryz.prog 200 zbIa:=hw zdRa [(2,none)] (lp:=lp0) (code:=body Tryz.f200.body) zfaa Tryz.func200 l0 ⟨mixed,envTyOk.ty,envTyOk.eq⟩
noncomputable def zlVa:GE Tryz.prog:=⟨200,[],zbIa,zNUa⟩
noncomputable def zkwa:Env:={ E0 with n:=Tryz.f98.ntmps }
structure X_ref01_Same_4 where (f0 f1:Tl) (f5:Int)
noncomputable def zopa (k_ret:Bool→Option R) (k_exit_0:Option R) (rec:X_ref01_Same_4→Option R) (x:X_ref01_Same_4):Option R :=
 cond (decide (x.f5<(x.f0.length:Int)))
 (cond (inB x.f5 x.f0.length)
 (cond (inB x.f5 x.f1.length)
 (cond ((x.f0.getD x.f5.toNat 0) != (x.f1.getD x.f5.toNat 0))
 (k_ret false)
 (rec ⟨x.f0,x.f1,(IntKind.i64.wrap (x.f5+1))⟩)) none) none)
 (k_exit_0)
noncomputable def zCoa:LB:=⟨[.d 0 A18,.d 1 A18,.d 5 A0],[(.ret,[.d 4 A22]),((.exit 0),[])]⟩
noncomputable def zRFa:LF X_ref01_Same_4:=fun _ K=>zopa (exS zCoa 0 K) (exS zCoa 1 K)
noncomputable def zDHa:Loops:=fun z i R st K=>match z,i with
 |false,4=>lpS zCoa X_ref01_Same_4.mk zRFa K st
 |_,_=>none
theorem zMNa:LOk zkwa zDHa inl0 4 Tryz.f98:=lok zCoa X_ref01_Same_4.mk (fun x=>(x.f0,x.f1,x.f5,())) zRFa 4
theorem zCLa:zsaa zkwa zDHa inl0 (body Tryz.f98.body):=lsL (.cons zMNa .nil) .nil
noncomputable def zNla (a0 a1:Tl) (K:Bool→Option R):Option R :=
 cond ((a0.length:Int) != (a1.length:Int))
 (K false)
 (loopN (zopa (fun w4 =>
 K w4) (K true)) zpaa ⟨a0,a1,0⟩)
noncomputable def zeIa:CSpec:={ ins:=[(.val (.sl 5 (.int .u8)) .s),(.val (.sl 5 (.int .u8)) .s)],outs:=[(.bool,.s)],fn:=fun d K _=>zNla d.1 d.2.1 (fun r0=>K (r0,()) ()) }
theorem zQUa:Holds Tryz.prog 98 zeIa:=hw zkwa [(4,none)] zfaa Tryz.func98 zCLa ⟨mixed,envTyOk.ty,envTyOk.eq⟩
noncomputable def zpMa:GE Tryz.prog:=⟨98,[],zeIa,zQUa⟩
noncomputable def zNQa:Nat→Bool
 |3=>true
 |_=>false
noncomputable def zrPa:Nat→Bool
 |67=>true
 |_=>false
noncomputable def zRPa:Nat→Option (List Nat)
 |0|1=>some [0]
 |2|3=>some [3]
 |4|6|13=>some [3,4]
 |5|12|14=>some []
 |7|11=>some [3,4,5]
 |8|9|10=>some [3,4,5,6]
 |_=>none
noncomputable def zqma:Env:={ mE [zkVa,zlVa,zpMa] Tryz.f174 with fz:=zNQa,sb:=zrPa,lv:=zRPa }
structure X_ref02_Valid_8 where (f3:Tl) (f4 f5 f6:Int)
noncomputable def zyma (k_exit_2:Tl→Int→Int→Option R) (rec:X_ref02_Valid_8→Option R) (x:X_ref02_Valid_8):Option R :=
 cond (decide (x.f6<x.f4))
 (cond (inB x.f6 x.f3.length)
 (cond (64 != 0)
 (rec ⟨x.f3,x.f4,(IntKind.i64.wrap ((IntKind.i64.wrap (x.f5*64))+(Int.tmod (IntKind.i64.wrap (x.f3.getD x.f6.toNat 0)) 64))),(IntKind.i64.wrap (x.f6+1))⟩) none) none)
 (k_exit_2 x.f3 x.f4 x.f5)
noncomputable def zPsa:LB:=⟨[.d 3 A18,.d 4 A0,.d 5 A0,.d 6 A0],[((.exit 2),[.d 3 A18,.d 4 A0,.d 5 A0])]⟩
noncomputable def zGCa:LF X_ref02_Valid_8:=fun _ K=>zyma (exS zPsa 0 K)
structure X_ref02_Valid_2 where (f3:Tl)
noncomputable def zzma (k_ret:Bool→Option R) (k_exit_0:Option R) (rec:X_ref02_Valid_2→Option R) (x:X_ref02_Valid_2):Option R :=
 cond (decide ((x.f3.length:Int)>0))
 (cond (inB 0 x.f3.length)
 (ziva (x.f3.getD (0:Int).toNat 0) fun r4 =>
 cond (r4==0)
 (k_ret false)
 (cond (decide (r4>(x.f3.length:Int)))
 (k_ret false)
 (cond (inB 0 x.f3.length)
 (cond (inB r4 5)
 (let v11:=List.getD (List.set (List.set (List.set (List.set (List.set (List.replicate 5 (0:Int)) 0 0) 1 128) 2 32) 3 16) 4 8) r4.toNat 0
 cond (v11 != 0)
 (loopN (zyma (fun w13 w14 w15 =>
 cond (decide (w15>1114111))
 (k_ret false)
 (let k1:Option R:=(cond (inR 0 w14 w13.length)
 (zjva w15 fun r20 =>
 zNla r20 (rng w13 0 w14) fun r21 =>
 cond (!r21)
 (k_ret false)
 (cond (inR w14 (w13.length:Int) w13.length)
 (rec ⟨(rng w13 w14 (w13.length:Int))⟩) none)) none)
 cond (decide (w15≥55296))
 (cond (decide (w15≤57343))
 (k_ret false)
 (k1))
 (k1)))) zpaa ⟨x.f3,r4,(Int.tmod (IntKind.i64.wrap (x.f3.getD (0:Int).toNat 0)) v11),1⟩) none) none) none))) none)
 (k_exit_0)
noncomputable def zjma:LB:=⟨[.d 3 A18],[(.ret,[.d 2 A22]),((.exit 0),[])]⟩
noncomputable def zHCa:LF X_ref02_Valid_2:=fun _ K=>zzma (exS zjma 0 K) (exS zjma 1 K)
noncomputable def zwva:Loops:=fun z i R st K=>match z,i with
 |false,8=>lpS zPsa X_ref02_Valid_8.mk zGCa K st
 |false,2=>lpS zjma X_ref02_Valid_2.mk zHCa K st
 |_,_=>none
theorem zkLa:LOk zqma zwva inl0 8 Tryz.f174:=lok zPsa X_ref02_Valid_8.mk (fun x=>(x.f3,x.f4,x.f5,x.f6,())) zGCa 8
theorem zlLa:LOk zqma zwva inl0 2 Tryz.f174:=lok zjma X_ref02_Valid_2.mk (fun x=>(x.f3,())) zHCa 2
theorem zAJa:zsaa zqma zwva inl0 (body Tryz.f174.body):=lsL (.cons zlLa (.cons zkLa .nil)) .nil
noncomputable def zQra (a0:Tb) (K:Bool→Option R):Option R :=
 cond (decide (a0.length≤most))
 (loopN (zzma (fun w2 =>
 K w2) (K true)) zpaa ⟨(nums a0)⟩) none
noncomputable def zsFa:CSpec:={ ins:=[(.val .str .s)],outs:=[(.bool,.s)],fn:=fun d K _=>zQra d.1 (fun r0=>K (r0,()) ()) }
theorem zASa:Holds Tryz.prog 174 zsFa:=hw zqma [(2,none)] zfaa Tryz.func174 zAJa ⟨mixed,envTyOk.ty,envTyOk.eq⟩
noncomputable def zQSa:GE Tryz.prog:=⟨174,[],zsFa,zASa⟩
noncomputable def zeRa:Env:=mE [zZza,zQSa] Tryz.f151
noncomputable def zZpa (a0:Tl) (K:Tb→Int→Int→Option R):Option R :=
 zeka a0 32 fun r1 r2 r3 =>
 cond (r3 != 0)
 (K [] 0 r3)
 (cond (inR r2 (a0.length:Int) a0.length)
 (let v5:=rng a0 r2 (a0.length:Int)
 cond (decide (r1>(IntKind.u64.wrap (v5.length:Int))))
 (K [] 0 1)
 (cond (inR 0 r1 v5.length)
 (let v10:=u8s (rng v5 0 r1)
 zQra v10 fun r11 =>
 cond (!r11)
 (K [] 0 2)
 (cond (decide (r1>64))
 (K [] 0 4)
 (K v10 (IntKind.i64.wrap (r2+(IntKind.i64.wrap r1))) 0))) none)) none)
noncomputable def zcIa:CSpec:={ ins:=[(.val (.sl 5 (.int .u8)) .s)],outs:=[(.str,.s),((.int .i64),.s),((.int .i64),.s)],fn:=fun d K _=>zZpa d.1 (fun r0 r1 r2=>K (r0,r1,r2,()) ()) }
theorem zOUa:Holds Tryz.prog 151 zcIa:=hw zeRa [(2,none),(3,none),(4,none)] (lp:=lp0) (code:=body Tryz.f151.body) zfaa Tryz.func151 l0 ⟨mixed,envTyOk.ty,envTyOk.eq⟩
noncomputable def zoMa:GE Tryz.prog:=⟨151,[],zcIa,zOUa⟩
noncomputable def zBMa:Env:=mE [zoMa] Tryz.f96
noncomputable def zHoa (a0:Tl) (K:Tb→Tl→Int→Option R):Option R :=
 zZpa a0 fun r1 r2 r3 =>
 cond (r3 != 0)
 (K [] [] r3)
 (cond (inR r2 (a0.length:Int) a0.length)
 (K r1 (rng a0 r2 (a0.length:Int)) 0) none)
noncomputable def zbCa:CSpec:={ ins:=[(.val (.sl 5 (.int .u8)) .s)],outs:=[(.str,.s),((.sl 5 (.int .u8)),.s),((.int .i64),.s)],fn:=fun d K _=>zHoa d.1 (fun r0 r1 r2=>K (r0,r1,r2,()) ()) }
theorem zgQa:Holds Tryz.prog 96 zbCa:=hw zBMa [(2,none),(3,none),(4,none)] (lp:=lp0) (code:=body Tryz.f96.body) zfaa Tryz.func96 l0 ⟨mixed,envTyOk.ty,envTyOk.eq⟩
noncomputable def zxQa:GE Tryz.prog:=⟨96,[],zbCa,zgQa⟩
noncomputable def zdDa:TypeId→Md
 |42=>(.p .s (.p (.o .s) (.p (.o .s) .s)))
 |_ => .s
noncomputable def zpBa:Env:={ E0 with n:=Tryz.f175.ntmps,om:=zdDa }
noncomputable def zNaa (a0:Tc) (K:Tl→Tc→Option R):Option R :=
 cond (a0.2.2.1 != 0)
 (K [] a0)
 (cond (inR a0.2.1 (a0.1.length:Int) a0.1.length)
 (K (rng a0.1 a0.2.1 (a0.1.length:Int)) a0) none)
noncomputable def zQqa:CSpec:={ ins:=[(.ref Ty34 .s .s)],outs:=[((.sl 5 (.int .u8)),.s)],fn:=fun d K _=>zNaa d.1 (fun r0 b0=>K ((r0,()):(List (Int))×Unit) ((b0,()):((List (Int))×(Int)×(Int)×Unit)×Unit)) }
theorem zQEa:Holds Tryz.prog 175 zQqa:=hw zpBa [(2,none)] (lp:=lp0) (code:=body Tryz.f175.body) zfaa Tryz.func175 l0 ⟨mixed,envTyOk.ty,envTyOk.eq⟩
noncomputable def zMda:GE Tryz.prog:=⟨175,[],zQqa,zQEa⟩
noncomputable def zgDa:TypeId→Md
 |42=>(.p .s (.p (.o .s) (.p (.o .s) .s)))
 |_ => .s
noncomputable def zsBa:Env:={ E0 with n:=Tryz.f176.ntmps,om:=zgDa }
noncomputable def zOaa (a0:Tc) (a1 a2:Int) (K:Tc→Option R):Option R :=
 cond (a0.2.2.1==0)
 (K (a0.1,((IntKind.i64.wrap (a0.2.1+a1)),(a2,a0.2.2.2))))
 (K a0)
noncomputable def zTqa:CSpec:={ ins:=[(.ref Ty34 .s .s),(.val (.int .i64) .s),(.val (.int .i64) .s)],outs:=[],fn:=fun d K _=>zOaa d.1 d.2.1 d.2.2.1 (fun b0=>K ((()):Unit) ((b0,()):((List (Int))×(Int)×(Int)×Unit)×Unit)) }
theorem zTEa:Holds Tryz.prog 176 zTqa:=hw zsBa [] (lp:=lp0) (code:=body Tryz.f176.body) zfaa Tryz.func176 l0 ⟨mixed,envTyOk.ty,envTyOk.eq⟩
noncomputable def zNda:GE Tryz.prog:=⟨176,[],zTqa,zTEa⟩
noncomputable def zxEa:TypeId→Md
 |42=>(.p .s (.p (.o .s) (.p (.o .s) .s)))
 |_ => .s
noncomputable def zTDa:Env:={ mE [zMda,zZza,zNda] Tryz.f152 with om:=zxEa,al:=[0,6,7,8,12,18] }
noncomputable def zoaa (a0:Tc) (K:Int→Tc→Option R):Option R :=
 cond (a0.2.2.1 != 0)
 (K 0 a0)
 (zNaa a0 fun r2 b3 =>
 zeka r2 32 fun r4 r5 r6 =>
 zOaa b3 r5 r6 fun b7 =>
 K (IntKind.i64.wrap r4) b7)
noncomputable def zyka:CSpec:={ ins:=[(.ref Ty34 .s .s)],outs:=[((.int .i64),.s)],fn:=fun d K _=>zoaa d.1 (fun r0 b0=>K ((r0,()):Int×Unit) ((b0,()):((List (Int))×(Int)×(Int)×Unit)×Unit)) }
theorem zVta:Holds Tryz.prog 152 zyka:=hw zTDa [(2,none)] (lp:=lp0) (code:=body Tryz.f152.body) zfaa Tryz.func152 l0 ⟨mixed,envTyOk.ty,envTyOk.eq⟩
noncomputable def zuea:GE Tryz.prog:=⟨152,[],zyka,zVta⟩
noncomputable def zcDa:TypeId→Md
 |42=>(.p .s (.p (.o .s) (.p (.o .s) .s)))
 |_ => .s
noncomputable def zoBa:Env:={ E0 with n:=Tryz.f153.ntmps,om:=zcDa }
noncomputable def zbaa (a0:Tc) (a1:Int) (K:Tc→Option R):Option R :=
 cond (a0.2.2.1==0)
 (K (a0.1,(a0.2.1,(a1,a0.2.2.2))))
 (K a0)
noncomputable def zWia:CSpec:={ ins:=[(.ref Ty34 .s .s),(.val (.int .i64) .s)],outs:=[],fn:=fun d K _=>zbaa d.1 d.2.1 (fun b0=>K ((()):Unit) ((b0,()):((List (Int))×(Int)×(Int)×Unit)×Unit)) }
theorem zXra:Holds Tryz.prog 153 zWia:=hw zoBa [] (lp:=lp0) (code:=body Tryz.f153.body) zfaa Tryz.func153 l0 ⟨mixed,envTyOk.ty,envTyOk.eq⟩
noncomputable def znba:GE Tryz.prog:=⟨153,[],zWia,zXra⟩
noncomputable def zRAa:Nat→Bool
 |4=>true
 |7=>true
 |_=>false
noncomputable def zvAa:TypeId→Md
 |42=>(.p .s (.p (.o .s) (.p (.o .s) .s)))
 |_ => .s
noncomputable def zOda:Env:={ mE [zuea,znba,zsMa] Tryz.f177 with js:=zRAa,om:=zvAa,al:=[0,5,7,8,9,14,15,16,19,20,21,26] }
structure Y_ref08_cursor_bytes_4 where (f3:Int) (f1000000:Tc)
noncomputable def zUda (k_normal:Int→Tc→Option R) (x:Y_ref08_cursor_bytes_4):Option R :=
 cond (x.f1000000.2.2.1==0)
 (cond (decide (x.f3>(IntKind.i64.wrap ((x.f1000000.1.length:Int)-x.f1000000.2.1))))
 (zbaa x.f1000000 1 fun b5 =>
 k_normal x.f3 b5)
 (k_normal x.f3 x.f1000000))
 (k_normal x.f3 x.f1000000)
noncomputable def zLga:LB:=⟨[uAl 0 1000000 [.der],.d 3 A0,.d 1000000 B15],[(.normal,[uAl 0 1000000 [.der],.d 3 A0,.d 1000000 B15])]⟩
noncomputable def zsla:JF Y_ref08_cursor_bytes_4:=fun _ K=>zUda (exS zLga 0 K)
structure Y_ref08_cursor_bytes_7 where (f3:Int) (f1000000:Tc)
noncomputable def zfha (k_normal:Int→Tl→Tc→Option R) (x:Y_ref08_cursor_bytes_7):Option R :=
 let k1:Option R:=(let k2:Option R:=(cond (inR x.f1000000.2.1 (IntKind.i64.wrap (x.f1000000.2.1+x.f3)) x.f1000000.1.length)
 (zbqa (rng x.f1000000.1 x.f1000000.2.1 (IntKind.i64.wrap (x.f1000000.2.1+x.f3))) fun r3 =>
 k_normal x.f3 r3 x.f1000000) none)
 both
 (k2)
 (k2))
 both
 (k1)
 (both
 (k1)
 (k1))
noncomputable def zKga:LB:=⟨[uAl 0 1000000 [.der],.d 3 A0,.d 1000000 B15],[(.normal,[uAl 0 1000000 [.der],.d 3 A0,.d 4 A1,.d 1000000 B15])]⟩
noncomputable def zrla:JF Y_ref08_cursor_bytes_7:=fun _ K=>zfha (exS zKga 0 K)
noncomputable def zNha:Loops:=fun z i R st K=>match z,i with
 |true,4=>jpS zLga Y_ref08_cursor_bytes_4.mk zsla K st
 |true,7=>jpS zKga Y_ref08_cursor_bytes_7.mk zrla K st
 |_,_=>none
theorem zLva:JOk zOda zNha inl0 4 Tryz.f177:=jok zLga Y_ref08_cursor_bytes_4.mk (fun x=>(x.f3,x.f1000000,())) zsla 4
theorem zKva:JOk zOda zNha inl0 7 Tryz.f177:=jok zKga Y_ref08_cursor_bytes_7.mk (fun x=>(x.f3,x.f1000000,())) zrla 7
theorem zyva:zsaa zOda zNha inl0 (body Tryz.f177.body):=lsL .nil (.cons zKva (.cons zLva .nil))
noncomputable def zgda (a0:Tc) (K:Tl→Tc→Option R):Option R :=
 zoaa a0 fun r1 b2 =>
 zUda (fun w3 w4 =>
 cond (w4.2.2.1 != 0)
 (K [] w4)
 (zfha (fun w6 w7 w8 =>
 K w7 (w8.1,((IntKind.i64.wrap (w8.2.1+w6)),w8.2.2))) ⟨w3,w4⟩)) ⟨r1,b2⟩
noncomputable def zPha:CSpec:={ ins:=[(.ref Ty34 .s .s)],outs:=[((.sl 5 (.int .u8)),(.o .s))],fn:=fun d K _=>zgda d.1 (fun r0 b0=>K ((r0,()):(List (Int))×Unit) ((b0,()):((List (Int))×(Int)×(Int)×Unit)×Unit)) }
theorem zAqa:Holds Tryz.prog 177 zPha:=hw zOda [(2,none)] zfaa Tryz.func177 zyva ⟨mixed,envTyOk.ty,envTyOk.eq⟩
noncomputable def zLDa:GE Tryz.prog:=⟨177,[],zPha,zAqa⟩
noncomputable def zwEa:TypeId→Md
 |42=>(.p .s (.p (.o .s) (.p (.o .s) .s)))
 |_ => .s
noncomputable def zSDa:Env:={ mE [znba] Tryz.f201 with om:=zwEa,al:=[0,3,4,5,9,10,11,13,14,15,20] }
noncomputable def zLba (a0:Tc) (K:Int→Tc→Option R):Option R :=
 let k1:Option R:=(cond (a0.2.2.1 != 0)
 (K (-1) a0)
 (let v14:=IntKind.i64.wrap (a0.2.1+1)
 let k2:Option R:=(cond (inB (IntKind.i64.wrap ((IntKind.i64.wrap (a0.2.1+1))-1)) a0.1.length)
 (K (IntKind.i64.wrap (a0.1.getD (IntKind.i64.wrap ((IntKind.i64.wrap (a0.2.1+1))-1)).toNat 0)) (a0.1,(v14,a0.2.2))) none)
 both
 (k2)
 (k2)))
 cond (a0.2.2.1==0)
 (cond (decide (a0.2.1≥(a0.1.length:Int)))
 (zbaa a0 1 fun b4 =>
 cond (b4.2.2.1 != 0)
 (K (-1) b4)
 (let v6:=IntKind.i64.wrap (b4.2.1+1)
 let k3:Option R:=(cond (inB (IntKind.i64.wrap ((IntKind.i64.wrap (b4.2.1+1))-1)) b4.1.length)
 (K (IntKind.i64.wrap (b4.1.getD (IntKind.i64.wrap ((IntKind.i64.wrap (b4.2.1+1))-1)).toNat 0)) (b4.1,(v6,b4.2.2))) none)
 both
 (k3)
 (k3)))
 (k1))
 (k1)
noncomputable def zbsa:CSpec:={ ins:=[(.ref Ty34 .s .s)],outs:=[((.int .i64),.s)],fn:=fun d K _=>zLba d.1 (fun r0 b0=>K ((r0,()):Int×Unit) ((b0,()):((List (Int))×(Int)×(Int)×Unit)×Unit)) }
theorem zRGa:Holds Tryz.prog 201 zbsa:=hw zSDa [(2,none)] (lp:=lp0) (code:=body Tryz.f201.body) zfaa Tryz.func201 l0 ⟨mixed,envTyOk.ty,envTyOk.eq⟩
noncomputable def zyha:GE Tryz.prog:=⟨201,[],zbsa,zRGa⟩
noncomputable def zuAa:TypeId→Md
 |42=>(.p .s (.p (.o .s) (.p (.o .s) .s)))
 |_ => .s
noncomputable def zbza:Env:={ mE [zyha,zVGa,znba] Tryz.f178 with om:=zuAa,al:=[0,6,8,9,10,19] }
noncomputable def zoca (a0:Tc) (K:Int→Tc→Option R):Option R :=
 zLba a0 fun r1 b2 =>
 cond (b2.2.2.1 != 0)
 (K 0 b2)
 (zspa (IntKind.u8.wrap r1) fun r5 r6 =>
 zbaa b2 r6 fun b7 =>
 K r5 b7)
noncomputable def zOha:CSpec:={ ins:=[(.ref Ty34 .s .s)],outs:=[((.int .i64),.s)],fn:=fun d K _=>zoca d.1 (fun r0 b0=>K ((r0,()):Int×Unit) ((b0,()):((List (Int))×(Int)×(Int)×Unit)×Unit)) }
theorem zzqa:Holds Tryz.prog 178 zOha:=hw zbza [(2,none)] (lp:=lp0) (code:=body Tryz.f178.body) zfaa Tryz.func178 l0 ⟨mixed,envTyOk.ty,envTyOk.eq⟩
noncomputable def zKDa:GE Tryz.prog:=⟨178,[],zOha,zzqa⟩
noncomputable def ziDa:TypeId→Md
 |42=>(.p .s (.p (.o .s) (.p (.o .s) .s)))
 |_ => .s
noncomputable def ztBa:Env:={ mE [zMda,zmMa,zNda] Tryz.f179 with om:=ziDa,al:=[0,6,7,8,12,18] }
noncomputable def zXba (a0:Tc) (K:Tj→Tc→Option R):Option R :=
 cond (a0.2.2.1 != 0)
 (K [] a0)
 (zNaa a0 fun r2 b3 =>
 zXpa r2 fun r4 r5 r6 =>
 zOaa b3 r5 r6 fun b7 =>
 K r4 b7)
noncomputable def zXia:CSpec:={ ins:=[(.ref Ty34 .s .s)],outs:=[((.sl 45 (.pair (.int .i64) (.pair (.int .i64) Ty0))),(.o .s))],fn:=fun d K _=>zXba d.1 (fun r0 b0=>K ((r0,()):(List ((Int)×(Int)×(Int)×(Int)×(List (Int))×Unit))×Unit) ((b0,()):((List (Int))×(Int)×(Int)×Unit)×Unit)) }
theorem zYra:Holds Tryz.prog 179 zXia:=hw ztBa [(2,none)] (lp:=lp0) (code:=body Tryz.f179.body) zfaa Tryz.func179 l0 ⟨mixed,envTyOk.ty,envTyOk.eq⟩
noncomputable def zZra:GE Tryz.prog:=⟨179,[],zXia,zYra⟩
noncomputable def zhwa:Env:=mE [zZza,zVGa] Tryz.f202
structure X_ref05_vals_8 where (f0:Tl) (f1 f7:Int) (f10:Tl)
noncomputable def zkpa (k_ret:Tl→Int→Int→Option R) (k_exit_0:Int→Tl→Option R) (rec:X_ref05_vals_8→Option R) (x:X_ref05_vals_8):Option R :=
 cond (decide ((x.f10.length:Int)<(IntKind.i64.wrap x.f7)))
 (cond (decide (x.f1≥(x.f0.length:Int)))
 (k_ret [] 0 1)
 (cond (inB x.f1 x.f0.length)
 (zspa (x.f0.getD x.f1.toNat 0) fun r7 r8 =>
 cond (r8 != 0)
 (k_ret [] 0 r8)
 (let v10:=List.set (List.replicate 1 (0:Int)) 0 r7
 cond (decide (x.f10.length+v10.length≤most))
 (rec ⟨x.f0,(IntKind.i64.wrap (x.f1+1)),x.f7,(x.f10++v10)⟩) none)) none))
 (k_exit_0 x.f1 x.f10)
noncomputable def zBoa:LB:=⟨[.d 0 A18,.d 1 A0,.d 7 A16,.d 10 A5],[(.ret,[.d 4 A5,.d 5 A0,.d 6 A0]),((.exit 0),[.d 1 A0,.d 10 A5])]⟩
noncomputable def zNFa:LF X_ref05_vals_8:=fun _ K=>zkpa (exS zBoa 0 K) (exS zBoa 1 K)
noncomputable def zAHa:Loops:=fun z i R st K=>match z,i with
 |false,8=>lpS zBoa X_ref05_vals_8.mk zNFa K st
 |_,_=>none
theorem zINa:LOk zhwa zAHa inl0 8 Tryz.f202:=lok zBoa X_ref05_vals_8.mk (fun x=>(x.f0,x.f1,x.f7,x.f10,())) zNFa 8
theorem zzLa:zsaa zhwa zAHa inl0 (body Tryz.f202.body):=lsL (.cons zINa .nil) .nil
noncomputable def zYpa (a0:Tl) (a1:Int) (K:Tl→Int→Int→Option R):Option R :=
 cond (inR a1 (a0.length:Int) a0.length)
 (zeka (rng a0 a1 (a0.length:Int)) 32 fun r2 r3 r4 =>
 cond (r4 != 0)
 (K [] 0 r4)
 (cond (decide (r2>8))
 (K [] 0 4)
 (loopN (zkpa (fun w8 w9 w10 =>
 K w8 w9 w10) (fun w11 w12 =>
 K w12 w11 0)) zpaa ⟨a0,(IntKind.i64.wrap (a1+r3)),r2,[]⟩))) none
noncomputable def zVHa:CSpec:={ ins:=[(.val (.sl 5 (.int .u8)) .s),(.val (.int .i64) .s)],outs:=[((.sl 3 (.int .i64)),(.o .s)),((.int .i64),.s),((.int .i64),.s)],fn:=fun d K _=>zYpa d.1 d.2.1 (fun r0 r1 r2=>K (r0,r1,r2,()) ()) }
theorem zHUa:Holds Tryz.prog 202 zVHa:=hw zhwa [(4,none),(5,none),(6,none)] zfaa Tryz.func202 zzLa ⟨mixed,envTyOk.ty,envTyOk.eq⟩
noncomputable def zfVa:GE Tryz.prog:=⟨202,[],zVHa,zHUa⟩
noncomputable def zaRa:Env:=mE [zfVa] Tryz.f180
noncomputable def zgva (a0:Tl) (K:Tq→Int→Int→Option R):Option R :=
 cond (decide ((a0.length:Int)<1))
 (K ([],([],())) 0 1)
 (cond (inB 0 a0.length)
 (cond ((a0.getD (0:Int).toNat 0) != 96)
 (K ([],([],())) 0 2)
 (zYpa a0 1 fun r5 r6 r7 =>
 cond (r7 != 0)
 (K ([],([],())) 0 r7)
 (zYpa a0 r6 fun r9 r10 r11 =>
 cond (r11 != 0)
 (K ([],([],())) 0 r11)
 (K (r5,(r9,())) r10 0)))) none)
noncomputable def zXHa:CSpec:={ ins:=[(.val (.sl 5 (.int .u8)) .s)],outs:=[((.pair (.sl 3 (.int .i64)) (.pair (.sl 3 (.int .i64)) .unit)),(.p (.o .s) (.p (.o .s) .s))),((.int .i64),.s),((.int .i64),.s)],fn:=fun d K _=>zgva d.1 (fun r0 r1 r2=>K (r0,r1,r2,()) ()) }
theorem zJUa:Holds Tryz.prog 180 zXHa:=hw zaRa [(2,some 51),(3,none),(4,none)] (lp:=lp0) (code:=body Tryz.f180.body) zfaa Tryz.func180 l0 ⟨mixed,envTyOk.ty,envTyOk.eq⟩
noncomputable def zhVa:GE Tryz.prog:=⟨180,[],zXHa,zJUa⟩
noncomputable def zeDa:TypeId→Md
 |42=>(.p .s (.p (.o .s) (.p (.o .s) .s)))
 |_ => .s
noncomputable def zqBa:Env:={ mE [zMda,zoMa,zNda] Tryz.f181 with om:=zeDa,al:=[0,6,7,8,12,18] }
noncomputable def zGca (a0:Tc) (K:Tb→Tc→Option R):Option R :=
 cond (a0.2.2.1 != 0)
 (K [] a0)
 (zNaa a0 fun r2 b3 =>
 zZpa r2 fun r4 r5 r6 =>
 zOaa b3 r5 r6 fun b7 =>
 K r4 b7)
noncomputable def zRqa:CSpec:={ ins:=[(.ref Ty34 .s .s)],outs:=[(.str,.s)],fn:=fun d K _=>zGca d.1 (fun r0 b0=>K ((r0,()):(List UInt8)×Unit) ((b0,()):((List (Int))×(Int)×(Int)×Unit)×Unit)) }
theorem zREa:Holds Tryz.prog 181 zRqa:=hw zqBa [(2,none)] (lp:=lp0) (code:=body Tryz.f181.body) zfaa Tryz.func181 l0 ⟨mixed,envTyOk.ty,envTyOk.eq⟩
noncomputable def zZEa:GE Tryz.prog:=⟨181,[],zRqa,zREa⟩
noncomputable def zwAa:TypeId→Md
 |42=>(.p .s (.p (.o .s) (.p (.o .s) .s)))
 |_ => .s
noncomputable def zcza:Env:={ mE [zyha,znba] Tryz.f182 with om:=zwAa,al:=[0,6,11] }
noncomputable def zuba (a0:Tc) (a1:Int) (K:Int→Tc→Option R):Option R :=
 zLba a0 fun r1 b2 =>
 cond (decide (r1≥a1))
 (zbaa b2 2 fun b4 =>
 K r1 b4)
 (K r1 b2)
noncomputable def zpoa:CSpec:={ ins:=[(.ref Ty34 .s .s),(.val (.int .i64) .s)],outs:=[((.int .i64),.s)],fn:=fun d K _=>zuba d.1 d.2.1 (fun r0 b0=>K ((r0,()):Int×Unit) ((b0,()):((List (Int))×(Int)×(Int)×Unit)×Unit)) }
theorem zGDa:Holds Tryz.prog 182 zpoa:=hw zcza [(4,none)] (lp:=lp0) (code:=body Tryz.f182.body) zfaa Tryz.func182 l0 ⟨mixed,envTyOk.ty,envTyOk.eq⟩
noncomputable def zCqa:GE Tryz.prog:=⟨182,[],zpoa,zGDa⟩
noncomputable def zhxa:TypeId→Md
 |42=>(.p .s (.p (.o .s) (.p (.o .s) .s)))
 |_ => .s
noncomputable def zewa:Env:={ mE [zyha,znba] Tryz.f183 with om:=zhxa,al:=[0,3,7,11] }
noncomputable def ztba (a0:Tc) (K:Tc→Option R):Option R :=
 zLba a0 fun r1 b2 =>
 cond (r1==111)
 (zbaa b2 3 fun b4 =>
 cond (r1 != 112)
 (zbaa b4 2 fun b6 =>
 K b6)
 (K b4))
 (cond (r1 != 112)
 (zbaa b2 2 fun b8 =>
 K b8)
 (K b2))
noncomputable def zDla:CSpec:={ ins:=[(.ref Ty34 .s .s)],outs:=[],fn:=fun d K _=>ztba d.1 (fun b0=>K ((()):Unit) ((b0,()):((List (Int))×(Int)×(Int)×Unit)×Unit)) }
theorem zRya:Holds Tryz.prog 183 zDla:=hw zewa [] (lp:=lp0) (code:=body Tryz.f183.body) zfaa Tryz.func183 l0 ⟨mixed,envTyOk.ty,envTyOk.eq⟩
noncomputable def zVma:GE Tryz.prog:=⟨183,[],zDla,zRya⟩
noncomputable def zUNa:Nat→Option (List Nat)
 |0=>some [0]
 |1|3|5=>some [0,2]
 |2|4=>some [2]
 |6=>some [0,2,5]
 |7|15=>some [0,2,5,6]
 |8|9|10=>some [0,2,5,6,7]
 |11=>some [0,2,5,6,7,8,9,10]
 |12=>some [2,10]
 |13=>some [0,2,5,6,7,8,9]
 |14=>some [0,2,5,6,7,9]
 |_=>none
noncomputable def zIqa:Env:={ mE [zZza] Tryz.f203 with lv:=zUNa }
structure zxea where (f0:Tl) (f2:Tm) (f5:Tl) (f6 f7:Int)
noncomputable def zbla (k_ret:Tm→Int→Int→Option R) (k_exit_0:Tl→Tm→Tl→Int→Option R) (rec:zxea→Option R) (x:zxea):Option R :=
 cond (inB 0 x.f0.length)
 (cond (decide (x.f7≤(IntKind.i64.wrap (x.f0.getD (0:Int).toNat 0))))
 (cond (inR x.f6 (x.f0.length:Int) x.f0.length)
 (zeka (rng x.f0 x.f6 (x.f0.length:Int)) 32 fun r5 r6 r7 =>
 cond (r7 != 0)
 (k_ret (0,(false,(0,()))) 0 r7)
 (cond (inB x.f7 2)
 (rec ⟨x.f0,x.f2,(List.set x.f5 x.f7.toNat (IntKind.i64.wrap r5)),(IntKind.i64.wrap (x.f6+r6)),(IntKind.i64.wrap (x.f7+1))⟩) none)) none)
 (k_exit_0 x.f0 x.f2 x.f5 x.f6)) none
noncomputable def zYMa (x:zxea):St:=St.ofList [(0,(a30 x.f0)),(2,(a42 (some x.f2))),(5,(a43 (some x.f5))),(6,(a0 x.f6)),(7,(a0 x.f7))]
def zmGa:Ex→List (Nat×Bool) | .ret=>[(2,false),(3,false),(4,false)] | .exit 0=>[(0,false),(2,false),(5,false),(6,false)]|_=>[]
def zPwa:List (Nat×Bool):=[(0,false),(2,false),(5,false),(6,false),(7,false)]
noncomputable def zKwa:Pt zxea := .s 0 A18 fun y0 => .s 2 B16 fun y2 => .s 5 B17 fun y5 => .s 6 A0 fun y6 => .s 7 A0 fun y7 => .e ⟨y0,y2,y5,y6,y7⟩
noncomputable def zLza (R:Type) (K:Ex→St→Option R):(zxea→Option R)→zxea→Option R:=zbla (fun e2 e3 e4=>K .ret (St.ofList [(2,(a42 (some e2))),(3,(a0 e3)),(4,(a0 e4))])) (fun e0 e2 e5 e6=>K (.exit 0) (St.ofList [(0,(a30 e0)),(2,(a42 (some e2))),(5,(a43 (some e5))),(6,(a0 e6))]))
noncomputable def zEBa:Loops:=fun z i R st K=>match z,i with
 |false,8=>lpE zPwa zKwa (lpL zLza K) st
 |_,_=>none
theorem znJa:LOk zIqa zEBa inl0 8 Tryz.f203:=zPoa (hd:=zPwa) (out:=zmGa) (S:=zYMa) (B:=zLza) (p:=zKwa) (i:=8) (fun _ _ _ _=>by kernel_rfl) (fun _ _ _ _ _=>⟨rfl,rfl⟩) (by kernel_rfl) fun _ _ _=>rfl
theorem zBGa:zsaa zIqa zEBa inl0 (body Tryz.f203.body):=lsL (.cons znJa .nil) .nil
noncomputable def zJoa (a0:Tl) (K:Tm→Int→Int→Option R):Option R :=
 cond (decide ((a0.length:Int)<1))
 (K (0,(false,(0,()))) 0 1)
 (cond (inB 0 a0.length)
 (let k1:Option R:=(loopN (zbla (fun w7 w8 w9 =>
 K w7 w8 w9) (fun w10 w11 w12 w13 =>
 cond (inB 0 2)
 (cond (inB 0 w10.length)
 (let v15:=(w10.getD (0:Int).toNat 0)==1
 cond (inB 1 2)
 (both
 (K ((w12.getD (0:Int).toNat 0),(v15,((w12.getD (1:Int).toNat 0),()))) w13 0)
 (K ((w12.getD (0:Int).toNat 0),(v15,((w12.getD (1:Int).toNat 0),()))) w13 0)) none) none) none)) zpaa ⟨a0,(0,(false,(0,()))),(List.replicate 2 (0:Int)),1,0⟩)
 cond ((a0.getD (0:Int).toNat 0) != 0)
 (cond (inB 0 a0.length)
 (cond ((a0.getD (0:Int).toNat 0) != 1)
 (K (0,(false,(0,()))) 0 2)
 (k1)) none)
 (k1)) none)
noncomputable def zeCa:CSpec:={ ins:=[(.val (.sl 5 (.int .u8)) .s)],outs:=[((.pair (.int .i64) (.pair .bool (.pair (.int .i64) .unit))),.s),((.int .i64),.s),((.int .i64),.s)],fn:=fun d K _=>zJoa d.1 (fun r0 r1 r2=>K (r0,r1,r2,()) ()) }
theorem zjQa:Holds Tryz.prog 203 zeCa:=hw zIqa [(2,some 121),(3,none),(4,none)] zfaa Tryz.func203 zBGa ⟨mixed,envTyOk.ty,envTyOk.eq⟩
noncomputable def zAQa:GE Tryz.prog:=⟨203,[],zeCa,zjQa⟩
noncomputable def zVya:Nat→Bool
 |3=>true
 |_=>false
noncomputable def zeya:TypeId→Md
 |42=>(.p .s (.p (.o .s) (.p (.o .s) .s)))
 |_ => .s
noncomputable def zAxa:Env:={ mE [zMda,zAQa,zNda] Tryz.f184 with fs:=zVya,om:=zeya,al:=[0,6,7,8,13,19] }
noncomputable def zUaa (a0:Tc) (K:Tm→Tc→Option R):Option R :=
 cond (a0.2.2.1 != 0)
 (K (0,(false,(0,()))) a0)
 (zNaa a0 fun r2 b3 =>
 zJoa r2 fun r4 r5 r6 =>
 zOaa b3 r5 r6 fun b7 =>
 K r4 b7)
noncomputable def zYma:CSpec:={ ins:=[(.ref Ty34 .s .s)],outs:=[((.pair (.int .i64) (.pair .bool (.pair (.int .i64) .unit))),.s)],fn:=fun d K _=>zUaa d.1 (fun r0 b0=>K ((r0,()):((Int)×(Bool)×(Int)×Unit)×Unit) ((b0,()):((List (Int))×(Int)×(Int)×Unit)×Unit)) }
theorem zgBa:Holds Tryz.prog 184 zYma:=hw zAxa [(2,some 121)] (lp:=lp0) (code:=body Tryz.f184.body) zfaa Tryz.func184 l0 ⟨mixed,envTyOk.ty,envTyOk.eq⟩
noncomputable def zjBa:GE Tryz.prog:=⟨184,[],zYma,zgBa⟩
noncomputable def zfDa:TypeId→Md
 |42=>(.p .s (.p (.o .s) (.p (.o .s) .s)))
 |_ => .s
noncomputable def zrBa:Env:={ mE [zuea,znba] Tryz.f204 with om:=zfDa,al:=[0,4,8] }
noncomputable def zcga (a0:Tc) (K:Int→Tc→Option R):Option R :=
 zoaa a0 fun r1 b2 =>
 cond (decide (r1>64))
 (zbaa b2 4 fun b4 =>
 cond (b4.2.2.1 != 0)
 (K 0 b4)
 (K r1 b4))
 (cond (b2.2.2.1 != 0)
 (K 0 b2)
 (K r1 b2))
noncomputable def zSqa:CSpec:={ ins:=[(.ref Ty34 .s .s)],outs:=[((.int .i64),.s)],fn:=fun d K _=>zcga d.1 (fun r0 b0=>K ((r0,()):Int×Unit) ((b0,()):((List (Int))×(Int)×(Int)×Unit)×Unit)) }
theorem zSEa:Holds Tryz.prog 204 zSqa:=hw zrBa [(2,none)] (lp:=lp0) (code:=body Tryz.f204.body) zfaa Tryz.func204 l0 ⟨mixed,envTyOk.ty,envTyOk.eq⟩
noncomputable def zaFa:GE Tryz.prog:=⟨204,[],zSqa,zSEa⟩
noncomputable def zwDa:Nat→Bool
 |14=>true
 |16=>true
 |18=>true
 |20=>true
 |22=>true
 |23=>true
 |25=>true
 |32=>true
 |34=>true
 |_=>false
noncomputable def zsDa:Nat→Option (List Nat)
 |0=>some [0,1000000]
 |1=>some [0,2,1000000]
 |2|4=>some [0,2,3,1000000]
 |3|6|8|10|12|13|14|15|16|17|18|19|20=>some [0,2,3,4,1000000]
 |5|35=>some [2,3,1000000]
 |7|9|11=>some [0,2,3,4,15,1000000]
 |21|22|23|24|25|29=>some [0,2,3,4,5,1000000]
 |26|27|31|32|33|34=>some [0,2,3,4,5,6,1000000]
 |28|30=>some [0,2,3,4,5,6,70,1000000]
 |_=>none
noncomputable def zhDa:TypeId→Md
 |42=>(.p .s (.p (.o .s) (.p (.o .s) .s)))
 |_ => .s
noncomputable def zAaa:Env:={ mE [zuea,znba,zZra,zVma,zCqa,zaFa,zyha] Tryz.f185 with js:=zwDa,lv:=zsDa,om:=zhDa,al:=[0,7,11,24,27,32,37,45,47,64,69,71,75,79,81,84] }
structure Y_ref08_cursor_elem_23 where (f2 f3:(Int)×It17) (f4 f5:Int) (f1000000:Tc)
noncomputable def zdha (k_normal:((Int)×It17)→((Int)×It17)→Int→Int→Tc→Option R) (k_exit_1:((Int)×It17)→((Int)×It17)→Tc→Option R) (x:Y_ref08_cursor_elem_23):Option R :=
 cond (decide (x.f5>0))
 (cond (x.f1000000.2.2.1==0)
 (k_normal x.f2 x.f3 x.f4 x.f5 x.f1000000)
 (k_exit_1 x.f2 x.f3 x.f1000000))
 (k_exit_1 x.f2 x.f3 x.f1000000)
noncomputable def zFda:LB:=⟨[uAl 0 1000000 [.der],.d 2 B18,.d 3 B18,.d 4 A0,.d 5 A0,.d 1000000 B15],[(.normal,[uAl 0 1000000 [.der],.d 2 B18,.d 3 B18,.d 4 A0,.d 5 A0,.d 1000000 B15]),((.exit 1),[.d 2 B18,.d 3 B18,.d 1000000 B15])]⟩
noncomputable def zlla:JF Y_ref08_cursor_elem_23:=fun _ K=>zdha (exS zFda 0 K) (exS zFda 1 K)
structure Y_ref08_cursor_elem_25 where (f2 f3:(Int)×It17) (f4 f5:Int) (f1000000:Tc)
noncomputable def zcha (k_exit_2:((Int)×It17)→((Int)×It17)→Int→Int→Tc→Option R) (k_normal:((Int)×It17)→((Int)×It17)→Int→Int→Tc→Option R) (x:Y_ref08_cursor_elem_25):Option R :=
 cond (decide (x.f4<4))
 (both
 (zoaa x.f1000000 fun r2 b3 =>
 let v4:=List.set (List.replicate 1 (0:Int)) 0 r2
 cond (decide (x.f3.2.2.1.length+v4.length≤most))
 (k_exit_2 x.f2 (x.f3.1,(x.f3.2.1,((x.f3.2.2.1++v4),x.f3.2.2.2))) x.f4 x.f5 b3) none)
 (zoaa x.f1000000 fun r6 b7 =>
 let k1:Option R:=(cond (decide (x.f3.2.2.1.length+List.length (List.set (List.replicate 1 (0:Int)) 0 r6)≤most))
 (k_exit_2 x.f2 (x.f3.1,(x.f3.2.1,((x.f3.2.2.1++(List.set (List.replicate 1 (0:Int)) 0 r6)),x.f3.2.2.2))) x.f4 x.f5 b7) none)
 both
 (k1)
 (k1)))
 (k_normal x.f2 x.f3 x.f4 x.f5 x.f1000000)
noncomputable def zEda:LB:=⟨[uAl 0 1000000 [.der],.d 2 B18,.d 3 B18,.d 4 A0,.d 5 A0,.d 1000000 B15],[((.exit 2),[uAl 0 1000000 [.der],.d 2 B18,.d 3 B18,.d 4 A0,.d 5 A0,.d 1000000 B15]),(.normal,[uAl 0 1000000 [.der],.d 2 B18,.d 3 B18,.d 4 A0,.d 5 A0,.d 1000000 B15])]⟩
noncomputable def zkla:JF Y_ref08_cursor_elem_25:=fun _ K=>zcha (exS zEda 0 K) (exS zEda 1 K)
structure Y_ref08_cursor_elem_32 where (f2 f3:(Int)×It17) (f4 f5 f6:Int) (f1000000:Tc)
noncomputable def zbha (k_normal:((Int)×It17)→((Int)×It17)→Int→Int→Int→Tc→Option R) (x:Y_ref08_cursor_elem_32):Option R :=
 zLba x.f1000000 fun r1 b2 =>
 cond (r1==210)
 (zoaa b2 fun r4 b5 =>
 k_normal x.f2 x.f3 x.f4 x.f5 r4 b5)
 (cond (r1==208)
 (ztba b2 fun b7 =>
 k_normal x.f2 x.f3 x.f4 x.f5 x.f6 b7)
 (zbaa b2 3 fun b8 =>
 k_normal x.f2 x.f3 x.f4 x.f5 x.f6 b8))
noncomputable def zEga:LB:=⟨[uAl 0 1000000 [.der],.d 2 B18,.d 3 B18,.d 4 A0,.d 5 A0,.d 6 A0,.d 1000000 B15],[(.normal,[uAl 0 1000000 [.der],.d 2 B18,.d 3 B18,.d 4 A0,.d 5 A0,.d 6 A0,.d 1000000 B15])]⟩
noncomputable def zjla:JF Y_ref08_cursor_elem_32:=fun _ K=>zbha (exS zEga 0 K)
structure Y_ref08_cursor_elem_34 where (f2 f3:(Int)×It17) (f4 f5 f6:Int) (f1000000:Tc)
noncomputable def zaha (k_normal:((Int)×It17)→((Int)×It17)→Int→Int→Int→Tc→Option R) (x:Y_ref08_cursor_elem_34):Option R :=
 zLba x.f1000000 fun r1 b2 =>
 cond (r1 != 11)
 (zbaa b2 2 fun b4 =>
 k_normal x.f2 x.f3 x.f4 x.f5 x.f6 b4)
 (k_normal x.f2 x.f3 x.f4 x.f5 x.f6 b2)
noncomputable def zDga:LB:=⟨[uAl 0 1000000 [.der],.d 2 B18,.d 3 B18,.d 4 A0,.d 5 A0,.d 6 A0,.d 1000000 B15],[(.normal,[uAl 0 1000000 [.der],.d 2 B18,.d 3 B18,.d 4 A0,.d 5 A0,.d 6 A0,.d 1000000 B15])]⟩
noncomputable def zila:JF Y_ref08_cursor_elem_34:=fun _ K=>zaha (exS zDga 0 K)
structure Y_ref08_cursor_elem_22 where (f2 f3:(Int)×It17) (f4 f5:Int) (f1000000:Tc)
noncomputable def zeha (k_normal:((Int)×It17)→((Int)×It17)→Int→Int→Tc→Option R) (x:Y_ref08_cursor_elem_22):Option R :=
 zcha (fun w1 w2 w3 w4 w5 =>
 k_normal w1 w2 w3 w4 w5) (fun w6 w7 w8 w9 w10 =>
 zbha (fun w11 w12 w13 w14 w15 w16 =>
 zaha (fun w17 w18 w19 w20 w21 w22 =>
 let v23:=List.set (List.replicate 1 (0:Int)) 0 w21
 cond (decide (w18.2.2.1.length+v23.length≤most))
 (k_normal w17 (w18.1,(w18.2.1,((w18.2.2.1++v23),w18.2.2.2))) w19 w20 w22) none) ⟨w11,w12,w13,w14,w15,w16⟩) ⟨w6,w7,w8,w9,(-1),w10⟩) ⟨x.f2,x.f3,x.f4,x.f5,x.f1000000⟩
noncomputable def zFga:LB:=⟨[uAl 0 1000000 [.der],.d 2 B18,.d 3 B18,.d 4 A0,.d 5 A0,.d 1000000 B15],[(.normal,[uAl 0 1000000 [.der],.d 2 B18,.d 3 B18,.d 4 A0,.d 5 A0,.d 1000000 B15])]⟩
noncomputable def zmla:JF Y_ref08_cursor_elem_22:=fun _ K=>zeha (exS zFga 0 K)
structure X_ref08_cursor_elem_21 where (f2 f3:(Int)×It17) (f4 f5:Int) (f1000000:Tc)
noncomputable def zWda (k_exit_1:((Int)×It17)→((Int)×It17)→Tc→Option R) (rec:X_ref08_cursor_elem_21→Option R) (x:X_ref08_cursor_elem_21):Option R :=
 zdha (fun w1 w2 w3 w4 w5 =>
 zeha (fun w6 w7 w8 w9 w10 =>
 rec ⟨w6,w7,w8,(IntKind.i64.wrap (w9-1)),w10⟩) ⟨w1,w2,w3,w4,w5⟩) (fun w12 w13 w14 =>
 k_exit_1 w12 w13 w14) ⟨x.f2,x.f3,x.f4,x.f5,x.f1000000⟩
noncomputable def zMga:LB:=⟨[uAl 0 1000000 [.der],.d 2 B18,.d 3 B18,.d 4 A0,.d 5 A0,.d 1000000 B15],[((.exit 1),[.d 2 B18,.d 3 B18,.d 1000000 B15])]⟩
noncomputable def zcna:LF X_ref08_cursor_elem_21:=fun _ K=>zWda (exS zMga 0 K)
structure Y_ref08_cursor_elem_14 where (f2 f3:(Int)×It17) (f4:Int) (f1000000:Tc)
noncomputable def zTda (k_normal:((Int)×It17)→((Int)×It17)→Int→Tc→Option R) (x:Y_ref08_cursor_elem_14):Option R :=
 cond (4 != 0)
 (let v1:=Int.tmod x.f4 4
 cond (v1==1)
 (k_normal x.f2 (1,x.f3.2) x.f4 x.f1000000)
 (cond (v1==3)
 (k_normal x.f2 (2,x.f3.2) x.f4 x.f1000000)
 (cond (v1==2)
 (zoaa x.f1000000 fun r5 b6 =>
 cond (r5 != 0)
 (zbaa b6 3 fun b8 =>
 k_normal x.f2 x.f3 x.f4 b8)
 (k_normal x.f2 x.f3 x.f4 b6))
 (k_normal x.f2 x.f3 x.f4 x.f1000000)))) none
noncomputable def zJga:LB:=⟨[uAl 0 1000000 [.der],.d 2 B18,.d 3 B18,.d 4 A0,.d 1000000 B15],[(.normal,[uAl 0 1000000 [.der],.d 2 B18,.d 3 B18,.d 4 A0,.d 1000000 B15])]⟩
noncomputable def zqla:JF Y_ref08_cursor_elem_14:=fun _ K=>zTda (exS zJga 0 K)
structure Y_ref08_cursor_elem_16 where (f2 f3:(Int)×It17) (f4:Int) (f1000000:Tc)
noncomputable def zSda (k_normal:((Int)×It17)→((Int)×It17)→Int→Tc→Option R) (x:Y_ref08_cursor_elem_16):Option R :=
 cond (2 != 0)
 (cond ((Int.tmod x.f4 2)==0)
 (zXba x.f1000000 fun r3 b4 =>
 k_normal x.f2 (x.f3.1,(r3,x.f3.2.2)) x.f4 b4)
 (k_normal x.f2 x.f3 x.f4 x.f1000000)) none
noncomputable def zIga:LB:=⟨[uAl 0 1000000 [.der],.d 2 B18,.d 3 B18,.d 4 A0,.d 1000000 B15],[(.normal,[uAl 0 1000000 [.der],.d 2 B18,.d 3 B18,.d 4 A0,.d 1000000 B15])]⟩
noncomputable def zpla:JF Y_ref08_cursor_elem_16:=fun _ K=>zSda (exS zIga 0 K)
structure Y_ref08_cursor_elem_18 where (f2 f3:(Int)×It17) (f4:Int) (f1000000:Tc)
noncomputable def zRda (k_normal:((Int)×It17)→((Int)×It17)→Int→Tc→Option R) (x:Y_ref08_cursor_elem_18):Option R :=
 cond (decide (x.f4>4))
 (ztba x.f1000000 fun b2 =>
 k_normal x.f2 x.f3 x.f4 b2)
 (k_normal x.f2 x.f3 x.f4 x.f1000000)
noncomputable def zHga:LB:=⟨[uAl 0 1000000 [.der],.d 2 B18,.d 3 B18,.d 4 A0,.d 1000000 B15],[(.normal,[uAl 0 1000000 [.der],.d 2 B18,.d 3 B18,.d 4 A0,.d 1000000 B15])]⟩
noncomputable def zola:JF Y_ref08_cursor_elem_18:=fun _ K=>zRda (exS zHga 0 K)
structure Y_ref08_cursor_elem_20 where (f2 f3:(Int)×It17) (f4:Int) (f1000000:Tc)
noncomputable def zQda (k_normal:((Int)×It17)→((Int)×It17)→Int→Tc→Option R) (x:Y_ref08_cursor_elem_20):Option R :=
 cond (decide (x.f4>0))
 (cond (decide (x.f4<4))
 (zuba x.f1000000 1 fun r3 b4 =>
 k_normal x.f2 x.f3 x.f4 b4)
 (k_normal x.f2 x.f3 x.f4 x.f1000000))
 (k_normal x.f2 x.f3 x.f4 x.f1000000)
noncomputable def zGga:LB:=⟨[uAl 0 1000000 [.der],.d 2 B18,.d 3 B18,.d 4 A0,.d 1000000 B15],[(.normal,[uAl 0 1000000 [.der],.d 2 B18,.d 3 B18,.d 4 A0,.d 1000000 B15])]⟩
noncomputable def znla:JF Y_ref08_cursor_elem_20:=fun _ K=>zQda (exS zGga 0 K)
noncomputable def zHaa:Loops:=fun z i R st K=>match z,i with
 |false,21=>lpS zMga X_ref08_cursor_elem_21.mk zcna K st
 |true,23=>jpS zFda Y_ref08_cursor_elem_23.mk zlla K st
 |true,25=>jpS zEda Y_ref08_cursor_elem_25.mk zkla K st
 |true,32=>jpS zEga Y_ref08_cursor_elem_32.mk zjla K st
 |true,34=>jpS zDga Y_ref08_cursor_elem_34.mk zila K st
 |true,22=>jpS zFga Y_ref08_cursor_elem_22.mk zmla K st
 |true,14=>jpS zJga Y_ref08_cursor_elem_14.mk zqla K st
 |true,16=>jpS zIga Y_ref08_cursor_elem_16.mk zpla K st
 |true,18=>jpS zHga Y_ref08_cursor_elem_18.mk zola K st
 |true,20=>jpS zGga Y_ref08_cursor_elem_20.mk znla K st
 |_,_=>none
theorem zEva:JOk zAaa zHaa inl0 23 Tryz.f185:=jok zFda Y_ref08_cursor_elem_23.mk (fun x=>(x.f2,x.f3,x.f4,x.f5,x.f1000000,())) zlla 23
theorem zDva:JOk zAaa zHaa inl0 25 Tryz.f185:=jok zEda Y_ref08_cursor_elem_25.mk (fun x=>(x.f2,x.f3,x.f4,x.f5,x.f1000000,())) zkla 25
theorem zCva:JOk zAaa zHaa inl0 32 Tryz.f185:=jok zEga Y_ref08_cursor_elem_32.mk (fun x=>(x.f2,x.f3,x.f4,x.f5,x.f6,x.f1000000,())) zjla 32
theorem zBva:JOk zAaa zHaa inl0 34 Tryz.f185:=jok zDga Y_ref08_cursor_elem_34.mk (fun x=>(x.f2,x.f3,x.f4,x.f5,x.f6,x.f1000000,())) zila 34
theorem zFva:JOk zAaa zHaa inl0 22 Tryz.f185:=jok zFga Y_ref08_cursor_elem_22.mk (fun x=>(x.f2,x.f3,x.f4,x.f5,x.f1000000,())) zmla 22
theorem zixa:LOk zAaa zHaa inl0 21 Tryz.f185:=lok zMga X_ref08_cursor_elem_21.mk (fun x=>(x.f2,x.f3,x.f4,x.f5,x.f1000000,())) zcna 21
theorem zJva:JOk zAaa zHaa inl0 14 Tryz.f185:=jok zJga Y_ref08_cursor_elem_14.mk (fun x=>(x.f2,x.f3,x.f4,x.f1000000,())) zqla 14
theorem zIva:JOk zAaa zHaa inl0 16 Tryz.f185:=jok zIga Y_ref08_cursor_elem_16.mk (fun x=>(x.f2,x.f3,x.f4,x.f1000000,())) zpla 16
theorem zHva:JOk zAaa zHaa inl0 18 Tryz.f185:=jok zHga Y_ref08_cursor_elem_18.mk (fun x=>(x.f2,x.f3,x.f4,x.f1000000,())) zola 18
theorem zGva:JOk zAaa zHaa inl0 20 Tryz.f185:=jok zGga Y_ref08_cursor_elem_20.mk (fun x=>(x.f2,x.f3,x.f4,x.f1000000,())) znla 20
theorem zkxa:zsaa zAaa zHaa inl0 (body Tryz.f185.body):=lsL (.cons zixa .nil) (.cons zBva (.cons zCva (.cons zDva (.cons zFva (.cons zEva (.cons zGva (.cons zHva (.cons zIva (.cons zJva .nil)))))))))
noncomputable def zHda (a0:Tc) (K:((Int)×It17)→Tc→Option R):Option R :=
 zoaa a0 fun r1 b2 =>
 cond (decide (r1>7))
 (zbaa b2 2 fun b4 =>
 K (0,([],([],()))) b4)
 (zTda (fun w5 w6 w7 w8 =>
 zSda (fun w9 w10 w11 w12 =>
 zRda (fun w13 w14 w15 w16 =>
 zQda (fun w17 w18 w19 w20 =>
 zcga w20 fun r21 b22 =>
 loopN (zWda (fun w23 w24 w25 =>
 K w24 w25)) zpaa ⟨w17,w18,w19,r21,b22⟩) ⟨w13,w14,w15,w16⟩) ⟨w9,w10,w11,w12⟩) ⟨w5,w6,w7,w8⟩) ⟨(0,([],([],()))),(0,([],([],()))),r1,b2⟩)
noncomputable def zUqa:CSpec:={ ins:=[(.ref Ty34 .s .s)],outs:=[((.pair (.int .i64) Ty25),(.p .s (.p (.o .s) (.p (.o .s) .s))))],fn:=fun d K _=>zHda d.1 (fun r0 b0=>K ((r0,()):((Int)×It17)×Unit) ((b0,()):((List (Int))×(Int)×(Int)×Unit)×Unit)) }
theorem zUEa:Holds Tryz.prog 185 zUqa:=hw zAaa [(2,some 130)] zfaa Tryz.func185 zkxa ⟨mixed,envTyOk.ty,envTyOk.eq⟩
noncomputable def zbFa:GE Tryz.prog:=⟨185,[],zUqa,zUEa⟩
noncomputable def zzxa:Nat→Bool
 |6=>true
 |_=>false
noncomputable def znxa:Nat→Bool
 |22=>true
 |49=>true
 |51=>true
 |54=>true
 |_=>false
noncomputable def zjxa:Nat→Option (List Nat)
 |0=>some [0,1,2,1000000,1000002]
 |1|6|23|25|28|30|36|42|44=>some [0,2,14,1000000,1000002]
 |2|3|7|24|26|27|29|31|37|43|45=>some [0,2,1000000,1000002]
 |4=>some [0,2,6,7,8,1000000,1000002]
 |5=>some [2,6,1000000,1000002]
 |8|9|10|11|13|15|16|18|20|21=>some [0,2,9,1000000,1000002]
 |12|14|17|19=>some [0,2,9,55,1000000,1000002]
 |22=>some [2,9,1000000,1000002]
 |32|33|34=>some [0,2,10,1000000,1000002]
 |35=>some [2,10,1000000,1000002]
 |38|39|40=>some [0,2,11,1000000,1000002]
 |41=>some [2,11,1000000,1000002]
 |46|52|53|54=>some [0,2,12,1000000,1000002]
 |47|48|49|50|51=>some [0,2,12,13,1000000,1000002]
 |55=>some [2,12,1000000,1000002]
 |_=>none
noncomputable def zgxa:TypeId→Md
 |42=>(.p .s (.p (.o .s) (.p (.o .s) .s)))
 |_ => .s
noncomputable def zzba:Env:={ mE [zMda,zhVa,zNda,zZEa,zCqa,zuea,zVma,zjBa,zKDa,zZra,zbFa,znba,zLDa] Tryz.f155 with fs:=zzxa,js:=znxa,lv:=zjxa,om:=zgxa,al:=[0,17,18,19,23,29,45,48,51,58,63,65,70,75,78,99,108,115,128,136,139,143,158,161,164,184,192,196,201,205,210,213] }
structure Y_ref08_cursor_thingm1_22 where (f9:(Tb)×It15) (f1000000:Tc) (f1000002:It21)
noncomputable def zQca (k_normal:((Tb)×It15)→Tc→It21→Option R) (x:Y_ref08_cursor_thingm1_22):Option R :=
 cond (x.f9.2.2.1==0)
 (zoaa x.f1000000 fun r2 b3 =>
 k_normal (x.f9.1,(x.f9.2.1,(x.f9.2.2.1,(r2,x.f9.2.2.2.2)))) b3 x.f1000002)
 (cond (x.f9.2.2.1==1)
 (ztba x.f1000000 fun b5 =>
 zUaa b5 fun r6 b7 =>
 k_normal (x.f9.1,(x.f9.2.1,(x.f9.2.2.1,(x.f9.2.2.2.1,(r6,x.f9.2.2.2.2.2))))) b7 x.f1000002)
 (cond (x.f9.2.2.1==2)
 (zUaa x.f1000000 fun r9 b10 =>
 k_normal (x.f9.1,(x.f9.2.1,(x.f9.2.2.1,(x.f9.2.2.2.1,(r9,x.f9.2.2.2.2.2))))) b10 x.f1000002)
 (cond (x.f9.2.2.1==3)
 (zoca x.f1000000 fun r12 b13 =>
 zuba b13 2 fun r14 b15 =>
 k_normal (x.f9.1,(x.f9.2.1,(x.f9.2.2.1,(r12,(x.f9.2.2.2.2.1,((r14==1),x.f9.2.2.2.2.2.2)))))) b15 x.f1000002)
 (k_normal x.f9 x.f1000000 x.f1000002))))
noncomputable def zlea:LB:=⟨[uAl 0 1000000 [.der],uAl 2 1000002 [.der],.d 9 B19,.d 1000000 B15,.d 1000002 B20],[(.normal,[uAl 2 1000002 [.der],.d 9 B19,.d 1000000 B15,.d 1000002 B20])]⟩
noncomputable def zZha:JF Y_ref08_cursor_thingm1_22:=fun _ K=>zQca (exS zlea 0 K)
structure Y_ref08_cursor_thingm1_49 where (f12:(Int)×It17) (f13:Int) (f1000000:Tc) (f1000002:It21)
noncomputable def zPca (k_normal:((Int)×It17)→Int→Tc→It21→Option R) (x:Y_ref08_cursor_thingm1_49):Option R :=
 cond (decide (x.f13>2))
 (zbaa x.f1000000 2 fun b2 =>
 k_normal x.f12 x.f13 b2 x.f1000002)
 (k_normal x.f12 x.f13 x.f1000000 x.f1000002)
noncomputable def zkea:LB:=⟨[uAl 0 1000000 [.der],uAl 2 1000002 [.der],.d 12 B21,.d 13 A0,.d 1000000 B15,.d 1000002 B20],[(.normal,[uAl 0 1000000 [.der],uAl 2 1000002 [.der],.d 12 B21,.d 13 A0,.d 1000000 B15,.d 1000002 B20])]⟩
noncomputable def zYha:JF Y_ref08_cursor_thingm1_49:=fun _ K=>zPca (exS zkea 0 K)
structure Y_ref08_cursor_thingm1_51 where (f12:(Int)×It17) (f13:Int) (f1000000:Tc) (f1000002:It21)
noncomputable def zOca (k_normal:((Int)×It17)→Int→Tc→It21→Option R) (x:Y_ref08_cursor_thingm1_51):Option R :=
 cond (x.f13==2)
 (zoaa x.f1000000 fun r2 b3 =>
 cond (r2 != 0)
 (zbaa b3 3 fun b5 =>
 k_normal x.f12 x.f13 b5 x.f1000002)
 (k_normal x.f12 x.f13 b3 x.f1000002))
 (k_normal x.f12 x.f13 x.f1000000 x.f1000002)
noncomputable def zjea:LB:=⟨[uAl 0 1000000 [.der],uAl 2 1000002 [.der],.d 12 B21,.d 13 A0,.d 1000000 B15,.d 1000002 B20],[(.normal,[uAl 0 1000000 [.der],uAl 2 1000002 [.der],.d 12 B21,.d 13 A0,.d 1000000 B15,.d 1000002 B20])]⟩
noncomputable def zXha:JF Y_ref08_cursor_thingm1_51:=fun _ K=>zOca (exS zjea 0 K)
structure Y_ref08_cursor_thingm1_54 where (f12:(Int)×It17) (f13:Int) (f1000000:Tc) (f1000002:It21)
noncomputable def zNca (k_normal:((Int)×It17)→Tc→It21→Option R) (x:Y_ref08_cursor_thingm1_54):Option R :=
 cond (x.f13==1)
 (k_normal (1,x.f12.2) x.f1000000 x.f1000002)
 (zXba x.f1000000 fun r2 b3 =>
 k_normal (x.f12.1,(r2,x.f12.2.2)) b3 x.f1000002)
noncomputable def ziea:LB:=⟨[uAl 0 1000000 [.der],uAl 2 1000002 [.der],.d 12 B21,.d 13 A0,.d 1000000 B15,.d 1000002 B20],[(.normal,[uAl 0 1000000 [.der],uAl 2 1000002 [.der],.d 12 B21,.d 1000000 B15,.d 1000002 B20])]⟩
noncomputable def zWha:JF Y_ref08_cursor_thingm1_54:=fun _ K=>zNca (exS ziea 0 K)
noncomputable def zmca:Loops:=fun z i R st K=>match z,i with
 |true,22=>jpS zlea Y_ref08_cursor_thingm1_22.mk zZha K st
 |true,49=>jpS zkea Y_ref08_cursor_thingm1_49.mk zYha K st
 |true,51=>jpS zjea Y_ref08_cursor_thingm1_51.mk zXha K st
 |true,54=>jpS ziea Y_ref08_cursor_thingm1_54.mk zWha K st
 |_,_=>none
theorem zwra:JOk zzba zmca inl0 22 Tryz.f155:=jok zlea Y_ref08_cursor_thingm1_22.mk (fun x=>(x.f9,x.f1000000,x.f1000002,())) zZha 22
theorem zvra:JOk zzba zmca inl0 49 Tryz.f155:=jok zkea Y_ref08_cursor_thingm1_49.mk (fun x=>(x.f12,x.f13,x.f1000000,x.f1000002,())) zYha 49
theorem zura:JOk zzba zmca inl0 51 Tryz.f155:=jok zjea Y_ref08_cursor_thingm1_51.mk (fun x=>(x.f12,x.f13,x.f1000000,x.f1000002,())) zXha 51
theorem ztra:JOk zzba zmca inl0 54 Tryz.f155:=jok ziea Y_ref08_cursor_thingm1_54.mk (fun x=>(x.f12,x.f13,x.f1000000,x.f1000002,())) zWha 54
theorem zYsa:zsaa zzba zmca inl0 (body Tryz.f155.body):=lsL .nil (.cons zwra (.cons ztra (.cons zura (.cons zvra .nil))))
noncomputable def zGda (a0:Tc) (a1:Int) (a2:It21) (K:Tc→It21→Option R):Option R :=
 cond (a1==1)
 (cond (a0.2.2.1==0)
 (zNaa a0 fun r3 b4 =>
 zgva r3 fun r5 r6 r7 =>
 zOaa b4 r6 r7 fun b8 =>
 let k9:Option R:=(cond (decide (a2.1.length+List.length (List.set (List.replicate 1 (([]:List (Int)),(([]:List (Int)),()))) 0 r5)≤most))
 (K b8 ((a2.1++(List.set (List.replicate 1 (([]:List (Int)),(([]:List (Int)),()))) 0 r5)),a2.2)) none)
 both
 (k9)
 (k9))
 (K a0 a2))
 (cond (a1==2)
 (zGca a0 fun r14 b15 =>
 zGca b15 fun r16 b17 =>
 zuba b17 4 fun r18 b19 =>
 zQca (fun w20 w21 w22 =>
 let k5:Option R:=(cond (decide (w22.2.1.length+List.length (List.set (List.replicate 1 (([]:List UInt8),(([]:List UInt8),((0:Int),((0:Int),(((0:Int),(false,((0:Int),()))),(false,()))))))) 0 w20)≤most))
 (K w21 (w22.1,((w22.2.1++(List.set (List.replicate 1 (([]:List UInt8),(([]:List UInt8),((0:Int),((0:Int),(((0:Int),(false,((0:Int),()))),(false,()))))))) 0 w20)),w22.2.2))) none)
 both
 (k5)
 (both
 (k5)
 (k5))) ⟨(r14,(r16,(r18,(0,((0,(false,(0,()))),(false,())))))),b19,a2⟩)
 (cond (a1==3)
 (both
 (zoaa a0 fun r30 b31 =>
 let v32:=List.set (List.replicate 1 ((0:Int),(([]:List (Int)),(([]:List ((Int)×(Int)×(Int)×(Int)×(List (Int))×Unit)),())))) 0 (r30,([],([],())))
 cond (decide (a2.2.2.1.length+v32.length≤most))
 (K b31 (a2.1,(a2.2.1,((a2.2.2.1++v32),a2.2.2.2)))) none)
 (zoaa a0 fun r34 b35 =>
 let k2:Option R:=(cond (decide (a2.2.2.1.length+List.length (List.set (List.replicate 1 ((0:Int),(([]:List (Int)),(([]:List ((Int)×(Int)×(Int)×(Int)×(List (Int))×Unit)),())))) 0 (r34,([],([],()))))≤most))
 (K b35 (a2.1,(a2.2.1,((a2.2.2.1++(List.set (List.replicate 1 ((0:Int),(([]:List (Int)),(([]:List ((Int)×(Int)×(Int)×(Int)×(List (Int))×Unit)),())))) 0 (r34,([],([],()))))),a2.2.2.2)))) none)
 both
 (k2)
 (k2)))
 (cond (a1==4)
 (ztba a0 fun b41 =>
 both
 (zUaa b41 fun r42 b43 =>
 let v44:=List.set (List.replicate 1 ((0:Int),(false,((0:Int),())))) 0 r42
 cond (decide (a2.2.2.2.1.length+v44.length≤most))
 (K b43 (a2.1,(a2.2.1,(a2.2.2.1,((a2.2.2.2.1++v44),a2.2.2.2.2))))) none)
 (zUaa b41 fun r46 b47 =>
 let k8:Option R:=(cond (decide (a2.2.2.2.1.length+List.length (List.set (List.replicate 1 ((0:Int),(false,((0:Int),())))) 0 r46)≤most))
 (K b47 (a2.1,(a2.2.1,(a2.2.2.1,((a2.2.2.2.1++(List.set (List.replicate 1 ((0:Int),(false,((0:Int),())))) 0 r46)),a2.2.2.2.2))))) none)
 both
 (k8)
 (k8)))
 (cond (a1==5)
 (both
 (zUaa a0 fun r53 b54 =>
 let v55:=List.set (List.replicate 1 ((0:Int),(false,((0:Int),())))) 0 r53
 cond (decide (a2.2.2.2.2.1.length+v55.length≤most))
 (K b54 (a2.1,(a2.2.1,(a2.2.2.1,(a2.2.2.2.1,((a2.2.2.2.2.1++v55),a2.2.2.2.2.2)))))) none)
 (zUaa a0 fun r57 b58 =>
 let k7:Option R:=(cond (decide (a2.2.2.2.2.1.length+List.length (List.set (List.replicate 1 ((0:Int),(false,((0:Int),())))) 0 r57)≤most))
 (K b58 (a2.1,(a2.2.1,(a2.2.2.1,(a2.2.2.2.1,((a2.2.2.2.2.1++(List.set (List.replicate 1 ((0:Int),(false,((0:Int),())))) 0 r57)),a2.2.2.2.2.2)))))) none)
 both
 (k7)
 (k7)))
 (cond (a1==6)
 (zoca a0 fun r64 b65 =>
 zuba b65 2 fun r66 b67 =>
 let v68:=r66==1
 zXba b67 fun r69 b70 =>
 let k4:Option R:=(cond (decide (a2.2.2.2.2.2.1.length+List.length (List.set (List.replicate 1 ((0:Int),(false,(([]:List ((Int)×(Int)×(Int)×(Int)×(List (Int))×Unit)),())))) 0 (r64,((r66==1),(r69,()))))≤most))
 (K b70 (a2.1,(a2.2.1,(a2.2.2.1,(a2.2.2.2.1,(a2.2.2.2.2.1,((a2.2.2.2.2.2.1++(List.set (List.replicate 1 ((0:Int),(false,(([]:List ((Int)×(Int)×(Int)×(Int)×(List (Int))×Unit)),())))) 0 (r64,((r66==1),(r69,()))))),a2.2.2.2.2.2.2))))))) none)
 both
 (k4)
 (both
 (k4)
 (k4)))
 (cond (a1==7)
 (zGca a0 fun r78 b79 =>
 zuba b79 4 fun r80 b81 =>
 zoaa b81 fun r82 b83 =>
 let k6:Option R:=(cond (decide (a2.2.2.2.2.2.2.1.length+List.length (List.set (List.replicate 1 (([]:List UInt8),((0:Int),((0:Int),())))) 0 (r78,(r80,(r82,()))))≤most))
 (K b83 (a2.1,(a2.2.1,(a2.2.2.1,(a2.2.2.2.1,(a2.2.2.2.2.1,(a2.2.2.2.2.2.1,((a2.2.2.2.2.2.2.1++(List.set (List.replicate 1 (([]:List UInt8),((0:Int),((0:Int),())))) 0 (r78,(r80,(r82,()))))),a2.2.2.2.2.2.2.2)))))))) none)
 both
 (k6)
 (both
 (k6)
 (k6)))
 (cond (a1==9)
 (both
 (zHda a0 fun r91 b92 =>
 let v93:=List.set (List.replicate 1 ((0:Int),(([]:List ((Int)×(Int)×(Int)×(Int)×(List (Int))×Unit)),(([]:List (Int)),())))) 0 r91
 cond (decide (a2.2.2.2.2.2.2.2.2.1.length+v93.length≤most))
 (K b92 (a2.1,(a2.2.1,(a2.2.2.1,(a2.2.2.2.1,(a2.2.2.2.2.1,(a2.2.2.2.2.2.1,(a2.2.2.2.2.2.2.1,(a2.2.2.2.2.2.2.2.1,((a2.2.2.2.2.2.2.2.2.1++v93),a2.2.2.2.2.2.2.2.2.2)))))))))) none)
 (zHda a0 fun r95 b96 =>
 let k3:Option R:=(cond (decide (a2.2.2.2.2.2.2.2.2.1.length+List.length (List.set (List.replicate 1 ((0:Int),(([]:List ((Int)×(Int)×(Int)×(Int)×(List (Int))×Unit)),(([]:List (Int)),())))) 0 r95)≤most))
 (K b96 (a2.1,(a2.2.1,(a2.2.2.1,(a2.2.2.2.1,(a2.2.2.2.2.1,(a2.2.2.2.2.2.1,(a2.2.2.2.2.2.2.1,(a2.2.2.2.2.2.2.2.1,((a2.2.2.2.2.2.2.2.2.1++(List.set (List.replicate 1 ((0:Int),(([]:List ((Int)×(Int)×(Int)×(Int)×(List (Int))×Unit)),(([]:List (Int)),())))) 0 r95)),a2.2.2.2.2.2.2.2.2.2)))))))))) none)
 both
 (k3)
 (k3)))
 (cond (a1==11)
 (zoaa a0 fun r102 b103 =>
 zPca (fun w104 w105 w106 w107 =>
 zOca (fun w108 w109 w110 w111 =>
 zNca (fun w112 w113 w114 =>
 zgda w113 fun r115 b116 =>
 let k1:Option R:=(cond (decide (w114.2.2.2.2.2.2.2.2.2.2.1.length+List.length (List.set (List.replicate 1 ((0:Int),(([]:List ((Int)×(Int)×(Int)×(Int)×(List (Int))×Unit)),(([]:List (Int)),())))) 0 (w112.1,(w112.2.1,(r115,w112.2.2.2))))≤most))
 (K b116 (w114.1,(w114.2.1,(w114.2.2.1,(w114.2.2.2.1,(w114.2.2.2.2.1,(w114.2.2.2.2.2.1,(w114.2.2.2.2.2.2.1,(w114.2.2.2.2.2.2.2.1,(w114.2.2.2.2.2.2.2.2.1,(w114.2.2.2.2.2.2.2.2.2.1,((w114.2.2.2.2.2.2.2.2.2.2.1++(List.set (List.replicate 1 ((0:Int),(([]:List ((Int)×(Int)×(Int)×(Int)×(List (Int))×Unit)),(([]:List (Int)),())))) 0 (w112.1,(w112.2.1,(r115,w112.2.2.2))))),w114.2.2.2.2.2.2.2.2.2.2.2)))))))))))) none)
 both
 (k1)
 (both
 (k1)
 (k1))) ⟨w108,w109,w110,w111⟩) ⟨w104,w105,w106,w107⟩) ⟨(0,([],([],()))),r102,b103,a2⟩)
 (K a0 a2)))))))))
noncomputable def zCla:CSpec:={ ins:=[(.ref Ty34 .s .s),(.val (.int .i64) .s),(.ref Ty32 (.p (.o .s) (.p (.o .s) (.p (.o (.p .s (.p (.o .s) (.p (.o .s) .s)))) (.p (.o .s) (.p (.o .s) (.p (.o .s) (.p (.o .s) (.p (.o .s) (.p (.o .s) (.p (.o .s) (.p (.o .s) (.p (.o .s) .s)))))))))))) (.p (.o .s) (.p (.o .s) (.p (.o (.p .s (.p (.o .s) (.p (.o .s) .s)))) (.p (.o .s) (.p (.o .s) (.p (.o .s) (.p (.o .s) (.p (.o .s) (.p (.o .s) (.p (.o .s) (.p (.o .s) (.p (.o .s) .s)))))))))))))],outs:=[],fn:=fun d K _=>zGda d.1 d.2.1 d.2.2.1 (fun b0 b2=>K ((()):Unit) ((b0,b2,()):((List (Int))×(Int)×(Int)×Unit)×It21×Unit)) }
theorem zQya:Holds Tryz.prog 155 zCla:=hw zzba [] zfaa Tryz.func155 zYsa ⟨mixed,envTyOk.ty,envTyOk.eq⟩
noncomputable def zTya:GE Tryz.prog:=⟨155,[],zCla,zQya⟩
noncomputable def zBqa:List (FuncId×List FuncId×CSpec):=[(177,[],zPha),(152,[],zyka),(153,[],zWia),(178,[],zOha),(179,[],zXia)]
noncomputable def zhHa:Nat→Bool
 |194=>true
 |_=>false
noncomputable def zZGa:Nat→Bool
 |4=>true
 |_=>false
noncomputable def zPGa:Nat→Bool
 |154=>true
 |_=>false
noncomputable def zGGa:Nat→Bool
 |5=>true
 |6=>true
 |9=>true
 |12=>true
 |16=>true
 |_=>false
noncomputable def zsGa:Nat→Option (List Nat)
 |0=>some [1,2,7,8,130,131,1000002]
 |1|2=>some [1,2,7,8,130,131,134,1000002]
 |3|13=>some [1,2,7,8,130,131,134,135,1000002]
 |4|5|6=>some [1,2,7,8,130,131,134,135,136,1000002]
 |7|8|9=>some [1,2,7,8,130,131,134,135,136,137,1000002]
 |10|11|12=>some [1,2,7,8,130,131,134,135,136,137,138,1000002]
 |14=>some [1,2,7,8,130,134,135,1000002]
 |15|16=>some [1,2,7,8,130,135,1000002]
 |_=>none
noncomputable def znGa:TypeId→Md
 |42=>(.p .s (.p (.o .s) (.p (.o .s) .s)))
 |_ => .s
noncomputable def env_ref08_sectionx0:Env:={ E0 with gam:=(gamL zBqa),n:=Tryz.f154.ntmps,fu:=zhHa,fz:=zZGa,il:=zPGa,js:=zGGa,lv:=zsGa,b:=130,om:=znGa,al:=[130,139,203,204,209,210,218] }
theorem ziBa:EnvFn Tryz.prog env_ref08_sectionx0:=fun f gs c h=>zPOa (l:=zBqa) ⟨zAqa,zVta,zXra,zzqa,zYra,trivial⟩ f gs c h
structure zVea where (f1:Tl) (f7:Tc) (f8 f131_0:Int) (f134:Tl) (f135:Tc) (f136 f137 f138:Int) (f1000002:It21)
noncomputable def zZia (k_normal:Tl→Tc→Int→Int→Tl→Tc→Int→Int→Int→It21→Option R) (k_exit_2:Tl→Tc→Int→Int→Tl→Tc→Int→It21→Option R) (x:zVea):Option R :=
 cond (decide (x.f137>0))
 (cond (x.f135.2.2.1==0)
 (k_normal x.f1 x.f7 x.f8 x.f131_0 x.f134 x.f135 x.f136 x.f137 x.f138 x.f1000002)
 (k_exit_2 x.f1 x.f7 x.f8 x.f131_0 x.f134 x.f135 x.f136 x.f1000002))
 (k_exit_2 x.f1 x.f7 x.f8 x.f131_0 x.f134 x.f135 x.f136 x.f1000002)
noncomputable def zaEa (x:zVea):St:=St.ofList [(1,(a30 x.f1)),(2,(.al 1000002 [.der])),(7,(a48 (some x.f7))),(8,(a0 x.f8)),(130,(.al 7 [.der])),(131,(.al 1000002 [.der,(.fld 2),(.idx x.f131_0)])),(134,(a30 x.f134)),(135,(a48 (some x.f135))),(136,(a0 x.f136)),(137,(a0 x.f137)),(138,(a0 x.f138)),(1000002,(a46 (some x.f1000002)))]
def zrya:Ex→List (Nat×Bool) | .normal=>[(1,false),(2,false),(7,false),(8,false),(130,false),(131,false),(134,false),(135,false),(136,false),(137,false),(138,false),(1000002,false)] | .exit 2=>[(1,false),(2,false),(7,false),(8,false),(130,false),(131,false),(134,false),(135,false),(136,false),(1000002,false)]|_=>[]
def zMma:List (Nat×Bool):=[(1,false),(2,false),(7,false),(8,false),(130,false),(131,false),(134,false),(135,false),(136,false),(137,false),(138,false),(1000002,false)]
noncomputable def zIma:Pt zVea := .s 1 A18 fun y1 => .s 2 (sAl 1000002 [.der]) fun _ => .s 7 B22 fun y7 => .s 8 A0 fun y8 => .s 130 (sAl 7 [.der]) fun _ => .s 131 (sAl1 1000002 [.der,(.fld 2)] []) fun y131_0 => .s 134 A18 fun y134 => .s 135 B22 fun y135 => .s 136 A0 fun y136 => .s 137 A0 fun y137 => .s 138 A0 fun y138 => .s 1000002 B20 fun y1000002 => .e ⟨y1,y7,y8,y131_0,y134,y135,y136,y137,y138,y1000002⟩
noncomputable def zXna (R:Type) (K:Ex→St→Option R):zVea→Option R:=zZia (fun e1 e7 e8 e131_0 e134 e135 e136 e137 e138 e1000002=>K .normal (St.ofList [(1,(a30 e1)),(2,(.al 1000002 [.der])),(7,(a48 (some e7))),(8,(a0 e8)),(130,(.al 7 [.der])),(131,(.al 1000002 [.der,(.fld 2),(.idx e131_0)])),(134,(a30 e134)),(135,(a48 (some e135))),(136,(a0 e136)),(137,(a0 e137)),(138,(a0 e138)),(1000002,(a46 (some e1000002)))])) (fun e1 e7 e8 e131_0 e134 e135 e136 e1000002=>K (.exit 2) (St.ofList [(1,(a30 e1)),(2,(.al 1000002 [.der])),(7,(a48 (some e7))),(8,(a0 e8)),(130,(.al 7 [.der])),(131,(.al 1000002 [.der,(.fld 2),(.idx e131_0)])),(134,(a30 e134)),(135,(a48 (some e135))),(136,(a0 e136)),(1000002,(a46 (some e1000002)))]))
structure zsca where (f1:Tl) (f7:Tc) (f8 f131_0:Int) (f134:Tl) (f135:Tc) (f136 f137 f138:Int) (f1000002:It21)
noncomputable def zhfa (k_exit_2:Tl→Tc→Int→Int→Tl→Tc→Int→It21→Option R) (rec:zsca→Option R) (x:zsca):Option R :=
 zZia (fun w1 w2 w3 w4 w5 w6 w7 w8 w9 w10 =>
 let v11:=List.set (List.replicate 1 (0:Int)) 0 w9
 cond ((w4==w4)&&true)
 (cond (decide (List.length (((w10.2.2.1.getD w4.toNat (0,([],([],())))).2).1)+v11.length≤most))
 (rec ⟨w1,w2,w3,w4,w5,w6,w7,(IntKind.i64.wrap (w8-1)),w9,(w10.1,(w10.2.1,((List.set w10.2.2.1 w4.toNat ((w10.2.2.1.getD w4.toNat (0,([],([],())))).1,(((((w10.2.2.1.getD w4.toNat (0,([],([],())))).2).1)++v11),((w10.2.2.1.getD w4.toNat (0,([],([],())))).2).2))),w10.2.2.2)))⟩) none) none) (fun w14 w15 w16 w17 w18 w19 w20 w21 =>
 k_exit_2 w14 w15 w16 w17 w18 w19 w20 w21) ⟨x.f1,x.f7,x.f8,x.f131_0,x.f134,x.f135,x.f136,x.f137,x.f138,x.f1000002⟩
noncomputable def zZDa (x:zsca):St:=St.ofList [(1,(a30 x.f1)),(2,(.al 1000002 [.der])),(7,(a48 (some x.f7))),(8,(a0 x.f8)),(130,(.al 7 [.der])),(131,(.al 1000002 [.der,(.fld 2),(.idx x.f131_0)])),(134,(a30 x.f134)),(135,(a48 (some x.f135))),(136,(a0 x.f136)),(137,(a0 x.f137)),(138,(a0 x.f138)),(1000002,(a46 (some x.f1000002)))]
def zdya:Ex→List (Nat×Bool) | .exit 2=>[(1,false),(2,false),(7,false),(8,false),(130,false),(131,false),(134,false),(135,false),(136,false),(1000002,false)]|_=>[]
def zmoa:List (Nat×Bool):=[(1,false),(2,false),(7,false),(8,false),(130,false),(131,false),(134,false),(135,false),(136,false),(137,false),(138,false),(1000002,false)]
noncomputable def zMna:Pt zsca := .s 1 A18 fun y1 => .s 2 (sAl 1000002 [.der]) fun _ => .s 7 B22 fun y7 => .s 8 A0 fun y8 => .s 130 (sAl 7 [.der]) fun _ => .s 131 (sAl1 1000002 [.der,(.fld 2)] []) fun y131_0 => .s 134 A18 fun y134 => .s 135 B22 fun y135 => .s 136 A0 fun y136 => .s 137 A0 fun y137 => .s 138 A0 fun y138 => .s 1000002 B20 fun y1000002 => .e ⟨y1,y7,y8,y131_0,y134,y135,y136,y137,y138,y1000002⟩
noncomputable def zfra (R:Type) (K:Ex→St→Option R):(zsca→Option R)→zsca→Option R:=zhfa (fun e1 e7 e8 e131_0 e134 e135 e136 e1000002=>K (.exit 2) (St.ofList [(1,(a30 e1)),(2,(.al 1000002 [.der])),(7,(a48 (some e7))),(8,(a0 e8)),(130,(.al 7 [.der])),(131,(.al 1000002 [.der,(.fld 2),(.idx e131_0)])),(134,(a30 e134)),(135,(a48 (some e135))),(136,(a0 e136)),(1000002,(a46 (some e1000002)))]))
structure zpga where (f1:Tl) (f7:Tc) (f8 f131_0:Int) (f134:Tl) (f135:Tc) (f136:Int) (f1000002:It21)
noncomputable def zCka (k_normal:Tl→Tc→Int→Int→Tl→Tc→Int→It21→Option R) (k_exit_0:Tl→Tc→Int→Int→Tl→Tc→It21→Option R) (x:zpga):Option R :=
 cond (decide (x.f136>0))
 (cond (x.f135.2.2.1==0)
 (k_normal x.f1 x.f7 x.f8 x.f131_0 x.f134 x.f135 x.f136 x.f1000002)
 (k_exit_0 x.f1 x.f7 x.f8 x.f131_0 x.f134 x.f135 x.f1000002))
 (k_exit_0 x.f1 x.f7 x.f8 x.f131_0 x.f134 x.f135 x.f1000002)
noncomputable def zCFa (x:zpga):St:=St.ofList [(1,(a30 x.f1)),(2,(.al 1000002 [.der])),(7,(a48 (some x.f7))),(8,(a0 x.f8)),(130,(.al 7 [.der])),(131,(.al 1000002 [.der,(.fld 2),(.idx x.f131_0)])),(134,(a30 x.f134)),(135,(a48 (some x.f135))),(136,(a0 x.f136)),(1000002,(a46 (some x.f1000002)))]
def zOAa:Ex→List (Nat×Bool) | .normal=>[(1,false),(2,false),(7,false),(8,false),(130,false),(131,false),(134,false),(135,false),(136,false),(1000002,false)] | .exit 0=>[(1,false),(2,false),(7,false),(8,false),(130,false),(131,false),(134,false),(135,false),(1000002,false)]|_=>[]
def zTna:List (Nat×Bool):=[(1,false),(2,false),(7,false),(8,false),(130,false),(131,false),(134,false),(135,false),(136,false),(1000002,false)]
noncomputable def zPna:Pt zpga := .s 1 A18 fun y1 => .s 2 (sAl 1000002 [.der]) fun _ => .s 7 B22 fun y7 => .s 8 A0 fun y8 => .s 130 (sAl 7 [.der]) fun _ => .s 131 (sAl1 1000002 [.der,(.fld 2)] []) fun y131_0 => .s 134 A18 fun y134 => .s 135 B22 fun y135 => .s 136 A0 fun y136 => .s 1000002 B20 fun y1000002 => .e ⟨y1,y7,y8,y131_0,y134,y135,y136,y1000002⟩
noncomputable def zjqa (R:Type) (K:Ex→St→Option R):zpga→Option R:=zCka (fun e1 e7 e8 e131_0 e134 e135 e136 e1000002=>K .normal (St.ofList [(1,(a30 e1)),(2,(.al 1000002 [.der])),(7,(a48 (some e7))),(8,(a0 e8)),(130,(.al 7 [.der])),(131,(.al 1000002 [.der,(.fld 2),(.idx e131_0)])),(134,(a30 e134)),(135,(a48 (some e135))),(136,(a0 e136)),(1000002,(a46 (some e1000002)))])) (fun e1 e7 e8 e131_0 e134 e135 e1000002=>K (.exit 0) (St.ofList [(1,(a30 e1)),(2,(.al 1000002 [.der])),(7,(a48 (some e7))),(8,(a0 e8)),(130,(.al 7 [.der])),(131,(.al 1000002 [.der,(.fld 2),(.idx e131_0)])),(134,(a30 e134)),(135,(a48 (some e135))),(1000002,(a46 (some e1000002)))]))
structure zoga where (f1:Tl) (f7:Tc) (f8 f131_0:Int) (f134:Tl) (f135:Tc) (f136 f137:Int) (f1000002:It21)
noncomputable def zrga (k_normal:Tl→Tc→Int→Int→Tl→Tc→Int→Int→It21→Option R) (x:zoga):Option R :=
 cond (decide (x.f137>(IntKind.i64.wrap (64-((List.length (((x.f1000002.2.2.1.getD x.f131_0.toNat (0,([],([],())))).2).1):Nat):Int)))))
 (zbaa x.f135 4 fun b4 =>
 k_normal x.f1 x.f7 x.f8 x.f131_0 x.f134 b4 x.f136 x.f137 x.f1000002)
 (k_normal x.f1 x.f7 x.f8 x.f131_0 x.f134 x.f135 x.f136 x.f137 x.f1000002)
noncomputable def zBFa (x:zoga):St:=St.ofList [(1,(a30 x.f1)),(2,(.al 1000002 [.der])),(7,(a48 (some x.f7))),(8,(a0 x.f8)),(130,(.al 7 [.der])),(131,(.al 1000002 [.der,(.fld 2),(.idx x.f131_0)])),(134,(a30 x.f134)),(135,(a48 (some x.f135))),(136,(a0 x.f136)),(137,(a0 x.f137)),(1000002,(a46 (some x.f1000002)))]
def zNAa:Ex→List (Nat×Bool) | .normal=>[(1,false),(2,false),(7,false),(8,false),(130,false),(131,false),(134,false),(135,false),(136,false),(137,false),(1000002,false)]|_=>[]
def zSna:List (Nat×Bool):=[(1,false),(2,false),(7,false),(8,false),(130,false),(131,false),(134,false),(135,false),(136,false),(137,false),(1000002,false)]
noncomputable def zOna:Pt zoga := .s 1 A18 fun y1 => .s 2 (sAl 1000002 [.der]) fun _ => .s 7 B22 fun y7 => .s 8 A0 fun y8 => .s 130 (sAl 7 [.der]) fun _ => .s 131 (sAl1 1000002 [.der,(.fld 2)] []) fun y131_0 => .s 134 A18 fun y134 => .s 135 B22 fun y135 => .s 136 A0 fun y136 => .s 137 A0 fun y137 => .s 1000002 B20 fun y1000002 => .e ⟨y1,y7,y8,y131_0,y134,y135,y136,y137,y1000002⟩
noncomputable def ziqa (R:Type) (K:Ex→St→Option R):zoga→Option R:=zrga (fun e1 e7 e8 e131_0 e134 e135 e136 e137 e1000002=>K .normal (St.ofList [(1,(a30 e1)),(2,(.al 1000002 [.der])),(7,(a48 (some e7))),(8,(a0 e8)),(130,(.al 7 [.der])),(131,(.al 1000002 [.der,(.fld 2),(.idx e131_0)])),(134,(a30 e134)),(135,(a48 (some e135))),(136,(a0 e136)),(137,(a0 e137)),(1000002,(a46 (some e1000002)))]))
structure zqga where (f1:Tl) (f7:Tc) (f8 f131_0:Int) (f134:Tl) (f135:Tc) (f136:Int) (f1000002:It21)
noncomputable def zDka (k_normal:Tl→Tc→Int→Int→Tl→Tc→Int→It21→Option R) (x:zqga):Option R :=
 zoaa x.f135 fun r1 b2 =>
 zrga (fun w3 w4 w5 w6 w7 w8 w9 w10 w11 =>
 zoca w8 fun r12 b13 =>
 loopN (zhfa (fun w14 w15 w16 w17 w18 w19 w20 w21 =>
 k_normal w14 w15 w16 w17 w18 w19 w20 w21)) zpaa ⟨w3,w4,w5,w6,w7,b13,w9,w10,r12,w11⟩) ⟨x.f1,x.f7,x.f8,x.f131_0,x.f134,b2,x.f136,r1,x.f1000002⟩
noncomputable def zDFa (x:zqga):St:=St.ofList [(1,(a30 x.f1)),(2,(.al 1000002 [.der])),(7,(a48 (some x.f7))),(8,(a0 x.f8)),(130,(.al 7 [.der])),(131,(.al 1000002 [.der,(.fld 2),(.idx x.f131_0)])),(134,(a30 x.f134)),(135,(a48 (some x.f135))),(136,(a0 x.f136)),(1000002,(a46 (some x.f1000002)))]
def zPAa:Ex→List (Nat×Bool) | .normal=>[(1,false),(2,false),(7,false),(8,false),(130,false),(131,false),(134,false),(135,false),(136,false),(1000002,false)]|_=>[]
def zUna:List (Nat×Bool):=[(1,false),(2,false),(7,false),(8,false),(130,false),(131,false),(134,false),(135,false),(136,false),(1000002,false)]
noncomputable def zQna:Pt zqga := .s 1 A18 fun y1 => .s 2 (sAl 1000002 [.der]) fun _ => .s 7 B22 fun y7 => .s 8 A0 fun y8 => .s 130 (sAl 7 [.der]) fun _ => .s 131 (sAl1 1000002 [.der,(.fld 2)] []) fun y131_0 => .s 134 A18 fun y134 => .s 135 B22 fun y135 => .s 136 A0 fun y136 => .s 1000002 B20 fun y1000002 => .e ⟨y1,y7,y8,y131_0,y134,y135,y136,y1000002⟩
noncomputable def zkqa (R:Type) (K:Ex→St→Option R):zqga→Option R:=zDka (fun e1 e7 e8 e131_0 e134 e135 e136 e1000002=>K .normal (St.ofList [(1,(a30 e1)),(2,(.al 1000002 [.der])),(7,(a48 (some e7))),(8,(a0 e8)),(130,(.al 7 [.der])),(131,(.al 1000002 [.der,(.fld 2),(.idx e131_0)])),(134,(a30 e134)),(135,(a48 (some e135))),(136,(a0 e136)),(1000002,(a46 (some e1000002)))]))
structure zMca where (f1:Tl) (f7:Tc) (f8 f131_0:Int) (f134:Tl) (f135:Tc) (f136:Int) (f1000002:It21)
noncomputable def zuga (k_exit_0:Tl→Tc→Int→Int→Tl→Tc→It21→Option R) (rec:zMca→Option R) (x:zMca):Option R :=
 zCka (fun w1 w2 w3 w4 w5 w6 w7 w8 =>
 zDka (fun w9 w10 w11 w12 w13 w14 w15 w16 =>
 rec ⟨w9,w10,w11,w12,w13,w14,(IntKind.i64.wrap (w15-1)),w16⟩) ⟨w1,w2,w3,w4,w5,w6,w7,w8⟩) (fun w18 w19 w20 w21 w22 w23 w24 =>
 k_exit_0 w18 w19 w20 w21 w22 w23 w24) ⟨x.f1,x.f7,x.f8,x.f131_0,x.f134,x.f135,x.f136,x.f1000002⟩
noncomputable def zAFa (x:zMca):St:=St.ofList [(1,(a30 x.f1)),(2,(.al 1000002 [.der])),(7,(a48 (some x.f7))),(8,(a0 x.f8)),(130,(.al 7 [.der])),(131,(.al 1000002 [.der,(.fld 2),(.idx x.f131_0)])),(134,(a30 x.f134)),(135,(a48 (some x.f135))),(136,(a0 x.f136)),(1000002,(a46 (some x.f1000002)))]
def zsAa:Ex→List (Nat×Bool) | .exit 0=>[(1,false),(2,false),(7,false),(8,false),(130,false),(131,false),(134,false),(135,false),(1000002,false)]|_=>[]
def zyqa:List (Nat×Bool):=[(1,false),(2,false),(7,false),(8,false),(130,false),(131,false),(134,false),(135,false),(136,false),(1000002,false)]
noncomputable def zTpa:Pt zMca := .s 1 A18 fun y1 => .s 2 (sAl 1000002 [.der]) fun _ => .s 7 B22 fun y7 => .s 8 A0 fun y8 => .s 130 (sAl 7 [.der]) fun _ => .s 131 (sAl1 1000002 [.der,(.fld 2)] []) fun y131_0 => .s 134 A18 fun y134 => .s 135 B22 fun y135 => .s 136 A0 fun y136 => .s 1000002 B20 fun y1000002 => .e ⟨y1,y7,y8,y131_0,y134,y135,y136,y1000002⟩
noncomputable def zgsa (R:Type) (K:Ex→St→Option R):(zMca→Option R)→zMca→Option R:=zuga (fun e1 e7 e8 e131_0 e134 e135 e1000002=>K (.exit 0) (St.ofList [(1,(a30 e1)),(2,(.al 1000002 [.der])),(7,(a48 (some e7))),(8,(a0 e8)),(130,(.al 7 [.der])),(131,(.al 1000002 [.der,(.fld 2),(.idx e131_0)])),(134,(a30 e134)),(135,(a48 (some e135))),(1000002,(a46 (some e1000002)))]))
structure Y_ref08_sectionx0_16 where (f1:Tl) (f7:Tc) (f8:Int) (f134:Tl) (f135:Tc) (f1000002:It21)
noncomputable def zYea (k_normal:Tl→Tc→Int→Tc→It21→Option R) (x:Y_ref08_sectionx0_16):Option R :=
 cond (x.f135.2.2.1==0)
 (cond (decide (x.f135.2.1<(x.f134.length:Int)))
 (zbaa x.f135 2 fun b4 =>
 k_normal x.f1 x.f7 x.f8 b4 x.f1000002)
 (k_normal x.f1 x.f7 x.f8 x.f135 x.f1000002))
 (k_normal x.f1 x.f7 x.f8 x.f135 x.f1000002)
noncomputable def zFia:LB:=⟨[.d 1 A18,uAl 2 1000002 [.der],.d 7 B22,.d 8 A0,uAl 130 7 [.der],.d 134 A18,.d 135 B22,.d 1000002 B20],[(.normal,[.d 1 A18,uAl 2 1000002 [.der],.d 7 B22,.d 8 A0,uAl 130 7 [.der],.d 135 B22,.d 1000002 B20])]⟩
noncomputable def zWna:JF Y_ref08_sectionx0_16:=fun _ K=>zYea (exS zFia 0 K)
noncomputable def zjba:Loops:=fun z i R st K=>match z,i with
 |false,10=>lpE zmoa zMna (lpL zfra K) st
 |false,4=>lpE zyqa zTpa (lpL zgsa K) st
 |true,12=>lpE zMma zIma (zXna R K) st
 |true,6=>lpE zTna zPna (zjqa R K) st
 |true,9=>lpE zSna zOna (ziqa R K) st
 |true,5=>lpE zUna zQna (zkqa R K) st
 |true,16=>jpS zFia Y_ref08_sectionx0_16.mk zWna K st
 |_,_=>none
theorem zwya:JOk env_ref08_sectionx0 zjba inl0 12 Tryz.f154:=zvda (hd:=zMma) (out:=zrya) (S:=zaEa) (J:=zXna) (fun _ _ _=>by kernel_rfl) (p:=zIma) (fun _ _ _ _ _ _ _ _ _ _ _ _=>⟨rfl,rfl⟩) fun _ _ _=>rfl
theorem zyAa:LOk env_ref08_sectionx0 zjba inl0 10 Tryz.f154:=zPoa (hd:=zmoa) (out:=zdya) (S:=zZDa) (B:=zfra) (p:=zMna) (i:=10) (fun _ _ _ _=>by kernel_rfl) (fun _ _ _ _ _ _ _ _ _ _ _ _=>⟨rfl,rfl⟩) (by kernel_rfl) fun _ _ _=>rfl
theorem zTAa:JOk env_ref08_sectionx0 zjba inl0 6 Tryz.f154:=zvda (hd:=zTna) (out:=zOAa) (S:=zCFa) (J:=zjqa) (fun _ _ _=>by kernel_rfl) (p:=zPna) (fun _ _ _ _ _ _ _ _ _ _=>⟨rfl,rfl⟩) fun _ _ _=>rfl
theorem zSAa:JOk env_ref08_sectionx0 zjba inl0 9 Tryz.f154:=zvda (hd:=zSna) (out:=zNAa) (S:=zBFa) (J:=ziqa) (fun _ _ _=>by kernel_rfl) (p:=zOna) (fun _ _ _ _ _ _ _ _ _ _ _=>⟨rfl,rfl⟩) fun _ _ _=>rfl
theorem zUAa:JOk env_ref08_sectionx0 zjba inl0 5 Tryz.f154:=zvda (hd:=zUna) (out:=zPAa) (S:=zDFa) (J:=zkqa) (fun _ _ _=>by kernel_rfl) (p:=zQna) (fun _ _ _ _ _ _ _ _ _ _=>⟨rfl,rfl⟩) fun _ _ _=>rfl
theorem zkDa:LOk env_ref08_sectionx0 zjba inl0 4 Tryz.f154:=zPoa (hd:=zyqa) (out:=zsAa) (S:=zAFa) (B:=zgsa) (p:=zTpa) (i:=4) (fun _ _ _ _=>by kernel_rfl) (fun _ _ _ _ _ _ _ _ _ _=>⟨rfl,rfl⟩) (by kernel_rfl) fun _ _ _=>rfl
theorem zvya:JOk env_ref08_sectionx0 zjba inl0 16 Tryz.f154:=jok zFia Y_ref08_sectionx0_16.mk (fun x=>(x.f1,x.f7,x.f8,x.f134,x.f135,x.f1000002,())) zWna 16
theorem zFAa:zsaa env_ref08_sectionx0 zjba inl0 (body Tryz.f154.body):=lsL (.cons zkDa (.cons zyAa .nil)) (.cons zwya (.cons zSAa (.cons zUAa (.cons zTAa (.cons zvya .nil)))))
theorem zEDa:InlF Tryz.prog env_ref08_sectionx0.b 154 (fun R st xs K Kp=>match Nat.ble xs.length env_ref08_sectionx0.n with|true=>evC env_ref08_sectionx0 zjba inl0 (body Tryz.f154.body) (st.enter env_ref08_sectionx0.b xs) (inlK env_ref08_sectionx0 [] K Kp)|false=>none) :=
 zOwa mixed ⟨envTyOk.ty,envTyOk.eq⟩ ziBa zfaa Tryz.func154 (by kernel_rfl) (by kernel_rfl) (by kernel_rfl) (by kernel_rfl) (by kernel_rfl) zFAa (by kernel_rfl)
noncomputable def zXLa:Nat→Bool
 |154=>true
 |_=>false
noncomputable def zJLa:Nat→Bool
 |6=>true
 |8=>true
 |10=>true
 |18=>true
 |21=>true
 |22=>true
 |24=>true
 |_=>false
noncomputable def znLa:Nat→Option (List Nat)
 |0|1=>some [0,1,2,1000002]
 |2|3=>some [0,1,2,7,1000002]
 |4|5|6|7|8|9|10=>some [0,1,2,7,9,1000002]
 |11|13|15=>some [0,1,2,7,13,1000002]
 |12|14|16|17|18=>some [1,2,7,1000002]
 |19|20|21=>some [1,2,7,8,1000002]
 |22=>some [1,7,1000002]
 |23|24=>some [7,1000002]
 |_=>none
noncomputable def zRKa:TypeId→Md
 |42=>(.p .s (.p (.o .s) (.p (.o .s) .s)))
 |_ => .s
noncomputable def env_ref08_section:Env:={ mE [zuea,znba,zTya] Tryz.f97 with il:=zXLa,js:=zJLa,lv:=znLa,om:=zRKa,al:=[2,55,110,111,116,117] }
noncomputable def zWaa:Inl:=fun f d R st xs K Kp=>match f,d with
 |154,some 108=>match Nat.ble xs.length env_ref08_sectionx0.n with
  |true=>evC env_ref08_sectionx0 zjba inl0 (body Tryz.f154.body) (st.enter env_ref08_sectionx0.b xs) (inlK env_ref08_sectionx0 [] K Kp)
  |false=>none
 |_,_=>none
theorem zLEa:InlOk Tryz.prog env_ref08_section.top zWaa:=zCna fun f d=>by
 unfold zWaa;split
 ·exact zEDa
 ·exact zzia
structure Y_ref08_section_21 where (f1:Tl) (f7:Tc) (f8:Int) (f1000002:It21)
noncomputable def zcma (k_normal:Tl→Tc→Int→It21→Option R) (k_exit_3:Tl→Tc→It21→Option R) (x:Y_ref08_section_21):Option R :=
 cond (decide (x.f8<(x.f1000002.2.2.1.length:Int)))
 (cond (x.f7.2.2.1==0)
 (k_normal x.f1 x.f7 x.f8 x.f1000002)
 (k_exit_3 x.f1 x.f7 x.f1000002))
 (k_exit_3 x.f1 x.f7 x.f1000002)
noncomputable def zoha:LB:=⟨[.d 1 A18,uAl 2 1000002 [.der],.d 7 B22,.d 8 A0,.d 1000002 B20],[(.normal,[.d 1 A18,uAl 2 1000002 [.der],.d 7 B22,.d 8 A0,.d 1000002 B20]),((.exit 3),[.d 1 A18,.d 7 B22,.d 1000002 B20])]⟩
noncomputable def zUra:JF Y_ref08_section_21:=fun _ K=>zcma (exS zoha 0 K) (exS zoha 1 K)
structure X_ref08_section_19 where (f1:Tl) (f7:Tc) (f8:Int) (f1000002:It21)
noncomputable def zBha (k_exit_3:Tl→Tc→It21→Option R) (rec:X_ref08_section_19→Option R) (x:X_ref08_section_19):Option R :=
 zcma (fun w1 w2 w3 w4 =>
 cond (inB w3 w4.2.2.1.length)
 (zgda w2 fun r5 b6 =>
 cond (b6.2.2.1 != 0)
 (rec ⟨w1,b6,(IntKind.i64.wrap (w3+1)),w4⟩)
 (zoaa (r5,(0,(0,()))) fun r9 b10 =>
 loopN (zuga (fun w11 w12 w13 w14 w15 w16 w17 =>
 zXba w16 fun r18 b19 =>
 zYea (fun w20 w21 w22 w23 w24 =>
 zbaa w21 w23.2.2.1 fun b25 =>
 rec ⟨w20,b25,(IntKind.i64.wrap (w22+1)),w24⟩) ⟨w11,w12,w13,w15,b19,(w17.1,(w17.2.1,((List.set w17.2.2.1 w14.toNat ((w17.2.2.1.getD w14.toNat (0,([],([],())))).1,(((w17.2.2.1.getD w14.toNat (0,([],([],())))).2).1,(r18,(((w17.2.2.1.getD w14.toNat (0,([],([],())))).2).2).2)))),w17.2.2.2)))⟩)) zpaa ⟨w1,b6,w3,w3,r5,b10,r9,w4⟩)) none) (fun w27 w28 w29 =>
 k_exit_3 w27 w28 w29) ⟨x.f1,x.f7,x.f8,x.f1000002⟩
noncomputable def zLla:LB:=⟨[.d 1 A18,uAl 2 1000002 [.der],.d 7 B22,.d 8 A0,.d 1000002 B20],[((.exit 3),[.d 1 A18,.d 7 B22,.d 1000002 B20])]⟩
noncomputable def zpua:LF X_ref08_section_19:=fun _ K=>zBha (exS zLla 0 K)
structure Y_ref08_section_10 where (f0:Int) (f1:Tl) (f7:Tc) (f9:Int) (f1000002:It21)
noncomputable def zdma (k_normal:Int→Tl→Tc→Int→It21→Option R) (k_exit_1:Tl→Tc→It21→Option R) (x:Y_ref08_section_10):Option R :=
 cond (decide (x.f9>0))
 (cond (x.f7.2.2.1==0)
 (k_normal x.f0 x.f1 x.f7 x.f9 x.f1000002)
 (k_exit_1 x.f1 x.f7 x.f1000002))
 (k_exit_1 x.f1 x.f7 x.f1000002)
noncomputable def zpha:LB:=⟨[.d 0 A0,.d 1 A18,uAl 2 1000002 [.der],.d 7 B22,.d 9 A0,.d 1000002 B20],[(.normal,[.d 0 A0,.d 1 A18,uAl 2 1000002 [.der],.d 7 B22,.d 9 A0,.d 1000002 B20]),((.exit 1),[.d 1 A18,.d 7 B22,.d 1000002 B20])]⟩
noncomputable def zWra:JF Y_ref08_section_10:=fun _ K=>zdma (exS zpha 0 K) (exS zpha 1 K)
structure X_ref08_section_8 where (f0:Int) (f1:Tl) (f7:Tc) (f9:Int) (f1000002:It21)
noncomputable def zCia (k_exit_1:Tl→Tc→It21→Option R) (rec:X_ref08_section_8→Option R) (x:X_ref08_section_8):Option R :=
 zdma (fun w1 w2 w3 w4 w5 =>
 zGda w3 w1 w5 fun b6 b7 =>
 rec ⟨w1,w2,b6,(IntKind.i64.wrap (w4-1)),b7⟩) (fun w9 w10 w11 =>
 k_exit_1 w9 w10 w11) ⟨x.f0,x.f1,x.f7,x.f9,x.f1000002⟩
noncomputable def zlna:LB:=⟨[.d 0 A0,.d 1 A18,uAl 2 1000002 [.der],.d 7 B22,.d 9 A0,.d 1000002 B20],[((.exit 1),[.d 1 A18,.d 7 B22,.d 1000002 B20])]⟩
noncomputable def zWwa:LF X_ref08_section_8:=fun _ K=>zCia (exS zlna 0 K)
structure Y_ref08_section_18 where (f1:Tl) (f7:Tc) (f1000002:It21)
noncomputable def zAha (k_normal:Tl→Tc→It21→Option R) (x:Y_ref08_section_18):Option R :=
 let k1:Option R:=(zoaa x.f7 fun r1 b2 =>
 cond (r1 != (x.f1000002.2.2.1.length:Int))
 (zbaa b2 2 fun b5 =>
 k_normal x.f1 b5 x.f1000002)
 (k_normal x.f1 b2 x.f1000002))
 both
 (k1)
 (k1)
noncomputable def zKla:LB:=⟨[.d 1 A18,uAl 2 1000002 [.der],.d 7 B22,.d 1000002 B20],[(.normal,[.d 1 A18,uAl 2 1000002 [.der],.d 7 B22,.d 1000002 B20])]⟩
noncomputable def zVra:JF Y_ref08_section_18:=fun _ K=>zAha (exS zKla 0 K)
structure Y_ref08_section_6 where (f0:Int) (f1:Tl) (f7:Tc) (f9:Int) (f1000002:It21)
noncomputable def zBia (k_normal:Int→Tl→Tc→Int→It21→Option R) (x:Y_ref08_section_6):Option R :=
 cond (x.f0==11)
 (cond ((x.f1000002.2.2.2.2.2.2.2.2.2.1.length:Int)==1)
 (cond (inB 0 x.f1000002.2.2.2.2.2.2.2.2.2.1.length)
 (cond ((x.f1000002.2.2.2.2.2.2.2.2.2.1.getD (0:Int).toNat 0) != x.f9)
 (zbaa x.f7 2 fun b6 =>
 k_normal x.f0 x.f1 b6 x.f9 x.f1000002)
 (k_normal x.f0 x.f1 x.f7 x.f9 x.f1000002)) none)
 (k_normal x.f0 x.f1 x.f7 x.f9 x.f1000002))
 (k_normal x.f0 x.f1 x.f7 x.f9 x.f1000002)
noncomputable def zjna:LB:=⟨[.d 0 A0,.d 1 A18,uAl 2 1000002 [.der],.d 7 B22,.d 9 A0,.d 1000002 B20],[(.normal,[.d 0 A0,.d 1 A18,uAl 2 1000002 [.der],.d 7 B22,.d 9 A0,.d 1000002 B20])]⟩
noncomputable def zNta:JF Y_ref08_section_6:=fun _ K=>zBia (exS zjna 0 K)
structure Y_ref08_section_8 where (f0:Int) (f1:Tl) (f7:Tc) (f9:Int) (f1000002:It21)
noncomputable def zAia (k_normal:Int→Tl→Tc→Int→It21→Option R) (x:Y_ref08_section_8):Option R :=
 cond (decide (x.f9>64))
 (zbaa x.f7 4 fun b2 =>
 k_normal x.f0 x.f1 b2 x.f9 x.f1000002)
 (k_normal x.f0 x.f1 x.f7 x.f9 x.f1000002)
noncomputable def zina:LB:=⟨[.d 0 A0,.d 1 A18,uAl 2 1000002 [.der],.d 7 B22,.d 9 A0,.d 1000002 B20],[(.normal,[.d 0 A0,.d 1 A18,uAl 2 1000002 [.der],.d 7 B22,.d 9 A0,.d 1000002 B20])]⟩
noncomputable def zMta:JF Y_ref08_section_8:=fun _ K=>zAia (exS zina 0 K)
structure Y_ref08_section_22 where (f0:Int) (f1:Tl) (f7:Tc) (f1000002:It21)
noncomputable def zbma (k_normal:Tl→Tc→It21→Option R) (x:Y_ref08_section_22):Option R :=
 cond (x.f0==8)
 (zoaa x.f7 fun r2 b3 =>
 k_normal x.f1 b3 (x.f1000002.1,(x.f1000002.2.1,(x.f1000002.2.2.1,(x.f1000002.2.2.2.1,(x.f1000002.2.2.2.2.1,(x.f1000002.2.2.2.2.2.1,(x.f1000002.2.2.2.2.2.2.1,((List.set (List.replicate 1 (0:Int)) 0 r2),x.f1000002.2.2.2.2.2.2.2.2)))))))))
 (cond (x.f0==12)
 (zoaa x.f7 fun r6 b7 =>
 k_normal x.f1 b7 (x.f1000002.1,(x.f1000002.2.1,(x.f1000002.2.2.1,(x.f1000002.2.2.2.1,(x.f1000002.2.2.2.2.1,(x.f1000002.2.2.2.2.2.1,(x.f1000002.2.2.2.2.2.2.1,(x.f1000002.2.2.2.2.2.2.2.1,(x.f1000002.2.2.2.2.2.2.2.2.1,((List.set (List.replicate 1 (0:Int)) 0 r6),x.f1000002.2.2.2.2.2.2.2.2.2.2)))))))))))
 (cond (x.f0==10)
 (zAha (fun w10 w11 w12 =>
 loopN (zBha (fun w13 w14 w15 =>
 k_normal w13 w14 w15)) zpaa ⟨w10,w11,0,w12⟩) ⟨x.f1,x.f7,x.f1000002⟩)
 (zoaa x.f7 fun r16 b17 =>
 zBia (fun w18 w19 w20 w21 w22 =>
 zAia (fun w23 w24 w25 w26 w27 =>
 loopN (zCia (fun w28 w29 w30 =>
 k_normal w28 w29 w30)) zpaa ⟨w23,w24,w25,w26,w27⟩) ⟨w18,w19,w20,w21,w22⟩) ⟨x.f0,x.f1,b17,r16,x.f1000002⟩)))
noncomputable def zJla:LB:=⟨[.d 0 A0,.d 1 A18,uAl 2 1000002 [.der],.d 7 B22,.d 1000002 B20],[(.normal,[.d 1 A18,.d 7 B22,.d 1000002 B20])]⟩
noncomputable def zTra:JF Y_ref08_section_22:=fun _ K=>zbma (exS zJla 0 K)
structure Y_ref08_section_24 where (f1:Tl) (f7:Tc) (f1000002:It21)
noncomputable def zama (k_normal:Tc→It21→Option R) (x:Y_ref08_section_24):Option R :=
 cond (x.f7.2.2.1==0)
 (cond (decide (x.f7.2.1<(x.f1.length:Int)))
 (zbaa x.f7 2 fun b4 =>
 k_normal b4 x.f1000002)
 (k_normal x.f7 x.f1000002))
 (k_normal x.f7 x.f1000002)
noncomputable def zIla:LB:=⟨[.d 1 A18,.d 7 B22,.d 1000002 B20],[(.normal,[.d 7 B22,.d 1000002 B20])]⟩
noncomputable def zSra:JF Y_ref08_section_24:=fun _ K=>zama (exS zIla 0 K)
noncomputable def zEba:Loops:=fun z i R st K=>match z,i with
 |false,19=>lpS zLla X_ref08_section_19.mk zpua K st
 |false,8=>lpS zlna X_ref08_section_8.mk zWwa K st
 |true,21=>jpS zoha Y_ref08_section_21.mk zUra K st
 |true,10=>jpS zpha Y_ref08_section_10.mk zWra K st
 |true,18=>jpS zKla Y_ref08_section_18.mk zVra K st
 |true,6=>jpS zjna Y_ref08_section_6.mk zNta K st
 |true,8=>jpS zina Y_ref08_section_8.mk zMta K st
 |true,22=>jpS zJla Y_ref08_section_22.mk zTra K st
 |true,24=>jpS zIla Y_ref08_section_24.mk zSra K st
 |_,_=>none
theorem zADa:JOk env_ref08_section zEba zWaa 21 Tryz.f97:=jok zoha Y_ref08_section_21.mk (fun x=>(x.f1,x.f7,x.f8,x.f1000002,())) zUra 21
theorem zyEa:LOk env_ref08_section zEba zWaa 19 Tryz.f97:=lok zLla X_ref08_section_19.mk (fun x=>(x.f1,x.f7,x.f8,x.f1000002,())) zpua 19
theorem zCDa:JOk env_ref08_section zEba zWaa 10 Tryz.f97:=jok zpha Y_ref08_section_10.mk (fun x=>(x.f0,x.f1,x.f7,x.f9,x.f1000002,())) zWra 10
theorem zqGa:LOk env_ref08_section zEba zWaa 8 Tryz.f97:=lok zlna X_ref08_section_8.mk (fun x=>(x.f0,x.f1,x.f7,x.f9,x.f1000002,())) zWwa 8
theorem zBDa:JOk env_ref08_section zEba zWaa 18 Tryz.f97:=jok zKla Y_ref08_section_18.mk (fun x=>(x.f1,x.f7,x.f1000002,())) zVra 18
theorem zIEa:JOk env_ref08_section zEba zWaa 6 Tryz.f97:=jok zjna Y_ref08_section_6.mk (fun x=>(x.f0,x.f1,x.f7,x.f9,x.f1000002,())) zNta 6
theorem zHEa:JOk env_ref08_section zEba zWaa 8 Tryz.f97:=jok zina Y_ref08_section_8.mk (fun x=>(x.f0,x.f1,x.f7,x.f9,x.f1000002,())) zMta 8
theorem zzDa:JOk env_ref08_section zEba zWaa 22 Tryz.f97:=jok zJla Y_ref08_section_22.mk (fun x=>(x.f0,x.f1,x.f7,x.f1000002,())) zTra 22
theorem zyDa:JOk env_ref08_section zEba zWaa 24 Tryz.f97:=jok zIla Y_ref08_section_24.mk (fun x=>(x.f1,x.f7,x.f1000002,())) zSra 24
theorem zEEa:zsaa env_ref08_section zEba zWaa (body Tryz.f97.body):=lsL (.cons zyEa (.cons zqGa .nil)) (.cons zADa (.cons zBDa (.cons zCDa (.cons zHEa (.cons zIEa (.cons zyDa (.cons zzDa .nil)))))))
noncomputable def zlma (a0:Int) (a1:Tl) (a2:It21) (K:Int→It21→Option R):Option R :=
 zbma (fun w1 w2 w3 =>
 zama (fun w4 w5 =>
 K w4.2.2.1 w5) ⟨w1,w2,w3⟩) ⟨a0,a1,(a1,(0,(0,()))),a2⟩
noncomputable def ziza:CSpec:={ ins:=[(.val (.int .i64) .s),(.val (.sl 5 (.int .u8)) .s),(.ref Ty32 (.p (.o .s) (.p (.o .s) (.p (.o (.p .s (.p (.o .s) (.p (.o .s) .s)))) (.p (.o .s) (.p (.o .s) (.p (.o .s) (.p (.o .s) (.p (.o .s) (.p (.o .s) (.p (.o .s) (.p (.o .s) (.p (.o .s) .s)))))))))))) (.p (.o .s) (.p (.o .s) (.p (.o (.p .s (.p (.o .s) (.p (.o .s) .s)))) (.p (.o .s) (.p (.o .s) (.p (.o .s) (.p (.o .s) (.p (.o .s) (.p (.o .s) (.p (.o .s) (.p (.o .s) (.p (.o .s) .s)))))))))))))],outs:=[((.int .i64),.s)],fn:=fun d K _=>zlma d.1 d.2.1 d.2.2.1 (fun r0 b2=>K ((r0,()):Int×Unit) ((b2,()):It21×Unit)) }
theorem zeOa:Holds Tryz.prog 97 ziza:=hw env_ref08_section [(6,none)] zLEa Tryz.func97 zEEa ⟨mixed,envTyOk.ty,envTyOk.eq⟩
noncomputable def zjOa:GE Tryz.prog:=⟨97,[],ziza,zeOa⟩
noncomputable def zcOa:Nat→Bool
 |6=>true
 |14=>true
 |20=>true
 |_=>false
noncomputable def zSNa:Nat→Option (List Nat)
 |0=>some [0]
 |1=>some [0,2]
 |2=>some [2,4,5]
 |3=>some [2,4,5,6]
 |4=>some [2,4,5,6,7]
 |5|6|7|8|9|13=>some [2,4,5,6,7,8]
 |10=>some [2,4,5,6,7,8,9,10,11]
 |11=>some [2,11]
 |12=>some [2,4,5,6,7,8,9,10]
 |14=>some [2,4,5,6,7,8,12]
 |15=>some [2,12]
 |16=>some [2,5,6,7]
 |17=>some [2,5]
 |18=>some [2,6,7]
 |19=>some [2]
 |20=>some [2,6]
 |_=>none
noncomputable def zyNa:TypeId→Md
 |42=>(.p .s (.p (.o .s) (.p (.o .s) .s)))
 |_ => .s
noncomputable def zvea:Env:={ mE [zLSa,zxQa,zjOa] Tryz.f53 with js:=zcOa,lv:=zSNa,om:=zyNa }
structure Y_ref08_Decode_14 where (f2:It21) (f4:List Ts) (f5:Int) (f6:It21) (f7:List Bool) (f8:Int)
noncomputable def zKna (k_normal:It21→(List Ts)→Int→It21→(List Bool)→Int→Int→Option R) (x:Y_ref08_Decode_14):Option R :=
 cond (inB x.f8 x.f4.length)
 (cond (inB x.f8 x.f4.length)
 (let k1:Option R:=(zlma ((x.f4.getD x.f8.toNat (0,([],()))).1) (((x.f4.getD x.f8.toNat (0,([],()))).2).1) x.f6 fun r3 b4 =>
 k_normal x.f2 x.f4 x.f5 b4 x.f7 x.f8 r3)
 both
 (k1)
 (k1)) none) none
noncomputable def zkna:LB:=⟨[.d 2 B23,.d 4 A25,.d 5 A0,.d 6 B23,.d 7 B24,.d 8 A0],[(.normal,[.d 2 B23,.d 4 A25,.d 5 A0,.d 6 B23,.d 7 B24,.d 8 A0,.d 12 A0])]⟩
noncomputable def zPta:JF Y_ref08_Decode_14:=fun _ K=>zKna (exS zkna 0 K)
structure Y_ref08_Decode_6 where (f2:It21) (f4:List Ts) (f5:Int) (f6:It21) (f7:List Bool) (f8:Int)
noncomputable def zdra (k_ret:It21→Int→Option R) (k_normal:It21→(List Ts)→Int→It21→(List Bool)→Int→Option R) (x:Y_ref08_Decode_6):Option R :=
 cond (inB x.f8 x.f4.length)
 (let v1:=(x.f4.getD x.f8.toNat (0,([],()))).1
 cond (inB v1 13)
 (cond (inB x.f8 x.f4.length)
 (cond (((x.f4.getD x.f8.toNat (0,([],()))).1)==0)
 (cond (inB x.f8 x.f4.length)
 (zHoa (((x.f4.getD x.f8.toNat (0,([],()))).2).1) fun r5 r6 r7 =>
 cond (r7 != 0)
 (k_ret ([],([],([],([],([],([],([],([],([],([],([],([],())))))))))))) r7)
 (let v9:=List.set (List.replicate 1 (([]:List UInt8),(([]:List (Int)),()))) 0 (r5,(r6,()))
 cond (decide (x.f6.2.2.2.2.2.2.2.2.2.2.2.1.length+v9.length≤most))
 (k_normal x.f2 x.f4 x.f5 (x.f6.1,(x.f6.2.1,(x.f6.2.2.1,(x.f6.2.2.2.1,(x.f6.2.2.2.2.1,(x.f6.2.2.2.2.2.1,(x.f6.2.2.2.2.2.2.1,(x.f6.2.2.2.2.2.2.2.1,(x.f6.2.2.2.2.2.2.2.2.1,(x.f6.2.2.2.2.2.2.2.2.2.1,(x.f6.2.2.2.2.2.2.2.2.2.2.1,((x.f6.2.2.2.2.2.2.2.2.2.2.2.1++v9),x.f6.2.2.2.2.2.2.2.2.2.2.2.2)))))))))))) (List.set x.f7 v1.toNat true) x.f8) none)) none)
 (zKna (fun w11 w12 w13 w14 w15 w16 w17 =>
 cond (w17 != 0)
 (k_ret ([],([],([],([],([],([],([],([],([],([],([],([],())))))))))))) w17)
 (k_normal w11 w12 w13 w14 w15 w16)) ⟨x.f2,x.f4,x.f5,x.f6,(List.set x.f7 v1.toNat true),x.f8⟩)) none) none) none
noncomputable def zJja:LB:=⟨[.d 2 B23,.d 4 A25,.d 5 A0,.d 6 B23,.d 7 B24,.d 8 A0],[(.ret,[.d 2 B23,.d 3 A0]),(.normal,[.d 2 B23,.d 4 A25,.d 5 A0,.d 6 B23,.d 7 B24,.d 8 A0])]⟩
noncomputable def zNwa:JF Y_ref08_Decode_6:=fun _ K=>zdra (exS zJja 0 K) (exS zJja 1 K)
structure X_ref08_Decode_5 where (f2:It21) (f4:List Ts) (f5:Int) (f6:It21) (f7:List Bool) (f8:Int)
noncomputable def zVka (k_ret:It21→Int→Option R) (k_exit_0:It21→Int→It21→(List Bool)→Option R) (rec:X_ref08_Decode_5→Option R) (x:X_ref08_Decode_5):Option R :=
 cond (decide (x.f8<(x.f4.length:Int)))
 (zdra (fun w3 w4 =>
 k_ret w3 w4) (fun w5 w6 w7 w8 w9 w10 =>
 rec ⟨w5,w6,w7,w8,w9,(IntKind.i64.wrap (w10+1))⟩) ⟨x.f2,x.f4,x.f5,x.f6,x.f7,x.f8⟩)
 (k_exit_0 x.f2 x.f5 x.f6 x.f7)
noncomputable def zRja:LB:=⟨[.d 2 B23,.d 4 A25,.d 5 A0,.d 6 B23,.d 7 B24,.d 8 A0],[(.ret,[.d 2 B23,.d 3 A0]),((.exit 0),[.d 2 B23,.d 5 A0,.d 6 B23,.d 7 B24])]⟩
noncomputable def zFza:LF X_ref08_Decode_5:=fun _ K=>zVka (exS zRja 0 K) (exS zRja 1 K)
structure Y_ref08_Decode_20 where (f2 f6:It21) (f7:List Bool)
noncomputable def zJna (k_ret:It21→Int→Option R) (k_normal:It21→It21→Option R) (x:Y_ref08_Decode_20):Option R :=
 let k1:Option R:=(cond (decide ((x.f6.2.2.2.2.2.2.2.2.2.1.length:Int)>0))
 (cond (inB 0 x.f6.2.2.2.2.2.2.2.2.2.1.length)
 (cond (decide ((x.f6.2.2.2.2.2.2.2.2.2.1.getD (0:Int).toNat 0)>0))
 (cond (inB 11 13)
 (cond (!(x.f7.getD (11:Int).toNat false))
 (k_ret ([],([],([],([],([],([],([],([],([],([],([],([],())))))))))))) 2)
 (k_normal x.f2 x.f6)) none)
 (k_normal x.f2 x.f6)) none)
 (k_normal x.f2 x.f6))
 cond (decide ((x.f6.2.2.1.length:Int)>0))
 (cond (inB 10 13)
 (cond (!(x.f7.getD (10:Int).toNat false))
 (k_ret ([],([],([],([],([],([],([],([],([],([],([],([],())))))))))))) 2)
 (k1)) none)
 (k1)
noncomputable def zsia:LB:=⟨[.d 2 B23,.d 6 B23,.d 7 B24],[(.ret,[.d 2 B23,.d 3 A0]),(.normal,[.d 2 B23,.d 6 B23])]⟩
noncomputable def zOta:JF Y_ref08_Decode_20:=fun _ K=>zJna (exS zsia 0 K) (exS zsia 1 K)
noncomputable def zVha:Loops:=fun z i R st K=>match z,i with
 |false,5=>lpS zRja X_ref08_Decode_5.mk zFza K st
 |true,14=>jpS zkna Y_ref08_Decode_14.mk zPta K st
 |true,6=>jpS zJja Y_ref08_Decode_6.mk zNwa K st
 |true,20=>jpS zsia Y_ref08_Decode_20.mk zOta K st
 |_,_=>none
theorem zKEa:JOk zvea zVha inl0 14 Tryz.f53:=jok zkna Y_ref08_Decode_14.mk (fun x=>(x.f2,x.f4,x.f5,x.f6,x.f7,x.f8,())) zPta 14
theorem zNGa:JOk zvea zVha inl0 6 Tryz.f53:=jok zJja Y_ref08_Decode_6.mk (fun x=>(x.f2,x.f4,x.f5,x.f6,x.f7,x.f8,())) zNwa 6
theorem zhJa:LOk zvea zVha inl0 5 Tryz.f53:=lok zRja X_ref08_Decode_5.mk (fun x=>(x.f2,x.f4,x.f5,x.f6,x.f7,x.f8,())) zFza 5
theorem zJEa:JOk zvea zVha inl0 20 Tryz.f53:=jok zsia Y_ref08_Decode_20.mk (fun x=>(x.f2,x.f6,x.f7,())) zOta 20
theorem zyGa:zsaa zvea zVha inl0 (body Tryz.f53.body):=lsL (.cons zhJa .nil) (.cons zKEa (.cons zNGa (.cons zJEa .nil)))
noncomputable def zGoa (a0:Tl) (K:It21→Int→Option R):Option R :=
 zMra a0 fun r1 r2 =>
 let v3:=List.replicate 13 false
 loopN (zVka (fun w4 w5 =>
 K w4 w5) (fun w6 w7 w8 w9 =>
 cond (w7 != 0)
 (K ([],([],([],([],([],([],([],([],([],([],([],([],())))))))))))) w7)
 (zJna (fun w11 w12 =>
 K w11 w12) (fun w13 w14 =>
 K w14 0) ⟨w6,w8,w9⟩))) zpaa ⟨([],([],([],([],([],([],([],([],([],([],([],([],())))))))))))),r1,r2,([],([],([],([],([],([],([],([],([],([],([],([],())))))))))))),v3,0⟩
noncomputable def zaCa:CSpec:={ ins:=[(.val (.sl 5 (.int .u8)) .s)],outs:=[(Ty32,(.p (.o .s) (.p (.o .s) (.p (.o (.p .s (.p (.o .s) (.p (.o .s) .s)))) (.p (.o .s) (.p (.o .s) (.p (.o .s) (.p (.o .s) (.p (.o .s) (.p (.o .s) (.p (.o .s) (.p (.o .s) (.p (.o .s) .s))))))))))))),((.int .i64),.s)],fn:=fun d K _=>zGoa d.1 (fun r0 r1=>K (r0,r1,()) ()) }
theorem zfQa:Holds Tryz.prog 53 zaCa:=hw zvea [(2,some 33),(3,none)] zfaa Tryz.func53 zyGa ⟨mixed,envTyOk.ty,envTyOk.eq⟩
noncomputable def zwQa:GE Tryz.prog:=⟨53,[],zaCa,zfQa⟩
noncomputable def zXSa:Nat→Bool
 |2=>true
 |3=>true
 |_=>false
noncomputable def zZQa:Env:={ mE [zDqa] Tryz.f41 with fz:=zXSa }
noncomputable def zfva (a0 a1:Tq) (K:Bool→Option R):Option R :=
 zDba a0.1 a1.1 fun r1 =>
 cond r1
 (zDba a0.2.1 a1.2.1 fun r2 =>
 K r2)
 (K false)
noncomputable def zWHa:CSpec:={ ins:=[(.val (.pair (.sl 3 (.int .i64)) (.pair (.sl 3 (.int .i64)) .unit)) .s),(.val (.pair (.sl 3 (.int .i64)) (.pair (.sl 3 (.int .i64)) .unit)) .s)],outs:=[(.bool,.s)],fn:=fun d K _=>zfva d.1 d.2.1 (fun r0=>K (r0,()) ()) }
theorem zIUa:Holds Tryz.prog 41 zWHa:=hw zZQa [(4,none)] (lp:=lp0) (code:=body Tryz.f41.body) zfaa Tryz.func41 l0 ⟨mixed,envTyOk.ty,envTyOk.eq⟩
noncomputable def zgVa:GE Tryz.prog:=⟨41,[],zWHa,zIUa⟩
noncomputable def zVSa:Nat→Bool
 |2=>true
 |3=>true
 |_=>false
noncomputable def zcSa:Nat→Option (List Nat)
 |0=>some [0,1]
 |1|3=>some [2,3]
 |2=>some []
 |4|8|12|16|20|24|28|32|36|40=>some [2,3,5]
 |5|6|7=>some [2,3,5,6]
 |9|10|11=>some [2,3,5,7]
 |13|14|15=>some [2,3,5,8]
 |17|18|19=>some [2,3,5,9]
 |21|22|23=>some [2,3,5,10]
 |25|26|27=>some [2,3,5,11]
 |29|30|31=>some [2,3,5,12]
 |33|34|35=>some [2,3,5,13]
 |37|38|39=>some [2,3,5,14]
 |41|42|43=>some [2,3,5,15]
 |44=>some [5]
 |_=>none
noncomputable def zWRa:TypeId→Md
 |42=>(.p .s (.p (.o .s) (.p (.o .s) .s)))
 |_ => .s
noncomputable def zIba:Env:={ mE [zDqa,zgVa,zWBa,zpMa] Tryz.f54 with fz:=zVSa,lv:=zcSa,om:=zWRa }
structure X_ref08_Same_5 where (f2 f3:It21) (f5:Bool) (f6:Int)
noncomputable def zUka (k_exit_0:It21→It21→Bool→Option R) (rec:X_ref08_Same_5→Option R) (x:X_ref08_Same_5):Option R :=
 cond (decide (x.f6<(x.f2.1.length:Int)))
 (cond x.f5
 (cond (inB x.f6 x.f2.1.length)
 (cond (inB x.f6 x.f3.1.length)
 (zfva (x.f2.1.getD x.f6.toNat ([],([],()))) (x.f3.1.getD x.f6.toNat ([],([],()))) fun r5 =>
 rec ⟨x.f2,x.f3,r5,(IntKind.i64.wrap (x.f6+1))⟩) none) none)
 (rec ⟨x.f2,x.f3,false,(IntKind.i64.wrap (x.f6+1))⟩))
 (k_exit_0 x.f2 x.f3 x.f5)
noncomputable def zMua:LB:=⟨[.d 2 B8,.d 3 B8,.d 5 A22,.d 6 A0],[((.exit 0),[.d 2 B8,.d 3 B8,.d 5 A22])]⟩
noncomputable def zGFa:LF X_ref08_Same_5:=fun _ K=>zUka (exS zMua 0 K)
structure X_ref08_Same_9 where (f2 f3:It21) (f5:Bool) (f7:Int)
noncomputable def zTka (k_exit_2:It21→It21→Bool→Option R) (rec:X_ref08_Same_9→Option R) (x:X_ref08_Same_9):Option R :=
 cond (decide (x.f7<(x.f2.2.1.length:Int)))
 (cond x.f5
 (cond (inB x.f7 x.f2.2.1.length)
 (let v3:=x.f2.2.1.getD x.f7.toNat ([],([],(0,(0,((0,(false,(0,()))),(false,()))))))
 cond (inB x.f7 x.f3.2.1.length)
 (let v4:=x.f3.2.1.getD x.f7.toNat ([],([],(0,(0,((0,(false,(0,()))),(false,()))))))
 rec ⟨x.f2,x.f3,((v3.1==v4.1)&&((v3.2.1==v4.2.1)&&((v3.2.2.1==v4.2.2.1)&&((v3.2.2.2.1==v4.2.2.2.1)&&(((v3.2.2.2.2.1.1==v4.2.2.2.2.1.1)&&((v3.2.2.2.2.1.2.1==v4.2.2.2.2.1.2.1)&&((v3.2.2.2.2.1.2.2.1==v4.2.2.2.2.1.2.2.1)&&true)))&&((v3.2.2.2.2.2.1==v4.2.2.2.2.2.1)&&true)))))),(IntKind.i64.wrap (x.f7+1))⟩) none) none)
 (rec ⟨x.f2,x.f3,false,(IntKind.i64.wrap (x.f7+1))⟩))
 (k_exit_2 x.f2 x.f3 x.f5)
noncomputable def zLua:LB:=⟨[.d 2 B8,.d 3 B8,.d 5 A22,.d 7 A0],[((.exit 2),[.d 2 B8,.d 3 B8,.d 5 A22])]⟩
noncomputable def zFFa:LF X_ref08_Same_9:=fun _ K=>zTka (exS zLua 0 K)
structure X_ref08_Same_13 where (f2 f3:It21) (f5:Bool) (f8:Int)
noncomputable def zqia (k_exit_4:It21→It21→Bool→Option R) (rec:X_ref08_Same_13→Option R) (x:X_ref08_Same_13):Option R :=
 cond (decide (x.f8<(x.f2.2.2.1.length:Int)))
 (cond x.f5
 (cond (inB x.f8 x.f2.2.2.1.length)
 (cond (inB x.f8 x.f3.2.2.1.length)
 (cond ((x.f2.2.2.1.getD x.f8.toNat (0,([],([],())))).1==(x.f3.2.2.1.getD x.f8.toNat (0,([],([],())))).1)
 (cond (inB x.f8 x.f2.2.2.1.length)
 (cond (inB x.f8 x.f3.2.2.1.length)
 (zDba (x.f2.2.2.1.getD x.f8.toNat (0,([],([],())))).2.1 (x.f3.2.2.1.getD x.f8.toNat (0,([],([],())))).2.1 fun r8 =>
 cond r8
 (cond (inB x.f8 x.f2.2.2.1.length)
 (cond (inB x.f8 x.f3.2.2.1.length)
 (zZca (x.f2.2.2.1.getD x.f8.toNat (0,([],([],())))).2.2.1 (x.f3.2.2.1.getD x.f8.toNat (0,([],([],())))).2.2.1 fun r11 =>
 rec ⟨x.f2,x.f3,r11,(IntKind.i64.wrap (x.f8+1))⟩) none) none)
 (rec ⟨x.f2,x.f3,false,(IntKind.i64.wrap (x.f8+1))⟩)) none) none)
 (rec ⟨x.f2,x.f3,false,(IntKind.i64.wrap (x.f8+1))⟩)) none) none)
 (rec ⟨x.f2,x.f3,false,(IntKind.i64.wrap (x.f8+1))⟩))
 (k_exit_4 x.f2 x.f3 x.f5)
noncomputable def zLsa:LB:=⟨[.d 2 B8,.d 3 B8,.d 5 A22,.d 8 A0],[((.exit 4),[.d 2 B8,.d 3 B8,.d 5 A22])]⟩
noncomputable def zzCa:LF X_ref08_Same_13:=fun _ K=>zqia (exS zLsa 0 K)
structure X_ref08_Same_17 where (f2 f3:It21) (f5:Bool) (f9:Int)
noncomputable def zpia (k_exit_6:It21→It21→Bool→Option R) (rec:X_ref08_Same_17→Option R) (x:X_ref08_Same_17):Option R :=
 cond (decide (x.f9<(x.f2.2.2.2.1.length:Int)))
 (cond x.f5
 (cond (inB x.f9 x.f2.2.2.2.1.length)
 (let v3:=x.f2.2.2.2.1.getD x.f9.toNat (0,(false,(0,())))
 cond (inB x.f9 x.f3.2.2.2.1.length)
 (let v4:=x.f3.2.2.2.1.getD x.f9.toNat (0,(false,(0,())))
 rec ⟨x.f2,x.f3,((v3.1==v4.1)&&((v3.2.1==v4.2.1)&&((v3.2.2.1==v4.2.2.1)&&true))),(IntKind.i64.wrap (x.f9+1))⟩) none) none)
 (rec ⟨x.f2,x.f3,false,(IntKind.i64.wrap (x.f9+1))⟩))
 (k_exit_6 x.f2 x.f3 x.f5)
noncomputable def zKsa:LB:=⟨[.d 2 B8,.d 3 B8,.d 5 A22,.d 9 A0],[((.exit 6),[.d 2 B8,.d 3 B8,.d 5 A22])]⟩
noncomputable def zyCa:LF X_ref08_Same_17:=fun _ K=>zpia (exS zKsa 0 K)
structure X_ref08_Same_21 where (f2 f3:It21) (f5:Bool) (f10:Int)
noncomputable def zoia (k_exit_8:It21→It21→Bool→Option R) (rec:X_ref08_Same_21→Option R) (x:X_ref08_Same_21):Option R :=
 cond (decide (x.f10<(x.f2.2.2.2.2.1.length:Int)))
 (cond x.f5
 (cond (inB x.f10 x.f2.2.2.2.2.1.length)
 (let v3:=x.f2.2.2.2.2.1.getD x.f10.toNat (0,(false,(0,())))
 cond (inB x.f10 x.f3.2.2.2.2.1.length)
 (let v4:=x.f3.2.2.2.2.1.getD x.f10.toNat (0,(false,(0,())))
 rec ⟨x.f2,x.f3,((v3.1==v4.1)&&((v3.2.1==v4.2.1)&&((v3.2.2.1==v4.2.2.1)&&true))),(IntKind.i64.wrap (x.f10+1))⟩) none) none)
 (rec ⟨x.f2,x.f3,false,(IntKind.i64.wrap (x.f10+1))⟩))
 (k_exit_8 x.f2 x.f3 x.f5)
noncomputable def zJsa:LB:=⟨[.d 2 B8,.d 3 B8,.d 5 A22,.d 10 A0],[((.exit 8),[.d 2 B8,.d 3 B8,.d 5 A22])]⟩
noncomputable def zxCa:LF X_ref08_Same_21:=fun _ K=>zoia (exS zJsa 0 K)
structure X_ref08_Same_25 where (f2 f3:It21) (f5:Bool) (f11:Int)
noncomputable def znia (k_exit_10:It21→It21→Bool→Option R) (rec:X_ref08_Same_25→Option R) (x:X_ref08_Same_25):Option R :=
 cond (decide (x.f11<(x.f2.2.2.2.2.2.1.length:Int)))
 (cond x.f5
 (cond (inB x.f11 x.f2.2.2.2.2.2.1.length)
 (cond (inB x.f11 x.f3.2.2.2.2.2.1.length)
 (cond ((x.f2.2.2.2.2.2.1.getD x.f11.toNat (0,(false,([],())))).1==(x.f3.2.2.2.2.2.1.getD x.f11.toNat (0,(false,([],())))).1)
 (cond (inB x.f11 x.f2.2.2.2.2.2.1.length)
 (cond (inB x.f11 x.f3.2.2.2.2.2.1.length)
 (cond ((x.f2.2.2.2.2.2.1.getD x.f11.toNat (0,(false,([],())))).2.1==(x.f3.2.2.2.2.2.1.getD x.f11.toNat (0,(false,([],())))).2.1)
 (cond (inB x.f11 x.f2.2.2.2.2.2.1.length)
 (cond (inB x.f11 x.f3.2.2.2.2.2.1.length)
 (zZca (x.f2.2.2.2.2.2.1.getD x.f11.toNat (0,(false,([],())))).2.2.1 (x.f3.2.2.2.2.2.1.getD x.f11.toNat (0,(false,([],())))).2.2.1 fun r11 =>
 rec ⟨x.f2,x.f3,r11,(IntKind.i64.wrap (x.f11+1))⟩) none) none)
 (rec ⟨x.f2,x.f3,false,(IntKind.i64.wrap (x.f11+1))⟩)) none) none)
 (rec ⟨x.f2,x.f3,false,(IntKind.i64.wrap (x.f11+1))⟩)) none) none)
 (rec ⟨x.f2,x.f3,false,(IntKind.i64.wrap (x.f11+1))⟩))
 (k_exit_10 x.f2 x.f3 x.f5)
noncomputable def zIsa:LB:=⟨[.d 2 B8,.d 3 B8,.d 5 A22,.d 11 A0],[((.exit 10),[.d 2 B8,.d 3 B8,.d 5 A22])]⟩
noncomputable def zwCa:LF X_ref08_Same_25:=fun _ K=>znia (exS zIsa 0 K)
structure X_ref08_Same_29 where (f2 f3:It21) (f5:Bool) (f12:Int)
noncomputable def zmia (k_exit_12:It21→It21→Bool→Option R) (rec:X_ref08_Same_29→Option R) (x:X_ref08_Same_29):Option R :=
 cond (decide (x.f12<(x.f2.2.2.2.2.2.2.1.length:Int)))
 (cond x.f5
 (cond (inB x.f12 x.f2.2.2.2.2.2.2.1.length)
 (let v3:=x.f2.2.2.2.2.2.2.1.getD x.f12.toNat ([],(0,(0,())))
 cond (inB x.f12 x.f3.2.2.2.2.2.2.1.length)
 (let v4:=x.f3.2.2.2.2.2.2.1.getD x.f12.toNat ([],(0,(0,())))
 rec ⟨x.f2,x.f3,((v3.1==v4.1)&&((v3.2.1==v4.2.1)&&((v3.2.2.1==v4.2.2.1)&&true))),(IntKind.i64.wrap (x.f12+1))⟩) none) none)
 (rec ⟨x.f2,x.f3,false,(IntKind.i64.wrap (x.f12+1))⟩))
 (k_exit_12 x.f2 x.f3 x.f5)
noncomputable def zHsa:LB:=⟨[.d 2 B8,.d 3 B8,.d 5 A22,.d 12 A0],[((.exit 12),[.d 2 B8,.d 3 B8,.d 5 A22])]⟩
noncomputable def zvCa:LF X_ref08_Same_29:=fun _ K=>zmia (exS zHsa 0 K)
structure X_ref08_Same_33 where (f2 f3:It21) (f5:Bool) (f13:Int)
noncomputable def zlia (k_exit_14:It21→It21→Bool→Option R) (rec:X_ref08_Same_33→Option R) (x:X_ref08_Same_33):Option R :=
 cond (decide (x.f13<(x.f2.2.2.2.2.2.2.2.2.1.length:Int)))
 (cond x.f5
 (cond (inB x.f13 x.f2.2.2.2.2.2.2.2.2.1.length)
 (cond (inB x.f13 x.f3.2.2.2.2.2.2.2.2.1.length)
 (cond ((x.f2.2.2.2.2.2.2.2.2.1.getD x.f13.toNat (0,([],([],())))).1==(x.f3.2.2.2.2.2.2.2.2.1.getD x.f13.toNat (0,([],([],())))).1)
 (cond (inB x.f13 x.f2.2.2.2.2.2.2.2.2.1.length)
 (cond (inB x.f13 x.f3.2.2.2.2.2.2.2.2.1.length)
 (zZca (x.f2.2.2.2.2.2.2.2.2.1.getD x.f13.toNat (0,([],([],())))).2.1 (x.f3.2.2.2.2.2.2.2.2.1.getD x.f13.toNat (0,([],([],())))).2.1 fun r8 =>
 cond r8
 (cond (inB x.f13 x.f2.2.2.2.2.2.2.2.2.1.length)
 (cond (inB x.f13 x.f3.2.2.2.2.2.2.2.2.1.length)
 (zDba (x.f2.2.2.2.2.2.2.2.2.1.getD x.f13.toNat (0,([],([],())))).2.2.1 (x.f3.2.2.2.2.2.2.2.2.1.getD x.f13.toNat (0,([],([],())))).2.2.1 fun r11 =>
 rec ⟨x.f2,x.f3,r11,(IntKind.i64.wrap (x.f13+1))⟩) none) none)
 (rec ⟨x.f2,x.f3,false,(IntKind.i64.wrap (x.f13+1))⟩)) none) none)
 (rec ⟨x.f2,x.f3,false,(IntKind.i64.wrap (x.f13+1))⟩)) none) none)
 (rec ⟨x.f2,x.f3,false,(IntKind.i64.wrap (x.f13+1))⟩))
 (k_exit_14 x.f2 x.f3 x.f5)
noncomputable def zGsa:LB:=⟨[.d 2 B8,.d 3 B8,.d 5 A22,.d 13 A0],[((.exit 14),[.d 2 B8,.d 3 B8,.d 5 A22])]⟩
noncomputable def zuCa:LF X_ref08_Same_33:=fun _ K=>zlia (exS zGsa 0 K)
structure X_ref08_Same_37 where (f2 f3:It21) (f5:Bool) (f14:Int)
noncomputable def zkia (k_exit_16:It21→It21→Bool→Option R) (rec:X_ref08_Same_37→Option R) (x:X_ref08_Same_37):Option R :=
 cond (decide (x.f14<(x.f2.2.2.2.2.2.2.2.2.2.2.1.length:Int)))
 (cond x.f5
 (cond (inB x.f14 x.f2.2.2.2.2.2.2.2.2.2.2.1.length)
 (cond (inB x.f14 x.f3.2.2.2.2.2.2.2.2.2.2.1.length)
 (cond ((x.f2.2.2.2.2.2.2.2.2.2.2.1.getD x.f14.toNat (0,([],([],())))).1==(x.f3.2.2.2.2.2.2.2.2.2.2.1.getD x.f14.toNat (0,([],([],())))).1)
 (cond (inB x.f14 x.f2.2.2.2.2.2.2.2.2.2.2.1.length)
 (cond (inB x.f14 x.f3.2.2.2.2.2.2.2.2.2.2.1.length)
 (zZca (x.f2.2.2.2.2.2.2.2.2.2.2.1.getD x.f14.toNat (0,([],([],())))).2.1 (x.f3.2.2.2.2.2.2.2.2.2.2.1.getD x.f14.toNat (0,([],([],())))).2.1 fun r8 =>
 cond r8
 (cond (inB x.f14 x.f2.2.2.2.2.2.2.2.2.2.2.1.length)
 (cond (inB x.f14 x.f3.2.2.2.2.2.2.2.2.2.2.1.length)
 (zNla (x.f2.2.2.2.2.2.2.2.2.2.2.1.getD x.f14.toNat (0,([],([],())))).2.2.1 (x.f3.2.2.2.2.2.2.2.2.2.2.1.getD x.f14.toNat (0,([],([],())))).2.2.1 fun r11 =>
 rec ⟨x.f2,x.f3,r11,(IntKind.i64.wrap (x.f14+1))⟩) none) none)
 (rec ⟨x.f2,x.f3,false,(IntKind.i64.wrap (x.f14+1))⟩)) none) none)
 (rec ⟨x.f2,x.f3,false,(IntKind.i64.wrap (x.f14+1))⟩)) none) none)
 (rec ⟨x.f2,x.f3,false,(IntKind.i64.wrap (x.f14+1))⟩))
 (k_exit_16 x.f2 x.f3 x.f5)
noncomputable def zFsa:LB:=⟨[.d 2 B8,.d 3 B8,.d 5 A22,.d 14 A0],[((.exit 16),[.d 2 B8,.d 3 B8,.d 5 A22])]⟩
noncomputable def ztCa:LF X_ref08_Same_37:=fun _ K=>zkia (exS zFsa 0 K)
structure X_ref08_Same_41 where (f2 f3:It21) (f5:Bool) (f15:Int)
noncomputable def zjia (k_exit_18:Bool→Option R) (rec:X_ref08_Same_41→Option R) (x:X_ref08_Same_41):Option R :=
 cond (decide (x.f15<(x.f2.2.2.2.2.2.2.2.2.2.2.2.1.length:Int)))
 (cond x.f5
 (cond (inB x.f15 x.f2.2.2.2.2.2.2.2.2.2.2.2.1.length)
 (cond (inB x.f15 x.f3.2.2.2.2.2.2.2.2.2.2.2.1.length)
 (cond ((x.f2.2.2.2.2.2.2.2.2.2.2.2.1.getD x.f15.toNat ([],([],()))).1==(x.f3.2.2.2.2.2.2.2.2.2.2.2.1.getD x.f15.toNat ([],([],()))).1)
 (cond (inB x.f15 x.f2.2.2.2.2.2.2.2.2.2.2.2.1.length)
 (cond (inB x.f15 x.f3.2.2.2.2.2.2.2.2.2.2.2.1.length)
 (zNla (x.f2.2.2.2.2.2.2.2.2.2.2.2.1.getD x.f15.toNat ([],([],()))).2.1 (x.f3.2.2.2.2.2.2.2.2.2.2.2.1.getD x.f15.toNat ([],([],()))).2.1 fun r8 =>
 rec ⟨x.f2,x.f3,r8,(IntKind.i64.wrap (x.f15+1))⟩) none) none)
 (rec ⟨x.f2,x.f3,false,(IntKind.i64.wrap (x.f15+1))⟩)) none) none)
 (rec ⟨x.f2,x.f3,false,(IntKind.i64.wrap (x.f15+1))⟩))
 (k_exit_18 x.f5)
noncomputable def zEsa:LB:=⟨[.d 2 B8,.d 3 B8,.d 5 A22,.d 15 A0],[((.exit 18),[.d 5 A22])]⟩
noncomputable def zsCa:LF X_ref08_Same_41:=fun _ K=>zjia (exS zEsa 0 K)
noncomputable def zzca:Loops:=fun z i R st K=>match z,i with
 |false,5=>lpS zMua X_ref08_Same_5.mk zGFa K st
 |false,9=>lpS zLua X_ref08_Same_9.mk zFFa K st
 |false,13=>lpS zLsa X_ref08_Same_13.mk zzCa K st
 |false,17=>lpS zKsa X_ref08_Same_17.mk zyCa K st
 |false,21=>lpS zJsa X_ref08_Same_21.mk zxCa K st
 |false,25=>lpS zIsa X_ref08_Same_25.mk zwCa K st
 |false,29=>lpS zHsa X_ref08_Same_29.mk zvCa K st
 |false,33=>lpS zGsa X_ref08_Same_33.mk zuCa K st
 |false,37=>lpS zFsa X_ref08_Same_37.mk ztCa K st
 |false,41=>lpS zEsa X_ref08_Same_41.mk zsCa K st
 |_,_=>none
theorem zBNa:LOk zIba zzca inl0 5 Tryz.f54:=lok zMua X_ref08_Same_5.mk (fun x=>(x.f2,x.f3,x.f5,x.f6,())) zGFa 5
theorem zANa:LOk zIba zzca inl0 9 Tryz.f54:=lok zLua X_ref08_Same_9.mk (fun x=>(x.f2,x.f3,x.f5,x.f7,())) zFFa 9
theorem zdLa:LOk zIba zzca inl0 13 Tryz.f54:=lok zLsa X_ref08_Same_13.mk (fun x=>(x.f2,x.f3,x.f5,x.f8,())) zzCa 13
theorem zcLa:LOk zIba zzca inl0 17 Tryz.f54:=lok zKsa X_ref08_Same_17.mk (fun x=>(x.f2,x.f3,x.f5,x.f9,())) zyCa 17
theorem zbLa:LOk zIba zzca inl0 21 Tryz.f54:=lok zJsa X_ref08_Same_21.mk (fun x=>(x.f2,x.f3,x.f5,x.f10,())) zxCa 21
theorem zaLa:LOk zIba zzca inl0 25 Tryz.f54:=lok zIsa X_ref08_Same_25.mk (fun x=>(x.f2,x.f3,x.f5,x.f11,())) zwCa 25
theorem zZKa:LOk zIba zzca inl0 29 Tryz.f54:=lok zHsa X_ref08_Same_29.mk (fun x=>(x.f2,x.f3,x.f5,x.f12,())) zvCa 29
theorem zYKa:LOk zIba zzca inl0 33 Tryz.f54:=lok zGsa X_ref08_Same_33.mk (fun x=>(x.f2,x.f3,x.f5,x.f13,())) zuCa 33
theorem zXKa:LOk zIba zzca inl0 37 Tryz.f54:=lok zFsa X_ref08_Same_37.mk (fun x=>(x.f2,x.f3,x.f5,x.f14,())) ztCa 37
theorem zWKa:LOk zIba zzca inl0 41 Tryz.f54:=lok zEsa X_ref08_Same_41.mk (fun x=>(x.f2,x.f3,x.f5,x.f15,())) zsCa 41
theorem zvLa:zsaa zIba zzca inl0 (body Tryz.f54.body):=lsL (.cons zBNa (.cons zANa (.cons zdLa (.cons zcLa (.cons zbLa (.cons zaLa (.cons zZKa (.cons zYKa (.cons zXKa (.cons zWKa .nil)))))))))) .nil
noncomputable def zdva (a0 a1:It21) (K:Bool→Option R):Option R :=
 cond ((a0.1.length:Int) != (a1.1.length:Int))
 (K false)
 (cond ((a0.2.1.length:Int) != (a1.2.1.length:Int))
 (K false)
 (cond ((a0.2.2.1.length:Int) != (a1.2.2.1.length:Int))
 (K false)
 (cond ((a0.2.2.2.1.length:Int) != (a1.2.2.2.1.length:Int))
 (K false)
 (cond ((a0.2.2.2.2.1.length:Int) != (a1.2.2.2.2.1.length:Int))
 (K false)
 (cond ((a0.2.2.2.2.2.1.length:Int) != (a1.2.2.2.2.2.1.length:Int))
 (K false)
 (cond ((a0.2.2.2.2.2.2.1.length:Int) != (a1.2.2.2.2.2.2.1.length:Int))
 (K false)
 (cond ((a0.2.2.2.2.2.2.2.2.1.length:Int) != (a1.2.2.2.2.2.2.2.2.1.length:Int))
 (K false)
 (cond ((a0.2.2.2.2.2.2.2.2.2.2.1.length:Int) != (a1.2.2.2.2.2.2.2.2.2.2.1.length:Int))
 (K false)
 (cond ((a0.2.2.2.2.2.2.2.2.2.2.2.1.length:Int) != (a1.2.2.2.2.2.2.2.2.2.2.2.1.length:Int))
 (K false)
 (zDba a0.2.2.2.2.2.2.2.1 a1.2.2.2.2.2.2.2.1 fun r31 =>
 cond r31
 (zDba a0.2.2.2.2.2.2.2.2.2.1 a1.2.2.2.2.2.2.2.2.2.1 fun r32 =>
 loopN (zUka (fun w33 w34 w35 =>
 loopN (zTka (fun w36 w37 w38 =>
 loopN (zqia (fun w39 w40 w41 =>
 loopN (zpia (fun w42 w43 w44 =>
 loopN (zoia (fun w45 w46 w47 =>
 loopN (znia (fun w48 w49 w50 =>
 loopN (zmia (fun w51 w52 w53 =>
 loopN (zlia (fun w54 w55 w56 =>
 loopN (zkia (fun w57 w58 w59 =>
 loopN (zjia (fun w60 =>
 K w60)) zpaa ⟨w57,w58,w59,0⟩)) zpaa ⟨w54,w55,w56,0⟩)) zpaa ⟨w51,w52,w53,0⟩)) zpaa ⟨w48,w49,w50,0⟩)) zpaa ⟨w45,w46,w47,0⟩)) zpaa ⟨w42,w43,w44,0⟩)) zpaa ⟨w39,w40,w41,0⟩)) zpaa ⟨w36,w37,w38,0⟩)) zpaa ⟨w33,w34,w35,0⟩)) zpaa ⟨a0,a1,r32,0⟩)
 (loopN (zUka (fun w61 w62 w63 =>
 loopN (zTka (fun w64 w65 w66 =>
 loopN (zqia (fun w67 w68 w69 =>
 loopN (zpia (fun w70 w71 w72 =>
 loopN (zoia (fun w73 w74 w75 =>
 loopN (znia (fun w76 w77 w78 =>
 loopN (zmia (fun w79 w80 w81 =>
 loopN (zlia (fun w82 w83 w84 =>
 loopN (zkia (fun w85 w86 w87 =>
 loopN (zjia (fun w88 =>
 K w88)) zpaa ⟨w85,w86,w87,0⟩)) zpaa ⟨w82,w83,w84,0⟩)) zpaa ⟨w79,w80,w81,0⟩)) zpaa ⟨w76,w77,w78,0⟩)) zpaa ⟨w73,w74,w75,0⟩)) zpaa ⟨w70,w71,w72,0⟩)) zpaa ⟨w67,w68,w69,0⟩)) zpaa ⟨w64,w65,w66,0⟩)) zpaa ⟨w61,w62,w63,0⟩)) zpaa ⟨a0,a1,false,0⟩)))))))))))
noncomputable def zQHa:CSpec:={ ins:=[(.val Ty32 .s),(.val Ty32 .s)],outs:=[(.bool,.s)],fn:=fun d K _=>zdva d.1 d.2.1 (fun r0=>K (r0,()) ()) }
theorem zCUa:Holds Tryz.prog 54 zQHa:=hw zIba [(4,none)] zfaa Tryz.func54 zvLa ⟨mixed,envTyOk.ty,envTyOk.eq⟩
noncomputable def zdVa:GE Tryz.prog:=⟨54,[],zQHa,zCUa⟩
noncomputable def zmOa:Nat→Bool
 |1=>true
 |_=>false
noncomputable def zqOa:Nat→Bool
 |5=>true
 |_=>false
noncomputable def zxNa:TypeId→Md
 |42=>(.p .s (.p (.o .s) (.p (.o .s) .s)))
 |_ => .s
noncomputable def zAMa:Env:={ mE [zHSa,zJSa,zwQa,zdVa] Tryz.f29 with fz:=zmOa,fs:=zqOa,om:=zxNa }
noncomputable def zFoa (a0:It21) (K:Bool→Option R):Option R :=
 zJra a0 fun r1 =>
 cond (!r1)
 (K false)
 (zLra a0 fun r3 r4 =>
 cond (r4 != 0)
 (K false)
 (zGoa r3 fun r6 r7 =>
 cond (r7==0)
 (zdva a0 r6 fun r9 =>
 K r9)
 (K false)))
noncomputable def zZBa:CSpec:={ ins:=[(.val Ty32 .s)],outs:=[(.bool,.s)],fn:=fun d K _=>zFoa d.1 (fun r0=>K (r0,()) ()) }
theorem zeQa:Holds Tryz.prog 29 zZBa:=hw zAMa [(2,none)] (lp:=lp0) (code:=body Tryz.f29.body) zfaa Tryz.func29 l0 ⟨mixed,envTyOk.ty,envTyOk.eq⟩
noncomputable def zvQa:GE Tryz.prog:=⟨29,[],zZBa,zeQa⟩
noncomputable def zqVa:Nat→Bool
 |1=>true
 |_=>false
noncomputable def zoTa:Env:={ E0 with n:=Tryz.f99.ntmps,fz:=zqVa }
noncomputable def zOla (a0:Tm) (K:Int→Option R):Option R :=
 cond (decide (a0.1<0))
 (K 5)
 (cond a0.2.1
 (cond (decide (a0.2.2.1<a0.1))
 (K 5)
 (cond (decide (a0.1>64))
 (K 4)
 (K 0)))
 (cond (decide (a0.1>64))
 (K 4)
 (K 0)))
noncomputable def zUMa:CSpec:={ ins:=[(.val (.pair (.int .i64) (.pair .bool (.pair (.int .i64) .unit))) .s)],outs:=[((.int .i64),.s)],fn:=fun d K _=>zOla d.1 (fun r0=>K (r0,()) ()) }
theorem zJWa:Holds Tryz.prog 99 zUMa:=hw zoTa [(2,none)] (lp:=lp0) (code:=body Tryz.f99.body) zfaa Tryz.func99 l0 ⟨mixed,envTyOk.ty,envTyOk.eq⟩
noncomputable def zVOa:GE Tryz.prog:=⟨99,[],zUMa,zJWa⟩
noncomputable def zZSa:Nat→Bool
 |1=>true
 |_=>false
noncomputable def ziRa:Env:={ E0 with n:=Tryz.f100.ntmps,fz:=zZSa }
noncomputable def zVia (a0:Tm) (K:Int→Option R):Option R :=
 cond (decide (a0.1<0))
 (K 5)
 (cond (decide (a0.1>65536))
 (K 5)
 (cond a0.2.1
 (cond (decide (a0.2.2.1>65536))
 (K 5)
 (cond (decide (a0.2.2.1<a0.1))
 (K 5)
 (cond (decide (a0.1>4))
 (K 4)
 (K 0))))
 (cond (decide (a0.1>4))
 (K 4)
 (K 0))))
noncomputable def zmIa:CSpec:={ ins:=[(.val (.pair (.int .i64) (.pair .bool (.pair (.int .i64) .unit))) .s)],outs:=[((.int .i64),.s)],fn:=fun d K _=>zVia d.1 (fun r0=>K (r0,()) ()) }
theorem zYUa:Holds Tryz.prog 100 zmIa:=hw ziRa [(2,none)] (lp:=lp0) (code:=body Tryz.f100.body) zfaa Tryz.func100 l0 ⟨mixed,envTyOk.ty,envTyOk.eq⟩
noncomputable def ztMa:GE Tryz.prog:=⟨100,[],zmIa,zYUa⟩
noncomputable def zgza:Env:={ E0 with n:=Tryz.f59.ntmps }
noncomputable def zeaa (a0:It36) (a1:Bool) (a2:Int) (K:It36→Option R):Option R :=
 cond (!a1)
 (cond (a0.2.1==0)
 (K (a0.1,(a2,a0.2.2)))
 (K a0))
 (K a0)
noncomputable def zqoa:CSpec:={ ins:=[(.ref (.pair (.pair Ty5 Ty9) (.pair (.int .i64) .unit)) (.p (.p (.o .s) (.p (.o .s) (.p (.o .s) (.p (.o .s) (.p (.o .s) .s))))) .s) (.p (.p (.o .s) (.p (.o .s) (.p (.o .s) (.p (.o .s) (.p (.o .s) .s))))) .s)),(.val .bool .s),(.val (.int .i64) .s)],outs:=[],fn:=fun d K _=>zeaa d.1 d.2.1 d.2.2.1 (fun b0=>K ((()):Unit) ((b0,()):It36×Unit)) }
theorem zHDa:Holds Tryz.prog 59 zqoa:=hw zgza [] (lp:=lp0) (code:=body Tryz.f59.body) zfaa Tryz.func59 l0 ⟨mixed,envTyOk.ty,envTyOk.eq⟩
noncomputable def zjda:GE Tryz.prog:=⟨59,[],zqoa,zHDa⟩
noncomputable def zWya:Nat→Bool
 |5=>true
 |_=>false
noncomputable def zuya:Nat→Bool
 |6=>true
 |7=>true
 |10=>true
 |13=>true
 |16=>true
 |17=>true
 |_=>false
noncomputable def ziya:Nat→Option (List Nat)
 |0=>some [0,1,1000000]
 |1|2|7|16|17=>some [0,6,7,8,1000000]
 |3|5|6|9|10|12|13|15=>some [0,5,6,7,8,1000000]
 |4|8|11|14=>some [0,5,6,7,8,13,1000000]
 |_=>none
noncomputable def zJaa:Env:={ mE [zWva,zjda,zVOa,ztMa] Tryz.f56 with fs:=zWya,js:=zuya,lv:=ziya,al:=[0,16,19,20,21,22,51,75] }
structure Y_ctx_checker_imports_6 where (f5:(Tb)×It15) (f6:List ((Tb)×It15)) (f7 f8:Int) (f1000000:It36)
noncomputable def zUfa (k_normal:((Tb)×It15)→(List ((Tb)×It15))→Int→Int→It36→Option R) (x:Y_ctx_checker_imports_6):Option R :=
 zLda x.f5.2.2.2.1 (x.f1000000.1.1.length:Int) fun r2 =>
 zeaa x.f1000000 r2 7 fun b3 =>
 k_normal x.f5 x.f6 x.f7 x.f8 b3
noncomputable def zOfa:LB:=⟨[uAl 0 1000000 [.der],.d 5 B13,.d 6 A7,.d 7 A0,.d 8 A0,.d 1000000 B25],[(.normal,[uAl 0 1000000 [.der],.d 5 B13,.d 6 A7,.d 7 A0,.d 8 A0,.d 1000000 B25])]⟩
noncomputable def zqka:JF Y_ctx_checker_imports_6:=fun _ K=>zUfa (exS zOfa 0 K)
structure Y_ctx_checker_imports_7 where (f5:(Tb)×It15) (f6:List ((Tb)×It15)) (f7 f8:Int) (f1000000:It36)
noncomputable def zTfa (k_normal:(List ((Tb)×It15))→Int→Int→It36→Option R) (x:Y_ctx_checker_imports_7):Option R :=
 let k1:Option R:=(cond (decide (x.f1000000.1.2.1.length+List.length (List.set (List.replicate 1 (0:Int)) 0 x.f5.2.2.2.1)≤most))
 (k_normal x.f6 x.f7 x.f8 ((x.f1000000.1.1,((x.f1000000.1.2.1++(List.set (List.replicate 1 (0:Int)) 0 x.f5.2.2.2.1)),x.f1000000.1.2.2)),x.f1000000.2)) none)
 both
 (k1)
 (k1)
noncomputable def zNfa:LB:=⟨[uAl 0 1000000 [.der],.d 5 B13,.d 6 A7,.d 7 A0,.d 8 A0,.d 1000000 B25],[(.normal,[uAl 0 1000000 [.der],.d 6 A7,.d 7 A0,.d 8 A0,.d 1000000 B25])]⟩
noncomputable def zpka:JF Y_ctx_checker_imports_7:=fun _ K=>zTfa (exS zNfa 0 K)
structure Y_ctx_checker_imports_10 where (f5:(Tb)×It15) (f6:List ((Tb)×It15)) (f7 f8:Int) (f1000000:It36)
noncomputable def zgfa (k_normal:((Tb)×It15)→(List ((Tb)×It15))→Int→Int→It36→Option R) (x:Y_ctx_checker_imports_10):Option R :=
 zOla x.f5.2.2.2.2.1 fun r1 =>
 zOla x.f5.2.2.2.2.1 fun r3 =>
 zeaa x.f1000000 (r1==0) r3 fun b4 =>
 k_normal x.f5 x.f6 x.f7 x.f8 b4
noncomputable def zGea:LB:=⟨[uAl 0 1000000 [.der],.d 5 B13,.d 6 A7,.d 7 A0,.d 8 A0,.d 1000000 B25],[(.normal,[uAl 0 1000000 [.der],.d 5 B13,.d 6 A7,.d 7 A0,.d 8 A0,.d 1000000 B25])]⟩
noncomputable def zqja:JF Y_ctx_checker_imports_10:=fun _ K=>zgfa (exS zGea 0 K)
structure Y_ctx_checker_imports_13 where (f5:(Tb)×It15) (f6:List ((Tb)×It15)) (f7 f8:Int) (f1000000:It36)
noncomputable def zffa (k_normal:((Tb)×It15)→(List ((Tb)×It15))→Int→Int→It36→Option R) (x:Y_ctx_checker_imports_13):Option R :=
 zVia x.f5.2.2.2.2.1 fun r1 =>
 zVia x.f5.2.2.2.2.1 fun r3 =>
 zeaa x.f1000000 (r1==0) r3 fun b4 =>
 k_normal x.f5 x.f6 x.f7 x.f8 b4
noncomputable def zFea:LB:=⟨[uAl 0 1000000 [.der],.d 5 B13,.d 6 A7,.d 7 A0,.d 8 A0,.d 1000000 B25],[(.normal,[uAl 0 1000000 [.der],.d 5 B13,.d 6 A7,.d 7 A0,.d 8 A0,.d 1000000 B25])]⟩
noncomputable def zpja:JF Y_ctx_checker_imports_13:=fun _ K=>zffa (exS zFea 0 K)
structure Y_ctx_checker_imports_16 where (f5:(Tb)×It15) (f6:List ((Tb)×It15)) (f7 f8:Int) (f1000000:It36)
noncomputable def zefa (k_normal:(List ((Tb)×It15))→Int→Int→It36→Option R) (x:Y_ctx_checker_imports_16):Option R :=
 let k1:Option R:=(cond (decide (x.f1000000.1.2.2.1.length+List.length (List.set (List.replicate 1 ((0:Int),(false,()))) 0 (x.f5.2.2.2.1,(x.f5.2.2.2.2.2.1,())))≤most))
 (k_normal x.f6 x.f7 x.f8 ((x.f1000000.1.1,(x.f1000000.1.2.1,((x.f1000000.1.2.2.1++(List.set (List.replicate 1 ((0:Int),(false,()))) 0 (x.f5.2.2.2.1,(x.f5.2.2.2.2.2.1,())))),x.f1000000.1.2.2.2))),x.f1000000.2)) none)
 both
 (k1)
 (k1)
noncomputable def zEea:LB:=⟨[uAl 0 1000000 [.der],.d 5 B13,.d 6 A7,.d 7 A0,.d 8 A0,.d 1000000 B25],[(.normal,[uAl 0 1000000 [.der],.d 6 A7,.d 7 A0,.d 8 A0,.d 1000000 B25])]⟩
noncomputable def zoja:JF Y_ctx_checker_imports_16:=fun _ K=>zefa (exS zEea 0 K)
structure Y_ctx_checker_imports_17 where (f6:List ((Tb)×It15)) (f7 f8:Int) (f1000000:It36)
noncomputable def zdfa (k_normal:(List ((Tb)×It15))→Int→Int→It36→Option R) (x:Y_ctx_checker_imports_17):Option R :=
 cond (inB x.f8 x.f6.length)
 (let v1:=x.f6.getD x.f8.toNat ([],([],(0,(0,((0,(false,(0,()))),(false,()))))))
 cond (v1.2.2.1==0)
 (zUfa (fun w3 w4 w5 w6 w7 =>
 zTfa (fun w8 w9 w10 w11 =>
 k_normal w8 w9 w10 ((w11.1.1,(w11.1.2.1,(w11.1.2.2.1,(w11.1.2.2.2.1,(w11.1.2.2.2.2.1,((IntKind.i64.wrap (w11.1.2.2.2.2.2.1+1)),w11.1.2.2.2.2.2.2)))))),w11.2)) ⟨w3,w4,w5,w6,w7⟩) ⟨v1,x.f6,x.f7,x.f8,x.f1000000⟩)
 (cond (v1.2.2.1==1)
 (zgfa (fun w14 w15 w16 w17 w18 =>
 let k2:Option R:=(cond (decide (w18.1.2.2.2.1.length+List.length (List.set (List.replicate 1 ((0:Int),(false,((0:Int),())))) 0 w14.2.2.2.2.1)≤most))
 (k_normal w15 w16 w17 ((w18.1.1,(w18.1.2.1,(w18.1.2.2.1,((w18.1.2.2.2.1++(List.set (List.replicate 1 ((0:Int),(false,((0:Int),())))) 0 w14.2.2.2.2.1)),w18.1.2.2.2.2)))),w18.2)) none)
 both
 (k2)
 (k2)) ⟨v1,x.f6,x.f7,x.f8,x.f1000000⟩)
 (cond (v1.2.2.1==2)
 (zffa (fun w24 w25 w26 w27 w28 =>
 let k1:Option R:=(cond (decide (w28.1.2.2.2.2.1.length+List.length (List.set (List.replicate 1 ((0:Int),(false,((0:Int),())))) 0 w24.2.2.2.2.1)≤most))
 (k_normal w25 w26 w27 ((w28.1.1,(w28.1.2.1,(w28.1.2.2.1,(w28.1.2.2.2.1,((w28.1.2.2.2.2.1++(List.set (List.replicate 1 ((0:Int),(false,((0:Int),())))) 0 w24.2.2.2.2.1)),w28.1.2.2.2.2.2))))),w28.2)) none)
 both
 (k1)
 (k1)) ⟨v1,x.f6,x.f7,x.f8,x.f1000000⟩)
 (cond (v1.2.2.1==3)
 (zefa (fun w34 w35 w36 w37 =>
 k_normal w34 w35 w36 ((w37.1.1,(w37.1.2.1,(w37.1.2.2.1,(w37.1.2.2.2.1,(w37.1.2.2.2.2.1,(w37.1.2.2.2.2.2.1,((IntKind.i64.wrap (w37.1.2.2.2.2.2.2.1+1)),w37.1.2.2.2.2.2.2.2))))))),w37.2)) ⟨v1,x.f6,x.f7,x.f8,x.f1000000⟩)
 (k_normal x.f6 x.f7 x.f8 x.f1000000))))) none
noncomputable def zDea:LB:=⟨[uAl 0 1000000 [.der],.d 6 A7,.d 7 A0,.d 8 A0,.d 1000000 B25],[(.normal,[uAl 0 1000000 [.der],.d 6 A7,.d 7 A0,.d 8 A0,.d 1000000 B25])]⟩
noncomputable def znja:JF Y_ctx_checker_imports_17:=fun _ K=>zdfa (exS zDea 0 K)
structure X_ctx_checker_imports_1 where (f6:List ((Tb)×It15)) (f7 f8:Int) (f1000000:It36)
noncomputable def zAda (k_exit_0:It36→Option R) (rec:X_ctx_checker_imports_1→Option R) (x:X_ctx_checker_imports_1):Option R :=
 cond (decide (x.f8<x.f7))
 (zdfa (fun w2 w3 w4 w5 =>
 rec ⟨w2,w3,(IntKind.i64.wrap (w4+1)),w5⟩) ⟨x.f6,x.f7,x.f8,x.f1000000⟩)
 (k_exit_0 x.f1000000)
noncomputable def zQfa:LB:=⟨[uAl 0 1000000 [.der],.d 6 A7,.d 7 A0,.d 8 A0,.d 1000000 B25],[((.exit 0),[.d 1000000 B25])]⟩
noncomputable def zGla:LF X_ctx_checker_imports_1:=fun _ K=>zAda (exS zQfa 0 K)
noncomputable def zdba:Loops:=fun z i R st K=>match z,i with
 |false,1=>lpS zQfa X_ctx_checker_imports_1.mk zGla K st
 |true,6=>jpS zOfa Y_ctx_checker_imports_6.mk zqka K st
 |true,7=>jpS zNfa Y_ctx_checker_imports_7.mk zpka K st
 |true,10=>jpS zGea Y_ctx_checker_imports_10.mk zqja K st
 |true,13=>jpS zFea Y_ctx_checker_imports_13.mk zpja K st
 |true,16=>jpS zEea Y_ctx_checker_imports_16.mk zoja K st
 |true,17=>jpS zDea Y_ctx_checker_imports_17.mk znja K st
 |_,_=>none
theorem zLta:JOk zJaa zdba inl0 6 Tryz.f56:=jok zOfa Y_ctx_checker_imports_6.mk (fun x=>(x.f5,x.f6,x.f7,x.f8,x.f1000000,())) zqka 6
theorem zKta:JOk zJaa zdba inl0 7 Tryz.f56:=jok zNfa Y_ctx_checker_imports_7.mk (fun x=>(x.f5,x.f6,x.f7,x.f8,x.f1000000,())) zpka 7
theorem zfta:JOk zJaa zdba inl0 10 Tryz.f56:=jok zGea Y_ctx_checker_imports_10.mk (fun x=>(x.f5,x.f6,x.f7,x.f8,x.f1000000,())) zqja 10
theorem zeta:JOk zJaa zdba inl0 13 Tryz.f56:=jok zFea Y_ctx_checker_imports_13.mk (fun x=>(x.f5,x.f6,x.f7,x.f8,x.f1000000,())) zpja 13
theorem zdta:JOk zJaa zdba inl0 16 Tryz.f56:=jok zEea Y_ctx_checker_imports_16.mk (fun x=>(x.f5,x.f6,x.f7,x.f8,x.f1000000,())) zoja 16
theorem zcta:JOk zJaa zdba inl0 17 Tryz.f56:=jok zDea Y_ctx_checker_imports_17.mk (fun x=>(x.f6,x.f7,x.f8,x.f1000000,())) znja 17
theorem zova:LOk zJaa zdba inl0 1 Tryz.f56:=lok zQfa X_ctx_checker_imports_1.mk (fun x=>(x.f6,x.f7,x.f8,x.f1000000,())) zGla 1
theorem zGta:zsaa zJaa zdba inl0 (body Tryz.f56.body):=lsL (.cons zova .nil) (.cons zKta (.cons zLta (.cons zfta (.cons zeta (.cons zdta (.cons zcta .nil))))))
noncomputable def zgea (a0:It36) (a1:List ((Tb)×It15)) (K:It36→Option R):Option R :=
 loopN (zAda (fun w2 =>
 K w2)) zpaa ⟨a1,(a1.length:Int),0,a0⟩
noncomputable def zZma:CSpec:={ ins:=[(.ref (.pair (.pair Ty5 Ty9) (.pair (.int .i64) .unit)) (.p (.p (.o .s) (.p (.o .s) (.p (.o .s) (.p (.o .s) (.p (.o .s) .s))))) .s) (.p (.p (.o .s) (.p (.o .s) (.p (.o .s) (.p (.o .s) (.p (.o .s) .s))))) .s)),(.val (.sl 123 Ty23) .s)],outs:=[],fn:=fun d K _=>zgea d.1 d.2.1 (fun b0=>K ((()):Unit) ((b0,()):It36×Unit)) }
theorem zhBa:Holds Tryz.prog 56 zZma:=hw zJaa [] zfaa Tryz.func56 zGta ⟨mixed,envTyOk.ty,envTyOk.eq⟩
noncomputable def zkBa:GE Tryz.prog:=⟨56,[],zZma,zhBa⟩
end Go.Trm.G1
