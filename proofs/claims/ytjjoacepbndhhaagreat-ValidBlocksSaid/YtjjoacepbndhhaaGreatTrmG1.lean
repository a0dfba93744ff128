import Derived.Test.YtjjoacepbndhhaaGreatTrmG1c
import Derived.Test.YtjjoacepbndhhaaGreatProg
import Derived.KernelRfl
set_option linter.unusedVariables false
set_option linter.unusedSimpArgs false
namespace Go.Trm.G1
variable {R:Type}
open Go.Proofs
set_option maxRecDepth 100000
noncomputable def zpOa:Nat→Bool
 |3=>true
 |_=>false
noncomputable def ztOa:Nat→Bool
 |7=>true
 |_=>false
noncomputable def zEMa:Env:={ mE [zWva] Tryz.f101 with fz:=zpOa,fs:=ztOa }
noncomputable def zvha (a0:(List Tq)×(Tl)×It2) (a1:Tj) (a2:Int) (K:Bool→Option R):Option R :=
 cond ((a1.length:Int) != 2)
 (K false)
 (cond (inB 1 a1.length)
 (cond ((a1.getD (1:Int).toNat (0,(0,(0,(0,([],())))))).1 != 11)
 (K false)
 (cond (inB 0 a1.length)
 (let v5:=a1.getD (0:Int).toNat (0,(0,(0,(0,([],())))))
 cond (v5.1==65)
 (K (a2==127))
 (cond (v5.1==66)
 (K (a2==126))
 (cond (v5.1==35)
 (zLda v5.2.1 (minI a0.2.2.2.2.2.2.1 (a0.2.2.1.length:Int)) fun r13 =>
 cond r13
 (cond (inB v5.2.1 a0.2.2.1.length)
 (let v14:=a0.2.2.1.getD v5.2.1.toNat (0,(false,()))
 K ((v14.1==a2)&&((v14.2.1==false)&&true))) none)
 (K false))
 (K false)))) none)) none)
noncomputable def zmCa:CSpec:={ ins:=[(.val (.pair Ty5 Ty9) .s),(.val (.sl 45 (.pair (.int .i64) (.pair (.int .i64) Ty0))) .s),(.val (.int .i64) .s)],outs:=[(.bool,.s)],fn:=fun d K _=>zvha d.1 d.2.1 d.2.2.1 (fun r0=>K (r0,()) ()) }
theorem zrQa:Holds Tryz.prog 101 zmCa:=hw zEMa [(6,none)] (lp:=lp0) (code:=body Tryz.f101.body) zfaa Tryz.func101 l0 ⟨mixed,envTyOk.ty,envTyOk.eq⟩
noncomputable def zeFa:GE Tryz.prog:=⟨101,[],zmCa,zrQa⟩
noncomputable def zgHa:Nat→Bool
 |3=>true
 |_=>false
noncomputable def zkHa:Nat→Bool
 |5=>true
 |7=>true
 |9=>true
 |11=>true
 |_=>false
noncomputable def zMGa:Nat→Bool
 |5=>true
 |6=>true
 |11=>true
 |12=>true
 |17=>true
 |18=>true
 |25=>true
 |26=>true
 |_=>false
noncomputable def zxGa:Nat→Option (List Nat)
 |0=>some [0,1,1000000]
 |1|7|13|19|20|21=>some [0,3,1000000]
 |2|3|6=>some [0,3,13,14,15,1000000]
 |4|5=>some [0,3,5,13,14,15,1000000]
 |8|9|12=>some [0,3,45,46,47,1000000]
 |10|11=>some [0,3,7,45,46,47,1000000]
 |14|15|18=>some [0,3,72,73,74,1000000]
 |16|17=>some [0,3,9,72,73,74,1000000]
 |22|23|26=>some [0,117,118,119,1000000]
 |24|25=>some [0,11,117,118,119,1000000]
 |_=>none
noncomputable def zzaa:Env:={ mE [zWva,zjda,zVOa,ztMa,zeFa] Tryz.f57 with fz:=zgHa,fs:=zkHa,js:=zMGa,lv:=zxGa,al:=[0,19,22,23,24,25,51,78,98,99,100,101,102,107,108,109,110,111,123,124,125,126] }
structure Y_ctx_checker_own_5 where (f3:It21) (f5:(Int)×It13) (f13:List ((Int)×It13)) (f14 f15:Int) (f1000000:It36)
noncomputable def zKka (k_normal:It21→((Int)×It13)→(List ((Int)×It13))→Int→Int→It36→Option R) (x:Y_ctx_checker_own_5):Option R :=
 zLda x.f5.1 (x.f1000000.1.1.length:Int) fun r2 =>
 zeaa x.f1000000 r2 7 fun b3 =>
 k_normal x.f3 x.f5 x.f13 x.f14 x.f15 b3
noncomputable def zLja:LB:=⟨[uAl 0 1000000 [.der],.d 3 B8,.d 5 B12,.d 13 A8,.d 14 A0,.d 15 A0,.d 1000000 B25],[(.normal,[uAl 0 1000000 [.der],.d 3 B8,.d 5 B12,.d 13 A8,.d 14 A0,.d 15 A0,.d 1000000 B25])]⟩
noncomputable def ztqa:JF Y_ctx_checker_own_5:=fun _ K=>zKka (exS zLja 0 K)
structure Y_ctx_checker_own_6 where (f3:It21) (f13:List ((Int)×It13)) (f14 f15:Int) (f1000000:It36)
noncomputable def zJka (k_normal:It21→(List ((Int)×It13))→Int→Int→It36→Option R) (x:Y_ctx_checker_own_6):Option R :=
 cond (inB x.f15 x.f13.length)
 (zKka (fun w2 w3 w4 w5 w6 w7 =>
 let k1:Option R:=(cond (decide (w7.1.2.1.length+List.length (List.set (List.replicate 1 (0:Int)) 0 w3.1)≤most))
 (k_normal w2 w4 w5 w6 ((w7.1.1,((w7.1.2.1++(List.set (List.replicate 1 (0:Int)) 0 w3.1)),w7.1.2.2)),w7.2)) none)
 both
 (k1)
 (k1)) ⟨x.f3,(x.f13.getD x.f15.toNat (0,([],([],())))),x.f13,x.f14,x.f15,x.f1000000⟩) none
noncomputable def zKja:LB:=⟨[uAl 0 1000000 [.der],.d 3 B8,.d 13 A8,.d 14 A0,.d 15 A0,.d 1000000 B25],[(.normal,[uAl 0 1000000 [.der],.d 3 B8,.d 13 A8,.d 14 A0,.d 15 A0,.d 1000000 B25])]⟩
noncomputable def zsqa:JF Y_ctx_checker_own_6:=fun _ K=>zJka (exS zKja 0 K)
structure X_ctx_checker_own_2 where (f3:It21) (f13:List ((Int)×It13)) (f14 f15:Int) (f1000000:It36)
noncomputable def zBga (k_exit_0:It21→It36→Option R) (rec:X_ctx_checker_own_2→Option R) (x:X_ctx_checker_own_2):Option R :=
 cond (decide (x.f15<x.f14))
 (zJka (fun w2 w3 w4 w5 w6 =>
 rec ⟨w2,w3,w4,(IntKind.i64.wrap (w5+1)),w6⟩) ⟨x.f3,x.f13,x.f14,x.f15,x.f1000000⟩)
 (k_exit_0 x.f3 x.f1000000)
noncomputable def zZja:LB:=⟨[uAl 0 1000000 [.der],.d 3 B8,.d 13 A8,.d 14 A0,.d 15 A0,.d 1000000 B25],[((.exit 0),[uAl 0 1000000 [.der],.d 3 B8,.d 1000000 B25])]⟩
noncomputable def znsa:LF X_ctx_checker_own_2:=fun _ K=>zBga (exS zZja 0 K)
structure zXea where (f3:It21) (f7:Tm) (f45:List Tm) (f46 f47:Int) (f1000000:It36)
noncomputable def zgja (k_normal:It21→Tm→(List Tm)→Int→Int→It36→Option R) (x:zXea):Option R :=
 zOla x.f7 fun r1 =>
 zOla x.f7 fun r3 =>
 zeaa x.f1000000 (r1==0) r3 fun b4 =>
 k_normal x.f3 x.f7 x.f45 x.f46 x.f47 b4
noncomputable def zcEa (x:zXea):St:=St.ofList [(0,(.al 1000000 [.der])),(3,(a15 (some x.f3))),(7,(a52 (some x.f7))),(45,(a53 x.f45)),(46,(a0 x.f46)),(47,(a0 x.f47)),(1000000,(a51 (some x.f1000000)))]
def ztya:Ex→List (Nat×Bool) | .normal=>[(0,false),(3,false),(7,false),(45,false),(46,false),(47,false),(1000000,false)]|_=>[]
def zPma:List (Nat×Bool):=[(0,false),(3,false),(7,false),(45,false),(46,false),(47,false),(1000000,false)]
noncomputable def zLma:Pt zXea := .s 0 (sAl 1000000 [.der]) fun _ => .s 3 B8 fun y3 => .s 7 B26 fun y7 => .s 45 A26 fun y45 => .s 46 A0 fun y46 => .s 47 A0 fun y47 => .s 1000000 B25 fun y1000000 => .e ⟨y3,y7,y45,y46,y47,y1000000⟩
noncomputable def zkoa (R:Type) (K:Ex→St→Option R):zXea→Option R:=zgja (fun e3 e7 e45 e46 e47 e1000000=>K .normal (St.ofList [(0,(.al 1000000 [.der])),(3,(a15 (some e3))),(7,(a52 (some e7))),(45,(a53 e45)),(46,(a0 e46)),(47,(a0 e47)),(1000000,(a51 (some e1000000)))]))
structure Y_ctx_checker_own_12 where (f3:It21) (f45:List Tm) (f46 f47:Int) (f1000000:It36)
noncomputable def zfja (k_normal:It21→(List Tm)→Int→Int→It36→Option R) (x:Y_ctx_checker_own_12):Option R :=
 cond (inB x.f47 x.f45.length)
 (zgja (fun w2 w3 w4 w5 w6 w7 =>
 let k1:Option R:=(cond (decide (w7.1.2.2.2.1.length+List.length (List.set (List.replicate 1 ((0:Int),(false,((0:Int),())))) 0 w3)≤most))
 (k_normal w2 w4 w5 w6 ((w7.1.1,(w7.1.2.1,(w7.1.2.2.1,((w7.1.2.2.2.1++(List.set (List.replicate 1 ((0:Int),(false,((0:Int),())))) 0 w3)),w7.1.2.2.2.2)))),w7.2)) none)
 both
 (k1)
 (k1)) ⟨x.f3,(x.f45.getD x.f47.toNat (0,(false,(0,())))),x.f45,x.f46,x.f47,x.f1000000⟩) none
noncomputable def zOia:LB:=⟨[uAl 0 1000000 [.der],.d 3 B8,.d 45 A26,.d 46 A0,.d 47 A0,.d 1000000 B25],[(.normal,[uAl 0 1000000 [.der],.d 3 B8,.d 45 A26,.d 46 A0,.d 47 A0,.d 1000000 B25])]⟩
noncomputable def zjoa:JF Y_ctx_checker_own_12:=fun _ K=>zfja (exS zOia 0 K)
structure X_ctx_checker_own_8 where (f3:It21) (f45:List Tm) (f46 f47:Int) (f1000000:It36)
noncomputable def zAga (k_exit_2:It21→It36→Option R) (rec:X_ctx_checker_own_8→Option R) (x:X_ctx_checker_own_8):Option R :=
 cond (decide (x.f47<x.f46))
 (zfja (fun w2 w3 w4 w5 w6 =>
 rec ⟨w2,w3,w4,(IntKind.i64.wrap (w5+1)),w6⟩) ⟨x.f3,x.f45,x.f46,x.f47,x.f1000000⟩)
 (k_exit_2 x.f3 x.f1000000)
noncomputable def zYja:LB:=⟨[uAl 0 1000000 [.der],.d 3 B8,.d 45 A26,.d 46 A0,.d 47 A0,.d 1000000 B25],[((.exit 2),[uAl 0 1000000 [.der],.d 3 B8,.d 1000000 B25])]⟩
noncomputable def zmsa:LF X_ctx_checker_own_8:=fun _ K=>zAga (exS zYja 0 K)
structure zWea where (f3:It21) (f9:Tm) (f72:List Tm) (f73 f74:Int) (f1000000:It36)
noncomputable def zeja (k_normal:It21→Tm→(List Tm)→Int→Int→It36→Option R) (x:zWea):Option R :=
 zVia x.f9 fun r1 =>
 zVia x.f9 fun r3 =>
 zeaa x.f1000000 (r1==0) r3 fun b4 =>
 k_normal x.f3 x.f9 x.f72 x.f73 x.f74 b4
noncomputable def zbEa (x:zWea):St:=St.ofList [(0,(.al 1000000 [.der])),(3,(a15 (some x.f3))),(9,(a52 (some x.f9))),(72,(a53 x.f72)),(73,(a0 x.f73)),(74,(a0 x.f74)),(1000000,(a51 (some x.f1000000)))]
def zsya:Ex→List (Nat×Bool) | .normal=>[(0,false),(3,false),(9,false),(72,false),(73,false),(74,false),(1000000,false)]|_=>[]
def zOma:List (Nat×Bool):=[(0,false),(3,false),(9,false),(72,false),(73,false),(74,false),(1000000,false)]
noncomputable def zKma:Pt zWea := .s 0 (sAl 1000000 [.der]) fun _ => .s 3 B8 fun y3 => .s 9 B26 fun y9 => .s 72 A26 fun y72 => .s 73 A0 fun y73 => .s 74 A0 fun y74 => .s 1000000 B25 fun y1000000 => .e ⟨y3,y9,y72,y73,y74,y1000000⟩
noncomputable def zioa (R:Type) (K:Ex→St→Option R):zWea→Option R:=zeja (fun e3 e9 e72 e73 e74 e1000000=>K .normal (St.ofList [(0,(.al 1000000 [.der])),(3,(a15 (some e3))),(9,(a52 (some e9))),(72,(a53 e72)),(73,(a0 e73)),(74,(a0 e74)),(1000000,(a51 (some e1000000)))]))
structure Y_ctx_checker_own_18 where (f3:It21) (f72:List Tm) (f73 f74:Int) (f1000000:It36)
noncomputable def zdja (k_normal:It21→(List Tm)→Int→Int→It36→Option R) (x:Y_ctx_checker_own_18):Option R :=
 cond (inB x.f74 x.f72.length)
 (zeja (fun w2 w3 w4 w5 w6 w7 =>
 let k1:Option R:=(cond (decide (w7.1.2.2.2.2.1.length+List.length (List.set (List.replicate 1 ((0:Int),(false,((0:Int),())))) 0 w3)≤most))
 (k_normal w2 w4 w5 w6 ((w7.1.1,(w7.1.2.1,(w7.1.2.2.1,(w7.1.2.2.2.1,((w7.1.2.2.2.2.1++(List.set (List.replicate 1 ((0:Int),(false,((0:Int),())))) 0 w3)),w7.1.2.2.2.2.2))))),w7.2)) none)
 both
 (k1)
 (k1)) ⟨x.f3,(x.f72.getD x.f74.toNat (0,(false,(0,())))),x.f72,x.f73,x.f74,x.f1000000⟩) none
noncomputable def zNia:LB:=⟨[uAl 0 1000000 [.der],.d 3 B8,.d 72 A26,.d 73 A0,.d 74 A0,.d 1000000 B25],[(.normal,[uAl 0 1000000 [.der],.d 3 B8,.d 72 A26,.d 73 A0,.d 74 A0,.d 1000000 B25])]⟩
noncomputable def zhoa:JF Y_ctx_checker_own_18:=fun _ K=>zdja (exS zNia 0 K)
structure X_ctx_checker_own_14 where (f3:It21) (f72:List Tm) (f73 f74:Int) (f1000000:It36)
noncomputable def zkfa (k_exit_4:It21→It36→Option R) (rec:X_ctx_checker_own_14→Option R) (x:X_ctx_checker_own_14):Option R :=
 cond (decide (x.f74<x.f73))
 (zdja (fun w2 w3 w4 w5 w6 =>
 rec ⟨w2,w3,w4,(IntKind.i64.wrap (w5+1)),w6⟩) ⟨x.f3,x.f72,x.f73,x.f74,x.f1000000⟩)
 (k_exit_4 x.f3 x.f1000000)
noncomputable def zRia:LB:=⟨[uAl 0 1000000 [.der],.d 3 B8,.d 72 A26,.d 73 A0,.d 74 A0,.d 1000000 B25],[((.exit 4),[uAl 0 1000000 [.der],.d 3 B8,.d 1000000 B25])]⟩
noncomputable def zjra:LF X_ctx_checker_own_14:=fun _ K=>zkfa (exS zRia 0 K)
structure Y_ctx_checker_own_25 where (f11:(Int)×It16) (f117:List ((Int)×It16)) (f118 f119:Int) (f1000000:It36)
noncomputable def zcja (k_normal:((Int)×It16)→(List ((Int)×It16))→Int→Int→It36→Option R) (x:Y_ctx_checker_own_25):Option R :=
 zvha x.f1000000.1 x.f11.2.2.1 x.f11.1 fun r1 =>
 zeaa x.f1000000 r1 6 fun b2 =>
 k_normal x.f11 x.f117 x.f118 x.f119 b2
noncomputable def zMia:LB:=⟨[uAl 0 1000000 [.der],.d 11 B27,.d 117 A9,.d 118 A0,.d 119 A0,.d 1000000 B25],[(.normal,[uAl 0 1000000 [.der],.d 11 B27,.d 117 A9,.d 118 A0,.d 119 A0,.d 1000000 B25])]⟩
noncomputable def zgoa:JF Y_ctx_checker_own_25:=fun _ K=>zcja (exS zMia 0 K)
structure Y_ctx_checker_own_26 where (f117:List ((Int)×It16)) (f118 f119:Int) (f1000000:It36)
noncomputable def zbja (k_normal:(List ((Int)×It16))→Int→Int→It36→Option R) (x:Y_ctx_checker_own_26):Option R :=
 cond (inB x.f119 x.f117.length)
 (zcja (fun w2 w3 w4 w5 w6 =>
 let k1:Option R:=(cond (decide (w6.1.2.2.1.length+List.length (List.set (List.replicate 1 ((0:Int),(false,()))) 0 (w2.1,(w2.2.1,())))≤most))
 (k_normal w3 w4 w5 ((w6.1.1,(w6.1.2.1,((w6.1.2.2.1++(List.set (List.replicate 1 ((0:Int),(false,()))) 0 (w2.1,(w2.2.1,())))),w6.1.2.2.2))),w6.2)) none)
 both
 (k1)
 (k1)) ⟨(x.f117.getD x.f119.toNat (0,(false,([],())))),x.f117,x.f118,x.f119,x.f1000000⟩) none
noncomputable def zLia:LB:=⟨[uAl 0 1000000 [.der],.d 117 A9,.d 118 A0,.d 119 A0,.d 1000000 B25],[(.normal,[uAl 0 1000000 [.der],.d 117 A9,.d 118 A0,.d 119 A0,.d 1000000 B25])]⟩
noncomputable def zfoa:JF Y_ctx_checker_own_26:=fun _ K=>zbja (exS zLia 0 K)
structure X_ctx_checker_own_22 where (f117:List ((Int)×It16)) (f118 f119:Int) (f1000000:It36)
noncomputable def zjfa (k_exit_6:It36→Option R) (rec:X_ctx_checker_own_22→Option R) (x:X_ctx_checker_own_22):Option R :=
 cond (decide (x.f119<x.f118))
 (zbja (fun w2 w3 w4 w5 =>
 rec ⟨w2,w3,(IntKind.i64.wrap (w4+1)),w5⟩) ⟨x.f117,x.f118,x.f119,x.f1000000⟩)
 (k_exit_6 x.f1000000)
noncomputable def zQia:LB:=⟨[uAl 0 1000000 [.der],.d 117 A9,.d 118 A0,.d 119 A0,.d 1000000 B25],[((.exit 6),[.d 1000000 B25])]⟩
noncomputable def zira:LF X_ctx_checker_own_22:=fun _ K=>zjfa (exS zQia 0 K)
noncomputable def zGaa:Loops:=fun z i R st K=>match z,i with
 |false,2=>lpS zZja X_ctx_checker_own_2.mk znsa K st
 |false,8=>lpS zYja X_ctx_checker_own_8.mk zmsa K st
 |false,14=>lpS zRia X_ctx_checker_own_14.mk zjra K st
 |false,22=>lpS zQia X_ctx_checker_own_22.mk zira K st
 |true,5=>jpS zLja Y_ctx_checker_own_5.mk ztqa K st
 |true,6=>jpS zKja Y_ctx_checker_own_6.mk zsqa K st
 |true,11=>lpE zPma zLma (zkoa R K) st
 |true,12=>jpS zOia Y_ctx_checker_own_12.mk zjoa K st
 |true,17=>lpE zOma zKma (zioa R K) st
 |true,18=>jpS zNia Y_ctx_checker_own_18.mk zhoa K st
 |true,25=>jpS zMia Y_ctx_checker_own_25.mk zgoa K st
 |true,26=>jpS zLia Y_ctx_checker_own_26.mk zfoa K st
 |_,_=>none
theorem zdBa:JOk zzaa zGaa inl0 5 Tryz.f57:=jok zLja Y_ctx_checker_own_5.mk (fun x=>(x.f3,x.f5,x.f13,x.f14,x.f15,x.f1000000,())) ztqa 5
theorem zcBa:JOk zzaa zGaa inl0 6 Tryz.f57:=jok zKja Y_ctx_checker_own_6.mk (fun x=>(x.f3,x.f13,x.f14,x.f15,x.f1000000,())) zsqa 6
theorem zrDa:LOk zzaa zGaa inl0 2 Tryz.f57:=lok zZja X_ctx_checker_own_2.mk (fun x=>(x.f3,x.f13,x.f14,x.f15,x.f1000000,())) znsa 2
theorem zJya:JOk zzaa zGaa inl0 11 Tryz.f57:=zvda (hd:=zPma) (out:=ztya) (S:=zcEa) (J:=zkoa) (fun _ _ _=>by kernel_rfl) (p:=zLma) (fun _ _ _ _ _ _ _=>⟨rfl,rfl⟩) fun _ _ _=>rfl
theorem zIya:JOk zzaa zGaa inl0 12 Tryz.f57:=jok zOia Y_ctx_checker_own_12.mk (fun x=>(x.f3,x.f45,x.f46,x.f47,x.f1000000,())) zjoa 12
theorem zqDa:LOk zzaa zGaa inl0 8 Tryz.f57:=lok zYja X_ctx_checker_own_8.mk (fun x=>(x.f3,x.f45,x.f46,x.f47,x.f1000000,())) zmsa 8
theorem zHya:JOk zzaa zGaa inl0 17 Tryz.f57:=zvda (hd:=zOma) (out:=zsya) (S:=zbEa) (J:=zioa) (fun _ _ _=>by kernel_rfl) (p:=zKma) (fun _ _ _ _ _ _ _=>⟨rfl,rfl⟩) fun _ _ _=>rfl
theorem zGya:JOk zzaa zGaa inl0 18 Tryz.f57:=jok zNia Y_ctx_checker_own_18.mk (fun x=>(x.f3,x.f72,x.f73,x.f74,x.f1000000,())) zhoa 18
theorem zCAa:LOk zzaa zGaa inl0 14 Tryz.f57:=lok zRia X_ctx_checker_own_14.mk (fun x=>(x.f3,x.f72,x.f73,x.f74,x.f1000000,())) zjra 14
theorem zFya:JOk zzaa zGaa inl0 25 Tryz.f57:=jok zMia Y_ctx_checker_own_25.mk (fun x=>(x.f11,x.f117,x.f118,x.f119,x.f1000000,())) zgoa 25
theorem zEya:JOk zzaa zGaa inl0 26 Tryz.f57:=jok zLia Y_ctx_checker_own_26.mk (fun x=>(x.f117,x.f118,x.f119,x.f1000000,())) zfoa 26
theorem zBAa:LOk zzaa zGaa inl0 22 Tryz.f57:=lok zQia X_ctx_checker_own_22.mk (fun x=>(x.f117,x.f118,x.f119,x.f1000000,())) zira 22
theorem zMAa:zsaa zzaa zGaa inl0 (body Tryz.f57.body):=lsL (.cons zrDa (.cons zqDa (.cons zCAa (.cons zBAa .nil)))) (.cons zdBa (.cons zcBa (.cons zJya (.cons zIya (.cons zHya (.cons zGya (.cons zFya (.cons zEya .nil))))))))
noncomputable def zyia (a0:It36) (a1:It21) (K:It36→Option R):Option R :=
 loopN (zBga (fun w2 w3 =>
 loopN (zAga (fun w5 w6 =>
 loopN (zkfa (fun w8 w9 =>
 zeaa w9 (decide ((w9.1.2.2.2.1.length:Int)≤1)) 3 fun b12 =>
 zeaa b12 (decide ((b12.1.2.2.2.2.1.length:Int)≤1)) 8 fun b15 =>
 loopN (zjfa (fun w17 =>
 K w17)) zpaa ⟨w8.2.2.2.2.2.1,(w8.2.2.2.2.2.1.length:Int),0,b15⟩)) zpaa ⟨w5,w5.2.2.2.2.1,(w5.2.2.2.2.1.length:Int),0,w6⟩)) zpaa ⟨w2,w2.2.2.2.1,(w2.2.2.2.1.length:Int),0,w3⟩)) zpaa ⟨a1,a1.2.2.1,(a1.2.2.1.length:Int),0,a0⟩
noncomputable def zlua:CSpec:={ ins:=[(.ref (.pair (.pair Ty5 Ty9) (.pair (.int .i64) .unit)) (.p (.p (.o .s) (.p (.o .s) (.p (.o .s) (.p (.o .s) (.p (.o .s) .s))))) .s) (.p (.p (.o .s) (.p (.o .s) (.p (.o .s) (.p (.o .s) (.p (.o .s) .s))))) .s)),(.val Ty32 .s)],outs:=[],fn:=fun d K _=>zyia d.1 d.2.1 (fun b0=>K ((()):Unit) ((b0,()):It36×Unit)) }
theorem zNJa:Holds Tryz.prog 57 zlua:=hw zzaa [] zfaa Tryz.func57 zMAa ⟨mixed,envTyOk.ty,envTyOk.eq⟩
noncomputable def zVJa:GE Tryz.prog:=⟨57,[],zlua,zNJa⟩
noncomputable def zFna:Nat→Bool
 |102=>true
 |103=>true
 |156=>true
 |_=>false
noncomputable def zqna:Nat→Option (List Nat)
 |0=>some [0,1,4,6,32,33,34,39,76,77,81,83,84,96,97,1000000]
 |1=>some [0,1,4,6,32,33,34,39,76,77,81,83,84,97,98,1000000]
 |_=>none
noncomputable def env_ctx_checker_exportsm1x0x0x0:Env:={ E0 with n:=Tryz.f103.ntmps,il:=zFna,lv:=zqna,b:=96 }
theorem zVla:InlF Tryz.prog env_ctx_checker_exportsm1x0x0x0.b 103 (fun R st xs K Kp=>match Nat.ble xs.length env_ctx_checker_exportsm1x0x0x0.n with|true=>evC env_ctx_checker_exportsm1x0x0x0 lp0 inl0 (body Tryz.f103.body) (st.enter env_ctx_checker_exportsm1x0x0x0.b xs) (inlK env_ctx_checker_exportsm1x0x0x0 [(3,none)] K Kp)|false=>none) :=
 zOwa mixed ⟨envTyOk.ty,envTyOk.eq⟩ (fun _ _ _ h=>by cases h) zfaa Tryz.func103 (by kernel_rfl) (by kernel_rfl) (by kernel_rfl) (by kernel_rfl) (by kernel_rfl) (zSga (by kernel_rfl) (by kernel_rfl)) (by kernel_rfl)
noncomputable def zxqa:Nat→Bool
 |102=>true
 |103=>true
 |156=>true
 |_=>false
noncomputable def zfqa:Nat→Option (List Nat)
 |0|1=>some [0,1,4,6,32,33,34,39,76,77,1000000]
 |2|3|6=>some [0,1,4,6,32,33,34,39,76,77,83,84,1000000]
 |4=>some [0,1,4,6,32,33,34,39,76,77,81,83,84,1000000]
 |5=>some [0,1,4,6,32,33,34,39,81,1000000]
 |7=>some [0,1,4,6,32,33,34,39,1000000]
 |_=>none
noncomputable def env_ctx_checker_exportsm1x0x0:Env:={ E0 with n:=Tryz.f156.ntmps,il:=zxqa,lv:=zfqa,b:=76 }
noncomputable def zTaa:Inl:=fun f d R st xs K Kp=>match f,d with
 |103,some 16=>match Nat.ble xs.length env_ctx_checker_exportsm1x0x0x0.n with
  |true=>evC env_ctx_checker_exportsm1x0x0x0 lp0 inl0 (body Tryz.f103.body) (st.enter env_ctx_checker_exportsm1x0x0x0.b xs) (inlK env_ctx_checker_exportsm1x0x0x0 [(3,none)] K Kp)
  |false=>none
 |_,_=>none
theorem zRma:InlOk Tryz.prog env_ctx_checker_exportsm1x0x0.top zTaa:=zCna fun f d=>by
 unfold zTaa;split
 ·exact zVla
 ·exact zzia
structure X_ctx_checker_exportsm1x0x0_2 where (f1:List Tx) (f4:Tl) (f6:Tx) (f32:List Tx) (f33 f34:Int) (f76:List Tx) (f83 f84:Int) (f1000000:It36)
noncomputable def zVba (k_ret:(List Tx)→Tl→Tx→(List Tx)→Int→Int→Int→It36→Option R) (k_exit_0:(List Tx)→Tl→Tx→(List Tx)→Int→Int→It36→Option R) (rec:X_ctx_checker_exportsm1x0x0_2→Option R) (x:X_ctx_checker_exportsm1x0x0_2):Option R :=
 cond (decide (x.f84<x.f83))
 (cond (inB x.f84 x.f76.length)
 (cond ((x.f76.getD x.f84.toNat ([],(0,(0,())))).1==x.f6.1)
 (k_ret x.f1 x.f4 x.f6 x.f32 x.f33 x.f34 x.f84 x.f1000000)
 (rec ⟨x.f1,x.f4,x.f6,x.f32,x.f33,x.f34,x.f76,x.f83,(IntKind.i64.wrap (x.f84+1)),x.f1000000⟩)) none)
 (k_exit_0 x.f1 x.f4 x.f6 x.f32 x.f33 x.f34 x.f1000000)
noncomputable def zTba:LB:=⟨[uAl 0 1000000 [.der],.d 1 A10,.d 4 A5,.d 6 B28,.d 32 A10,.d 33 A0,.d 34 A0,uAl 39 1000000 [.der],.d 76 A10,uFn 77 103 [] [(6,[.der])],.d 83 A0,.d 84 A0,.d 1000000 B25],[(.ret,[uAl 0 1000000 [.der],.d 1 A10,.d 4 A5,.d 6 B28,.d 32 A10,.d 33 A0,.d 34 A0,uAl 39 1000000 [.der],.d 80 A0,.d 1000000 B25]),((.exit 0),[uAl 0 1000000 [.der],.d 1 A10,.d 4 A5,.d 6 B28,.d 32 A10,.d 33 A0,.d 34 A0,uAl 39 1000000 [.der],.d 1000000 B25])]⟩
noncomputable def ztga:LF X_ctx_checker_exportsm1x0x0_2:=fun _ K=>zVba (exS zTba 0 K) (exS zTba 1 K)
noncomputable def zbca:Loops:=fun z i R st K=>match z,i with
 |false,2=>lpS zTba X_ctx_checker_exportsm1x0x0_2.mk ztga K st
 |_,_=>none
theorem zpna:LOk env_ctx_checker_exportsm1x0x0 zbca zTaa 2 Tryz.f156:=lok zTba X_ctx_checker_exportsm1x0x0_2.mk (fun x=>(x.f1,x.f4,x.f6,x.f32,x.f33,x.f34,x.f76,x.f83,x.f84,x.f1000000,())) ztga 2
theorem zGma:zsaa env_ctx_checker_exportsm1x0x0 zbca zTaa (body Tryz.f156.body):=lsL (.cons zpna .nil) .nil
theorem zEna:InlF Tryz.prog env_ctx_checker_exportsm1x0x0.b 156 (fun R st xs K Kp=>match Nat.ble xs.length env_ctx_checker_exportsm1x0x0.n with|true=>evC env_ctx_checker_exportsm1x0x0 zbca zTaa (body Tryz.f156.body) (st.enter env_ctx_checker_exportsm1x0x0.b xs) (inlK env_ctx_checker_exportsm1x0x0 [(4,none)] K Kp)|false=>none) :=
 zOwa mixed ⟨envTyOk.ty,envTyOk.eq⟩ (fun _ _ _ h=>by cases h) zRma Tryz.func156 (by kernel_rfl) (by kernel_rfl) (by kernel_rfl) (by kernel_rfl) (by kernel_rfl) zGma (by kernel_rfl)
noncomputable def zjta:Nat→Bool
 |102=>true
 |103=>true
 |156=>true
 |_=>false
noncomputable def zWsa:Nat→Option (List Nat)
 |0|1=>some [0,1,4,6,32,33,34,39,66,67,1000000]
 |_=>none
noncomputable def env_ctx_checker_exportsm1x0:Env:={ E0 with n:=Tryz.f102.ntmps,il:=zjta,lv:=zWsa,b:=66 }
noncomputable def zkca:Inl:=fun f d R st xs K Kp=>match f,d with
 |156,some 7=>match Nat.ble xs.length env_ctx_checker_exportsm1x0x0.n with
  |true=>evC env_ctx_checker_exportsm1x0x0 zbca zTaa (body Tryz.f156.body) (st.enter env_ctx_checker_exportsm1x0x0.b xs) (inlK env_ctx_checker_exportsm1x0x0 [(4,none)] K Kp)
  |false=>none
 |_,_=>none
theorem zQoa:InlOk Tryz.prog env_ctx_checker_exportsm1x0.top zkca:=zCna fun f d=>by
 unfold zkca;split
 ·exact zEna
 ·exact zzia
theorem zwqa:InlF Tryz.prog env_ctx_checker_exportsm1x0.b 102 (fun R st xs K Kp=>match Nat.ble xs.length env_ctx_checker_exportsm1x0.n with|true=>evC env_ctx_checker_exportsm1x0 lp0 zkca (body Tryz.f102.body) (st.enter env_ctx_checker_exportsm1x0.b xs) (inlK env_ctx_checker_exportsm1x0 [(4,none)] K Kp)|false=>none) :=
 zOwa mixed ⟨envTyOk.ty,envTyOk.eq⟩ (fun _ _ _ h=>by cases h) zQoa Tryz.func102 (by kernel_rfl) (by kernel_rfl) (by kernel_rfl) (by kernel_rfl) (by kernel_rfl) (zSga (by kernel_rfl) (by kernel_rfl)) (by kernel_rfl)
noncomputable def zRva:Nat→Bool
 |102=>true
 |103=>true
 |156=>true
 |_=>false
noncomputable def zAva:Nat→Bool
 |6=>true
 |_=>false
noncomputable def zrva:Nat→Option (List Nat)
 |0=>some [0,1,1000000]
 |1=>some [0,1,4,1000000]
 |2|3|6=>some [0,1,4,32,33,34,1000000]
 |4=>some [0,1,4,5,6,32,33,34,1000000]
 |5=>some [0,1,4,6,32,33,34,1000000]
 |_=>none
noncomputable def env_ctx_checker_exportsm1:Env:={ mE [zjda,zWva] Tryz.f58 with il:=zRva,js:=zAva,lv:=zrva,al:=[0,39,47] }
noncomputable def zNba:Inl:=fun f d R st xs K Kp=>match f,d with
 |102,some 44=>match Nat.ble xs.length env_ctx_checker_exportsm1x0.n with
  |true=>evC env_ctx_checker_exportsm1x0 lp0 zkca (body Tryz.f102.body) (st.enter env_ctx_checker_exportsm1x0.b xs) (inlK env_ctx_checker_exportsm1x0 [(4,none)] K Kp)
  |false=>none
 |_,_=>none
theorem zzra:InlOk Tryz.prog env_ctx_checker_exportsm1.top zNba:=zCna fun f d=>by
 unfold zNba;split
 ·exact zwqa
 ·exact zzia
structure Y_ctx_checker_exportsm1_6 where (f1:List Tx) (f4:Tl) (f32:List Tx) (f33 f34:Int) (f1000000:It36)
noncomputable def zyea (k_normal:(List Tx)→Tl→(List Tx)→Int→Int→It36→Option R) (x:Y_ctx_checker_exportsm1_6):Option R :=
 cond (inB x.f34 x.f32.length)
 (cond (inR 0 x.f34 x.f1.length)
 (let v2:=rng x.f1 0 x.f34
 loopN (zVba (fun w4 w5 w6 w7 w8 w9 w10 w11 =>
 zeaa w11 (!(decide (w10≥0))) 8 fun b14 =>
 zLda w6.2.1 4 fun r15 =>
 cond r15
 (let k2:Option R:=(zLda w6.2.2.1 (w5.getD (minI (maxI w6.2.1 0) 3).toNat 0) fun r19 =>
 zeaa b14 r19 7 fun b20 =>
 k_normal w4 w5 w7 w8 w9 b20)
 both
 (let v17:=minI (maxI w6.2.1 0) 3
 cond (inB v17 w5.length)
 (k2) none)
 (let v22:=minI (maxI w6.2.1 0) 3
 cond (inB v22 w5.length)
 (both
 (k2)
 (k2)) none))
 (zeaa b14 false 7 fun b29 =>
 k_normal w4 w5 w7 w8 w9 b29)) (fun w30 w31 w32 w33 w34 w35 w36 =>
 zeaa w36 (!(decide ((-1:Int)≥(0:Int)))) (8:Int) fun b39 =>
 zLda w32.2.1 4 fun r40 =>
 cond r40
 (let k1:Option R:=(zLda w32.2.2.1 (w31.getD (minI (maxI w32.2.1 0) 3).toNat 0) fun r44 =>
 zeaa b39 r44 7 fun b45 =>
 k_normal w30 w31 w33 w34 w35 b45)
 both
 (let v42:=minI (maxI w32.2.1 0) 3
 cond (inB v42 w31.length)
 (k1) none)
 (let v47:=minI (maxI w32.2.1 0) 3
 cond (inB v47 w31.length)
 (both
 (k1)
 (k1)) none))
 (zeaa b39 false 7 fun b54 =>
 k_normal w30 w31 w33 w34 w35 b54))) zpaa ⟨x.f1,x.f4,(x.f32.getD x.f34.toNat ([],(0,(0,())))),x.f32,x.f33,x.f34,v2,(v2.length:Int),0,x.f1000000⟩) none) none
noncomputable def zmea:LB:=⟨[uAl 0 1000000 [.der],.d 1 A10,.d 4 A5,.d 32 A10,.d 33 A0,.d 34 A0,.d 1000000 B25],[(.normal,[uAl 0 1000000 [.der],.d 1 A10,.d 4 A5,.d 32 A10,.d 33 A0,.d 34 A0,.d 1000000 B25])]⟩
noncomputable def zaia:JF Y_ctx_checker_exportsm1_6:=fun _ K=>zyea (exS zmea 0 K)
structure X_ctx_checker_exportsm1_2 where (f1:List Tx) (f4:Tl) (f32:List Tx) (f33 f34:Int) (f1000000:It36)
noncomputable def zSca (k_exit_0:It36→Option R) (rec:X_ctx_checker_exportsm1_2→Option R) (x:X_ctx_checker_exportsm1_2):Option R :=
 cond (decide (x.f34<x.f33))
 (zyea (fun w2 w3 w4 w5 w6 w7 =>
 rec ⟨w2,w3,w4,w5,(IntKind.i64.wrap (w6+1)),w7⟩) ⟨x.f1,x.f4,x.f32,x.f33,x.f34,x.f1000000⟩)
 (k_exit_0 x.f1000000)
noncomputable def znea:LB:=⟨[uAl 0 1000000 [.der],.d 1 A10,.d 4 A5,.d 32 A10,.d 33 A0,.d 34 A0,.d 1000000 B25],[((.exit 0),[.d 1000000 B25])]⟩
noncomputable def zyja:LF X_ctx_checker_exportsm1_2:=fun _ K=>zSca (exS znea 0 K)
noncomputable def zRea:Loops:=fun z i R st K=>match z,i with
 |false,2=>lpS znea X_ctx_checker_exportsm1_2.mk zyja K st
 |true,6=>jpS zmea Y_ctx_checker_exportsm1_6.mk zaia K st
 |_,_=>none
theorem zxra:JOk env_ctx_checker_exportsm1 zRea zNba 6 Tryz.f58:=jok zmea Y_ctx_checker_exportsm1_6.mk (fun x=>(x.f1,x.f4,x.f32,x.f33,x.f34,x.f1000000,())) zaia 6
theorem zUsa:LOk env_ctx_checker_exportsm1 zRea zNba 2 Tryz.f58:=lok znea X_ctx_checker_exportsm1_2.mk (fun x=>(x.f1,x.f4,x.f32,x.f33,x.f34,x.f1000000,())) zyja 2
theorem zsra:zsaa env_ctx_checker_exportsm1 zRea zNba (body Tryz.f58.body):=lsL (.cons zUsa .nil) (.cons zxra .nil)
noncomputable def zuda (a0:It36) (a1:List Tx) (K:It36→Option R):Option R :=
 let k1:Option R:=(let k2:Option R:=(let k3:Option R:=(loopN (zSca (fun w7 =>
 K w7)) zpaa ⟨a1,(List.set (List.set (List.set (List.set (List.replicate 4 (0:Int)) 0 (a0.1.2.1.length:Int)) 1 (a0.1.2.2.2.1.length:Int)) 2 (a0.1.2.2.2.2.1.length:Int)) 3 (a0.1.2.2.1.length:Int)),a1,(a1.length:Int),0,a0⟩)
 both
 (k3)
 (k3))
 both
 (k2)
 (both
 (k2)
 (k2)))
 both
 (k1)
 (both
 (k1)
 (both
 (k1)
 (k1)))
noncomputable def zzka:CSpec:={ ins:=[(.ref (.pair (.pair Ty5 Ty9) (.pair (.int .i64) .unit)) (.p (.p (.o .s) (.p (.o .s) (.p (.o .s) (.p (.o .s) (.p (.o .s) .s))))) .s) (.p (.p (.o .s) (.p (.o .s) (.p (.o .s) (.p (.o .s) (.p (.o .s) .s))))) .s)),(.val (.sl 128 (.pair .str (.pair (.int .i64) (.pair (.int .i64) .unit)))) .s)],outs:=[],fn:=fun d K _=>zuda d.1 d.2.1 (fun b0=>K ((()):Unit) ((b0,()):It36×Unit)) }
theorem ztxa:Holds Tryz.prog 58 zzka:=hw env_ctx_checker_exportsm1 [] zzra Tryz.func58 zsra ⟨mixed,envTyOk.ty,envTyOk.eq⟩
noncomputable def zyxa:GE Tryz.prog:=⟨58,[],zzka,ztxa⟩
noncomputable def zcea:List (FuncId×List FuncId×CSpec):=[(61,[],zVMa)]
noncomputable def zTma:Nat→Bool
 |104=>true
 |105=>true
 |157=>true
 |_=>false
noncomputable def zFma:Nat→Option (List Nat)
 |0|1=>some [2,3,9,10,11,36,84,85,89,91,92,104,105,1000000]
 |_=>none
noncomputable def env_ctx_checker_segmentsm1x0x0x0:Env:={ E0 with gam:=(gamL zcea),n:=Tryz.f105.ntmps,il:=zTma,lv:=zFma,b:=104 }
theorem zska:EnvFn Tryz.prog env_ctx_checker_segmentsm1x0x0x0:=fun f gs c h=>zPOa (l:=zcea) ⟨zVVa,trivial⟩ f gs c h
theorem zgla:InlF Tryz.prog env_ctx_checker_segmentsm1x0x0x0.b 105 (fun R st xs K Kp=>match Nat.ble xs.length env_ctx_checker_segmentsm1x0x0x0.n with|true=>evC env_ctx_checker_segmentsm1x0x0x0 lp0 inl0 (body Tryz.f105.body) (st.enter env_ctx_checker_segmentsm1x0x0x0.b xs) (inlK env_ctx_checker_segmentsm1x0x0x0 [(3,none)] K Kp)|false=>none) :=
 zOwa mixed ⟨envTyOk.ty,envTyOk.eq⟩ zska zfaa Tryz.func105 (by kernel_rfl) (by kernel_rfl) (by kernel_rfl) (by kernel_rfl) (by kernel_rfl) (zSga (by kernel_rfl) (by kernel_rfl)) (by kernel_rfl)
noncomputable def zSoa:Nat→Bool
 |104=>true
 |105=>true
 |157=>true
 |_=>false
noncomputable def zNoa:Nat→Option (List Nat)
 |0|1=>some [2,3,9,10,11,36,84,85,1000000]
 |2|3|6=>some [2,3,9,10,11,36,84,85,91,92,1000000]
 |4=>some [2,3,9,10,11,36,84,85,89,91,92,1000000]
 |5=>some [2,3,9,10,11,36,89,1000000]
 |7=>some [2,3,9,10,11,36,1000000]
 |_=>none
noncomputable def env_ctx_checker_segmentsm1x0x0:Env:={ E0 with n:=Tryz.f157.ntmps,il:=zSoa,lv:=zNoa,b:=84 }
noncomputable def zMaa:Inl:=fun f d R st xs K Kp=>match f,d with
 |105,some 16=>match Nat.ble xs.length env_ctx_checker_segmentsm1x0x0x0.n with
  |true=>evC env_ctx_checker_segmentsm1x0x0x0 lp0 inl0 (body Tryz.f105.body) (st.enter env_ctx_checker_segmentsm1x0x0x0.b xs) (inlK env_ctx_checker_segmentsm1x0x0x0 [(3,none)] K Kp)
  |false=>none
 |_,_=>none
theorem zUla:InlOk Tryz.prog env_ctx_checker_segmentsm1x0x0.top zMaa:=zCna fun f d=>by
 unfold zMaa;split
 ·exact zgla
 ·exact zzia
structure X_ctx_checker_segmentsm1x0x0_2 where (f3:It21) (f9:List ((Int)×It17)) (f10 f11:Int) (f84:Tl) (f91 f92:Int) (f1000000:It36)
noncomputable def zhba (k_ret:It21→(List ((Int)×It17))→Int→Int→Int→It36→Option R) (k_exit_0:It21→(List ((Int)×It17))→Int→Int→It36→Option R) (rec:X_ctx_checker_segmentsm1x0x0_2→Option R) (x:X_ctx_checker_segmentsm1x0x0_2):Option R :=
 cond (decide (x.f92<x.f91))
 (cond (inB x.f92 x.f84.length)
 (let v2:=x.f84.getD x.f92.toNat 0
 cond (v2 != (-1))
 (zLda v2 (x.f1000000.1.2.1.length:Int) fun r5 =>
 cond (!r5)
 (k_ret x.f3 x.f9 x.f10 x.f11 x.f92 x.f1000000)
 (rec ⟨x.f3,x.f9,x.f10,x.f11,x.f84,x.f91,(IntKind.i64.wrap (x.f92+1)),x.f1000000⟩))
 (rec ⟨x.f3,x.f9,x.f10,x.f11,x.f84,x.f91,(IntKind.i64.wrap (x.f92+1)),x.f1000000⟩)) none)
 (k_exit_0 x.f3 x.f9 x.f10 x.f11 x.f1000000)
noncomputable def zHba:LB:=⟨[uBx 2 1000000 [],.d 3 B8,.d 9 A11,.d 10 A0,.d 11 A0,uAl 36 1000000 [.der],.d 84 A2,uFn 85 105 [] [(1000000,[])],.d 91 A0,.d 92 A0,.d 1000000 B25],[(.ret,[uBx 2 1000000 [],.d 3 B8,.d 9 A11,.d 10 A0,.d 11 A0,uAl 36 1000000 [.der],.d 88 A0,.d 1000000 B25]),((.exit 0),[uBx 2 1000000 [],.d 3 B8,.d 9 A11,.d 10 A0,.d 11 A0,uAl 36 1000000 [.der],.d 1000000 B25])]⟩
noncomputable def zHfa:LF X_ctx_checker_segmentsm1x0x0_2:=fun _ K=>zhba (exS zHba 0 K) (exS zHba 1 K)
noncomputable def zUba:Loops:=fun z i R st K=>match z,i with
 |false,2=>lpS zHba X_ctx_checker_segmentsm1x0x0_2.mk zHfa K st
 |_,_=>none
theorem zEma:LOk env_ctx_checker_segmentsm1x0x0 zUba zMaa 2 Tryz.f157:=lok zHba X_ctx_checker_segmentsm1x0x0_2.mk (fun x=>(x.f3,x.f9,x.f10,x.f11,x.f84,x.f91,x.f92,x.f1000000,())) zHfa 2
theorem zQla:zsaa env_ctx_checker_segmentsm1x0x0 zUba zMaa (body Tryz.f157.body):=lsL (.cons zEma .nil) .nil
theorem zSma:InlF Tryz.prog env_ctx_checker_segmentsm1x0x0.b 157 (fun R st xs K Kp=>match Nat.ble xs.length env_ctx_checker_segmentsm1x0x0.n with|true=>evC env_ctx_checker_segmentsm1x0x0 zUba zMaa (body Tryz.f157.body) (st.enter env_ctx_checker_segmentsm1x0x0.b xs) (inlK env_ctx_checker_segmentsm1x0x0 [(4,none)] K Kp)|false=>none) :=
 zOwa mixed ⟨envTyOk.ty,envTyOk.eq⟩ (fun _ _ _ h=>by cases h) zUla Tryz.func157 (by kernel_rfl) (by kernel_rfl) (by kernel_rfl) (by kernel_rfl) (by kernel_rfl) zQla (by kernel_rfl)
noncomputable def zBra:Nat→Bool
 |104=>true
 |105=>true
 |157=>true
 |_=>false
noncomputable def zqra:Nat→Option (List Nat)
 |0|1=>some [2,3,9,10,11,36,74,75,1000000]
 |_=>none
noncomputable def env_ctx_checker_segmentsm1x0:Env:={ E0 with n:=Tryz.f104.ntmps,il:=zBra,lv:=zqra,b:=74 }
noncomputable def zcca:Inl:=fun f d R st xs K Kp=>match f,d with
 |157,some 7=>match Nat.ble xs.length env_ctx_checker_segmentsm1x0x0.n with
  |true=>evC env_ctx_checker_segmentsm1x0x0 zUba zMaa (body Tryz.f157.body) (st.enter env_ctx_checker_segmentsm1x0x0.b xs) (inlK env_ctx_checker_segmentsm1x0x0 [(4,none)] K Kp)
  |false=>none
 |_,_=>none
theorem zDna:InlOk Tryz.prog env_ctx_checker_segmentsm1x0.top zcca:=zCna fun f d=>by
 unfold zcca;split
 ·exact zSma
 ·exact zzia
theorem zRoa:InlF Tryz.prog env_ctx_checker_segmentsm1x0.b 104 (fun R st xs K Kp=>match Nat.ble xs.length env_ctx_checker_segmentsm1x0.n with|true=>evC env_ctx_checker_segmentsm1x0 lp0 zcca (body Tryz.f104.body) (st.enter env_ctx_checker_segmentsm1x0.b xs) (inlK env_ctx_checker_segmentsm1x0 [(4,none)] K Kp)|false=>none) :=
 zOwa mixed ⟨envTyOk.ty,envTyOk.eq⟩ (fun _ _ _ h=>by cases h) zDna Tryz.func104 (by kernel_rfl) (by kernel_rfl) (by kernel_rfl) (by kernel_rfl) (by kernel_rfl) (zSga (by kernel_rfl) (by kernel_rfl)) (by kernel_rfl)
noncomputable def zZta:Nat→Bool
 |3=>true
 |_=>false
noncomputable def zaua:Nat→Bool
 |5=>true
 |7=>true
 |_=>false
noncomputable def zSta:Nat→Bool
 |104=>true
 |105=>true
 |157=>true
 |_=>false
noncomputable def zDta:Nat→Option (List Nat)
 |0=>some [0,1,1000000]
 |1|9=>some [2,3,1000000]
 |2|3|8=>some [2,3,9,10,11,1000000]
 |4|5|6|7=>some [2,3,5,9,10,11,1000000]
 |10|11|15=>some [2,45,46,47,1000000]
 |12|13|14=>some [2,7,45,46,47,1000000]
 |_=>none
noncomputable def env_ctx_checker_segmentsm1:Env:={ mE [zjda,zeFa] Tryz.f60 with fz:=zZta,fs:=zaua,il:=zSta,lv:=zDta,al:=[18,19,20,21,22,27,28,29,30,36,54,55,56,57,58,63,64,65,66] }
noncomputable def zFba:Inl:=fun f d R st xs K Kp=>match f,d with
 |104,some 40=>match Nat.ble xs.length env_ctx_checker_segmentsm1x0.n with
  |true=>evC env_ctx_checker_segmentsm1x0 lp0 zcca (body Tryz.f104.body) (st.enter env_ctx_checker_segmentsm1x0.b xs) (inlK env_ctx_checker_segmentsm1x0 [(4,none)] K Kp)
  |false=>none
 |_,_=>none
theorem zuqa:InlOk Tryz.prog env_ctx_checker_segmentsm1.top zFba:=zCna fun f d=>by
 unfold zFba;split
 ·exact zRoa
 ·exact zzia
structure X_ctx_checker_segmentsm1_2 where (f3:It21) (f9:List ((Int)×It17)) (f10 f11:Int) (f1000000:It36)
noncomputable def zyca (k_exit_0:It21→It36→Option R) (rec:X_ctx_checker_segmentsm1_2→Option R) (x:X_ctx_checker_segmentsm1_2):Option R :=
 cond (decide (x.f11<x.f10))
 (cond (inB x.f11 x.f9.length)
 (let v2:=x.f9.getD x.f11.toNat (0,([],([],())))
 cond (v2.1==0)
 (zeaa x.f1000000 (decide ((x.f1000000.1.2.2.2.1.length:Int)>0)) 7 fun b6 =>
 zvha b6.1 v2.2.1 127 fun r7 =>
 zeaa b6 r7 6 fun b8 =>
 loopN (zhba (fun w10 w11 w12 w13 w14 w15 =>
 zeaa w15 (!(decide (w14≥0))) 7 fun b18 =>
 rec ⟨w10,w11,w12,(IntKind.i64.wrap (w13+1)),b18⟩) (fun w20 w21 w22 w23 w24 =>
 zeaa w24 (!(decide ((-1:Int)≥(0:Int)))) (7:Int) fun b27 =>
 rec ⟨w20,w21,w22,(IntKind.i64.wrap (w23+1)),b27⟩)) zpaa ⟨x.f3,x.f9,x.f10,x.f11,v2.2.2.1,(v2.2.2.1.length:Int),0,b8⟩)
 (loopN (zhba (fun w30 w31 w32 w33 w34 w35 =>
 zeaa w35 (!(decide (w34≥0))) 7 fun b38 =>
 rec ⟨w30,w31,w32,(IntKind.i64.wrap (w33+1)),b38⟩) (fun w40 w41 w42 w43 w44 =>
 zeaa w44 (!(decide ((-1:Int)≥(0:Int)))) (7:Int) fun b47 =>
 rec ⟨w40,w41,w42,(IntKind.i64.wrap (w43+1)),b47⟩)) zpaa ⟨x.f3,x.f9,x.f10,x.f11,v2.2.2.1,(v2.2.2.1.length:Int),0,x.f1000000⟩)) none)
 (k_exit_0 x.f3 x.f1000000)
noncomputable def zXda:LB:=⟨[uBx 2 1000000 [],.d 3 B8,.d 9 A11,.d 10 A0,.d 11 A0,.d 1000000 B25],[((.exit 0),[uBx 2 1000000 [],.d 3 B8,.d 1000000 B25])]⟩
noncomputable def zgia:LF X_ctx_checker_segmentsm1_2:=fun _ K=>zyca (exS zXda 0 K)
structure X_ctx_checker_segmentsm1_10 where (f45:List ((Int)×It17)) (f46 f47:Int) (f1000000:It36)
noncomputable def zlca (k_exit_2:It36→Option R) (rec:X_ctx_checker_segmentsm1_10→Option R) (x:X_ctx_checker_segmentsm1_10):Option R :=
 cond (decide (x.f47<x.f46))
 (cond (inB x.f47 x.f45.length)
 (let v2:=x.f45.getD x.f47.toNat (0,([],([],())))
 cond (v2.1==0)
 (zeaa x.f1000000 (decide ((x.f1000000.1.2.2.2.2.1.length:Int)>0)) 7 fun b6 =>
 zvha b6.1 v2.2.1 127 fun r7 =>
 zeaa b6 r7 6 fun b8 =>
 rec ⟨x.f45,x.f46,(IntKind.i64.wrap (x.f47+1)),b8⟩)
 (rec ⟨x.f45,x.f46,(IntKind.i64.wrap (x.f47+1)),x.f1000000⟩)) none)
 (k_exit_2 x.f1000000)
noncomputable def zBda:LB:=⟨[uBx 2 1000000 [],.d 45 A12,.d 46 A0,.d 47 A0,.d 1000000 B25],[((.exit 2),[.d 1000000 B25])]⟩
noncomputable def zKha:LF X_ctx_checker_segmentsm1_10:=fun _ K=>zlca (exS zBda 0 K)
noncomputable def ztea:Loops:=fun z i R st K=>match z,i with
 |false,2=>lpS zXda X_ctx_checker_segmentsm1_2.mk zgia K st
 |false,10=>lpS zBda X_ctx_checker_segmentsm1_10.mk zKha K st
 |_,_=>none
theorem znra:LOk env_ctx_checker_segmentsm1 ztea zFba 2 Tryz.f60:=lok zXda X_ctx_checker_segmentsm1_2.mk (fun x=>(x.f3,x.f9,x.f10,x.f11,x.f1000000,())) zgia 2
theorem zeqa:LOk env_ctx_checker_segmentsm1 ztea zFba 10 Tryz.f60:=lok zBda X_ctx_checker_segmentsm1_10.mk (fun x=>(x.f45,x.f46,x.f47,x.f1000000,())) zKha 10
theorem zhqa:zsaa env_ctx_checker_segmentsm1 ztea zFba (body Tryz.f60.body):=lsL (.cons znra (.cons zeqa .nil)) .nil
noncomputable def zYca (a0:It36) (a1:It21) (K:It36→Option R):Option R :=
 loopN (zyca (fun w2 w3 =>
 loopN (zlca (fun w5 =>
 K w5)) zpaa ⟨w2.2.2.2.2.2.2.2.2.2.2.1,(w2.2.2.2.2.2.2.2.2.2.2.1.length:Int),0,w3⟩)) zpaa ⟨a1,a1.2.2.2.2.2.2.2.2.1,(a1.2.2.2.2.2.2.2.2.1.length:Int),0,a0⟩
noncomputable def zvja:CSpec:={ ins:=[(.ref (.pair (.pair Ty5 Ty9) (.pair (.int .i64) .unit)) (.p (.p (.o .s) (.p (.o .s) (.p (.o .s) (.p (.o .s) (.p (.o .s) .s))))) .s) (.p (.p (.o .s) (.p (.o .s) (.p (.o .s) (.p (.o .s) (.p (.o .s) .s))))) .s)),(.val Ty32 .s)],outs:=[],fn:=fun d K _=>zYca d.1 d.2.1 (fun b0=>K ((()):Unit) ((b0,()):It36×Unit)) }
theorem zTva:Holds Tryz.prog 60 zvja:=hw env_ctx_checker_segmentsm1 [] zuqa Tryz.func60 zhqa ⟨mixed,envTyOk.ty,envTyOk.eq⟩
noncomputable def zXva:GE Tryz.prog:=⟨60,[],zvja,zTva⟩
noncomputable def zmZa:Nat→Bool
 |1=>true
 |_=>false
noncomputable def znZa:Nat→Bool
 |6=>true
 |9=>true
 |12=>true
 |_=>false
noncomputable def zaZa:Nat→Bool
 |6=>true
 |24=>true
 |_=>false
noncomputable def zWYa:Nat→Option (List Nat)
 |0=>some [0]
 |1=>some [1,2]
 |2|7|8|9|10|11|18|19=>some [1,2,4]
 |3|4|6=>some [1,2,4,16,17,18]
 |5=>some [1,2,4,6,16,17,18]
 |12|13|17=>some [1,2,4,70,71,72]
 |14=>some [1,2,4,8,70,71,72]
 |15=>some [1,2,4,9,10,70,71,72]
 |16=>some [1,2,4,9,70,71,72]
 |20|21|24=>some [2,4,103,104,105]
 |22|23=>some [2,4,12,103,104,105]
 |25|26|27=>some [2,4]
 |_=>none
noncomputable def zOqa:Env:={ mE [zMDa,zkBa,zVJa,zyxa,zTSa,zjda,zXva,zWva] Tryz.f30 with fz:=zmZa,fs:=znZa,js:=zaZa,lv:=zWYa,al:=[49,50,51,52,53,54,55,56,57,78,79,112,113,114,120,121,122] }
structure Y_ctx_Of_6 where (f1:It21) (f2:(List Tq)×(Tl)×It2) (f4:It36) (f16:List Tq) (f17 f18:Int)
noncomputable def zZMa (k_normal:It21→((List Tq)×(Tl)×It2)→It36→(List Tq)→Int→Int→Option R) (x:Y_ctx_Of_6):Option R :=
 cond (inB x.f18 x.f16.length)
 (let v1:=x.f16.getD x.f18.toNat ([],([],()))
 both
 (zPea v1 fun r2 =>
 let v3:=List.set (List.replicate 1 (([]:List (Int)),(([]:List (Int)),()))) 0 r2
 cond (decide (x.f4.1.1.length+v3.length≤most))
 (k_normal x.f1 x.f2 (((x.f4.1.1++v3),x.f4.1.2),x.f4.2) x.f16 x.f17 x.f18) none)
 (zPea v1 fun r5 =>
 let k1:Option R:=(cond (decide (x.f4.1.1.length+List.length (List.set (List.replicate 1 (([]:List (Int)),(([]:List (Int)),()))) 0 r5)≤most))
 (k_normal x.f1 x.f2 (((x.f4.1.1++(List.set (List.replicate 1 (([]:List (Int)),(([]:List (Int)),()))) 0 r5)),x.f4.1.2),x.f4.2) x.f16 x.f17 x.f18) none)
 both
 (k1)
 (k1))) none
noncomputable def zBKa:LB:=⟨[.d 1 B8,.d 2 B29,.d 4 B30,.d 16 A6,.d 17 A0,.d 18 A0],[(.normal,[.d 1 B8,.d 2 B29,.d 4 B30,.d 16 A6,.d 17 A0,.d 18 A0])]⟩
noncomputable def zMOa:JF Y_ctx_Of_6:=fun _ K=>zZMa (exS zBKa 0 K)
structure X_ctx_Of_3 where (f1:It21) (f2:(List Tq)×(Tl)×It2) (f4:It36) (f16:List Tq) (f17 f18:Int)
noncomputable def zXFa (k_exit_0:It21→((List Tq)×(Tl)×It2)→It36→Option R) (rec:X_ctx_Of_3→Option R) (x:X_ctx_Of_3):Option R :=
 cond (decide (x.f18<x.f17))
 (zZMa (fun w2 w3 w4 w5 w6 w7 =>
 rec ⟨w2,w3,w4,w5,w6,(IntKind.i64.wrap (w7+1))⟩) ⟨x.f1,x.f2,x.f4,x.f16,x.f17,x.f18⟩)
 (k_exit_0 x.f1 x.f2 x.f4)
noncomputable def zFKa:LB:=⟨[.d 1 B8,.d 2 B29,.d 4 B30,.d 16 A6,.d 17 A0,.d 18 A0],[((.exit 0),[.d 1 B8,.d 2 B29,.d 4 B30])]⟩
noncomputable def zETa:LF X_ctx_Of_3:=fun _ K=>zXFa (exS zFKa 0 K)
structure X_ctx_Of_12 where (f1:It21) (f2:(List Tq)×(Tl)×It2) (f4:It36) (f70:Tl) (f71 f72:Int)
noncomputable def zfAa (k_exit_2:It21→((List Tq)×(Tl)×It2)→It36→Option R) (rec:X_ctx_Of_12→Option R) (x:X_ctx_Of_12):Option R :=
 cond (decide (x.f72<x.f71))
 (cond (inB x.f72 x.f70.length)
 (zPga x.f4.1 (x.f70.getD x.f72.toNat 0) fun r3 r4 =>
 zeaa x.f4 r4 7 fun b5 =>
 zeaa b5 ((IntKind.i64.wrap ((r3.1.length:Int)+(r3.2.1.length:Int)))==0) 6 fun b10 =>
 rec ⟨x.f1,x.f2,b10,x.f70,x.f71,(IntKind.i64.wrap (x.f72+1))⟩) none)
 (k_exit_2 x.f1 x.f2 x.f4)
noncomputable def ziGa:LB:=⟨[.d 1 B8,.d 2 B29,.d 4 B30,.d 70 A2,.d 71 A0,.d 72 A0],[((.exit 2),[.d 1 B8,.d 2 B29,.d 4 B30])]⟩
noncomputable def zfPa:LF X_ctx_Of_12:=fun _ K=>zfAa (exS ziGa 0 K)
structure Y_ctx_Of_24 where (f2:(List Tq)×(Tl)×It2) (f4:It36) (f103:List ((Int)×It13)) (f104 f105:Int)
noncomputable def ztHa (k_normal:((List Tq)×(Tl)×It2)→It36→(List ((Int)×It13))→Int→Int→Option R) (x:Y_ctx_Of_24):Option R :=
 cond (inB x.f105 x.f103.length)
 (let v1:=x.f103.getD x.f105.toNat (0,([],([],())))
 zLda v1.1 (x.f4.1.1.length:Int) fun r3 =>
 cond r3
 (cond (inB v1.1 x.f4.1.1.length)
 (zeaa x.f4 (decide ((IntKind.i64.wrap (((List.length ((x.f4.1.1.getD v1.1.toNat ([],([],()))).1):Nat):Int)+(v1.2.1.length:Int)))≤64)) 4 fun b9 =>
 k_normal x.f2 b9 x.f103 x.f104 x.f105) none)
 (k_normal x.f2 x.f4 x.f103 x.f104 x.f105)) none
noncomputable def zeGa:LB:=⟨[.d 2 B29,.d 4 B30,.d 103 A8,.d 104 A0,.d 105 A0],[(.normal,[.d 2 B29,.d 4 B30,.d 103 A8,.d 104 A0,.d 105 A0])]⟩
noncomputable def zVLa:JF Y_ctx_Of_24:=fun _ K=>ztHa (exS zeGa 0 K)
structure X_ctx_Of_20 where (f2:(List Tq)×(Tl)×It2) (f4:It36) (f103:List ((Int)×It13)) (f104 f105:Int)
noncomputable def zeAa (k_exit_4:((List Tq)×(Tl)×It2)→It36→Option R) (rec:X_ctx_Of_20→Option R) (x:X_ctx_Of_20):Option R :=
 cond (decide (x.f105<x.f104))
 (ztHa (fun w2 w3 w4 w5 w6 =>
 rec ⟨w2,w3,w4,w5,(IntKind.i64.wrap (w6+1))⟩) ⟨x.f2,x.f4,x.f103,x.f104,x.f105⟩)
 (k_exit_4 x.f2 x.f4)
noncomputable def zhGa:LB:=⟨[.d 2 B29,.d 4 B30,.d 103 A8,.d 104 A0,.d 105 A0],[((.exit 4),[.d 2 B29,.d 4 B30])]⟩
noncomputable def zePa:LF X_ctx_Of_20:=fun _ K=>zeAa (exS zhGa 0 K)
noncomputable def zXza:Loops:=fun z i R st K=>match z,i with
 |false,3=>lpS zFKa X_ctx_Of_3.mk zETa K st
 |false,12=>lpS ziGa X_ctx_Of_12.mk zfPa K st
 |false,20=>lpS zhGa X_ctx_Of_20.mk zePa K st
 |true,6=>jpS zBKa Y_ctx_Of_6.mk zMOa K st
 |true,24=>jpS zeGa Y_ctx_Of_24.mk zVLa K st
 |_,_=>none
theorem zuUa:JOk zOqa zXza inl0 6 Tryz.f30:=jok zBKa Y_ctx_Of_6.mk (fun x=>(x.f1,x.f2,x.f4,x.f16,x.f17,x.f18,())) zMOa 6
theorem zpWa:LOk zOqa zXza inl0 3 Tryz.f30:=lok zFKa X_ctx_Of_3.mk (fun x=>(x.f1,x.f2,x.f4,x.f16,x.f17,x.f18,())) zETa 3
theorem zlUa:LOk zOqa zXza inl0 12 Tryz.f30:=lok ziGa X_ctx_Of_12.mk (fun x=>(x.f1,x.f2,x.f4,x.f70,x.f71,x.f72,())) zfPa 12
theorem zlSa:JOk zOqa zXza inl0 24 Tryz.f30:=jok zeGa Y_ctx_Of_24.mk (fun x=>(x.f2,x.f4,x.f103,x.f104,x.f105,())) zVLa 24
theorem zkUa:LOk zOqa zXza inl0 20 Tryz.f30:=lok zhGa X_ctx_Of_20.mk (fun x=>(x.f2,x.f4,x.f103,x.f104,x.f105,())) zePa 20
theorem zpUa:zsaa zOqa zXza inl0 (body Tryz.f30.body):=lsL (.cons zpWa (.cons zlUa (.cons zkUa .nil))) (.cons zuUa (.cons zlSa .nil))
noncomputable def zzPa (a0:It21) (K:((List Tq)×(Tl)×It2)→Int→Option R):Option R :=
 loopN (zXFa (fun w2 w3 w4 =>
 zgea ((w4.1.1,(w4.1.2.1,(w4.1.2.2.1,(w4.1.2.2.2.1,(w4.1.2.2.2.2.1,(w4.1.2.2.2.2.2.1,(w4.1.2.2.2.2.2.2.1,((w2.2.2.2.2.2.2.2.2.1.length:Int),((w2.2.2.2.2.2.2.2.2.2.2.1.length:Int),((decide ((w2.2.2.2.2.2.2.2.2.2.1.length:Int)>0)),w4.1.2.2.2.2.2.2.2.2.2.2)))))))))),w4.2) w2.2.1 fun b9 =>
 zyia b9 w2 fun b10 =>
 zuda b10 w2.2.2.2.2.2.2.1 fun b11 =>
 loopN (zfAa (fun w13 w14 w15 =>
 zYca w15 w13 fun b16 =>
 loopN (zeAa (fun w18 w19 =>
 cond (w19.2.1 != 0)
 (both
 (K ([],([],([],([],([],(0,(0,(0,(0,(false,())))))))))) w19.2.1)
 (K ([],([],([],([],([],(0,(0,(0,(0,(false,())))))))))) w19.2.1))
 (K w19.1 0))) zpaa ⟨w14,b16,w13.2.2.1,(w13.2.2.1.length:Int),0⟩)) zpaa ⟨w2,w3,b11,w2.2.2.2.2.2.2.2.1,(w2.2.2.2.2.2.2.2.1.length:Int),0⟩)) zpaa ⟨a0,([],([],([],([],([],(0,(0,(0,(0,(false,())))))))))),(([],([],([],([],([],(0,(0,(0,(0,(false,())))))))))),(0,())),a0.1,(a0.1.length:Int),0⟩
noncomputable def zdWa:CSpec:={ ins:=[(.val Ty32 .s)],outs:=[((.pair Ty5 Ty9),(.p (.o .s) (.p (.o .s) (.p (.o .s) (.p (.o .s) (.p (.o .s) .s)))))),((.int .i64),.s)],fn:=fun d K _=>zzPa d.1 (fun r0 r1=>K (r0,r1,()) ()) }
theorem zd1a:Holds Tryz.prog 30 zdWa:=hw zOqa [(2,some 37),(3,none)] zfaa Tryz.func30 zpUa ⟨mixed,envTyOk.ty,envTyOk.eq⟩
noncomputable def zg1a:GE Tryz.prog:=⟨30,[],zdWa,zd1a⟩
noncomputable def zuMa:Nat→Bool
 |1=>true
 |_=>false
noncomputable def zWJa:Env:={ mE [zISa,zvQa,zg1a] Tryz.f13 with fz:=zuMa }
noncomputable def zZda (a0:It21) (K:((List Tq)×(Tl)×It2)→Bool→Option R):Option R :=
 zKra a0 fun r1 =>
 cond (!r1)
 (K ([],([],([],([],([],(0,(0,(0,(0,(false,())))))))))) false)
 (zFoa a0 fun r3 =>
 cond (!r3)
 (K ([],([],([],([],([],(0,(0,(0,(0,(false,())))))))))) false)
 (zzPa a0 fun r5 r6 =>
 K r5 (r6==0)))
noncomputable def zlza:CSpec:={ ins:=[(.val Ty32 .s)],outs:=[((.pair Ty5 Ty9),(.p (.o .s) (.p (.o .s) (.p (.o .s) (.p (.o .s) (.p (.o .s) .s)))))),(.bool,.s)],fn:=fun d K _=>zZda d.1 (fun r0 r1=>K (r0,r1,()) ()) }
theorem zhOa:Holds Tryz.prog 13 zlza:=hw zWJa [(2,some 37),(3,none)] (lp:=lp0) (code:=body Tryz.f13.body) zfaa Tryz.func13 l0 ⟨mixed,envTyOk.ty,envTyOk.eq⟩
noncomputable def znta:GE Tryz.prog:=⟨13,[],zlza,zhOa⟩
noncomputable def zfwa:Env:={ E0 with n:=Tryz.f14.ntmps }
structure X_ref06_Copy_3 where (f0 f3:Tj) (f4:Int)
noncomputable def zEha (k_exit_0:Tj→Option R) (rec:X_ref06_Copy_3→Option R) (x:X_ref06_Copy_3):Option R :=
 cond (decide (x.f4<(x.f0.length:Int)))
 (cond (inB x.f4 x.f0.length)
 (let v3:=x.f0.getD x.f4.toNat (0,(0,(0,(0,([],())))))
 let v4:=List.replicate 0 (0:Int)
 cond (decide (v4.length+v3.2.2.2.2.1.length≤most))
 (let v6:=List.set (List.replicate 1 ((0:Int),((0:Int),((0:Int),((0:Int),(([]:List (Int)),())))))) 0 (v3.1,(v3.2.1,(v3.2.2.1,(v3.2.2.2.1,((v4++v3.2.2.2.2.1),v3.2.2.2.2.2)))))
 cond (decide (x.f3.length+v6.length≤most))
 (rec ⟨x.f0,(x.f3++v6),(IntKind.i64.wrap (x.f4+1))⟩) none) none) none)
 (k_exit_0 x.f3)
noncomputable def zPua:LB:=⟨[.d 0 A3,.d 3 A21,.d 4 A0],[((.exit 0),[.d 3 A21])]⟩
noncomputable def zLFa:LF X_ref06_Copy_3:=fun _ K=>zEha (exS zPua 0 K)
noncomputable def zyHa:Loops:=fun z i R st K=>match z,i with
 |false,3=>lpS zPua X_ref06_Copy_3.mk zLFa K st
 |_,_=>none
theorem zGNa:LOk zfwa zyHa inl0 3 Tryz.f14:=lok zPua X_ref06_Copy_3.mk (fun x=>(x.f0,x.f3,x.f4,())) zLFa 3
theorem zxLa:zsaa zfwa zyHa inl0 (body Tryz.f14.body):=lsL (.cons zGNa .nil) .nil
noncomputable def zOga (a0:Tj) (K:Tj→Option R):Option R :=
 loopN (zEha (fun w1 =>
 K w1)) zpaa ⟨a0,[],0⟩
noncomputable def zTHa:CSpec:={ ins:=[(.val (.sl 45 (.pair (.int .i64) (.pair (.int .i64) Ty0))) .s)],outs:=[((.sl 45 (.pair (.int .i64) (.pair (.int .i64) Ty0))),(.o .s))],fn:=fun d K _=>zOga d.1 (fun r0=>K (r0,()) ()) }
theorem zFUa:Holds Tryz.prog 14 zTHa:=hw zfwa [(2,none)] zfaa Tryz.func14 zxLa ⟨mixed,envTyOk.ty,envTyOk.eq⟩
noncomputable def zlMa:GE Tryz.prog:=⟨14,[],zTHa,zFUa⟩
noncomputable def zdHa:Nat→Bool
 |3=>true
 |_=>false
noncomputable def ziHa:Nat→Bool
 |7=>true
 |9=>true
 |_=>false
noncomputable def zJGa:Nat→Bool
 |6=>true
 |_=>false
noncomputable def zuGa:Nat→Option (List Nat)
 |0=>some [0,1,2]
 |1|3=>some [1,2,3]
 |2|5=>some []
 |4=>some [1,2,3,7,8]
 |6=>some [1,2,3,7]
 |7=>some [2,7,9]
 |8=>some [2,7,9,10]
 |9=>some [2,7,9,10,11]
 |10=>some [7,9,11]
 |_=>none
noncomputable def zuka:Env:={ mE [zUya,znta,zlMa,zVva] Tryz.f3 with fz:=zdHa,fs:=ziHa,js:=zJGa,lv:=zuGa }
structure Y_law10_ValidNops_6 where (f1 f2:Int) (f3:It21) (f7:(List Tq)×(Tl)×It2) (f8:Bool)
noncomputable def zHka (k_ret:Bool→Option R) (k_normal:Int→Int→It21→((List Tq)×(Tl)×It2)→Option R) (x:Y_law10_ValidNops_6):Option R :=
 cond (!x.f8)
 (k_ret true)
 (cond (decide (x.f1<0))
 (k_ret true)
 (cond (decide (x.f1≥(x.f3.2.2.1.length:Int)))
 (k_ret true)
 (cond (decide (x.f2<0))
 (k_ret true)
 (cond (inB x.f1 x.f3.2.2.1.length)
 (cond (decide (x.f2≥((List.length (x.f3.2.2.1.getD x.f1.toNat (0,([],([],())))).2.2.1:Nat):Int)))
 (k_ret true)
 (cond (inB x.f1 x.f3.2.2.1.length)
 (cond (decide (((List.length (x.f3.2.2.1.getD x.f1.toNat (0,([],([],())))).2.2.1:Nat):Int)≥2000))
 (k_ret true)
 (k_normal x.f1 x.f2 x.f3 x.f7)) none)) none))))
noncomputable def zYfa:LB:=⟨[.d 1 A0,.d 2 A0,.d 3 B8,.d 7 B31,.d 8 A22],[(.ret,[.d 6 A22]),(.normal,[.d 1 A0,.d 2 A0,.d 3 B8,.d 7 B31])]⟩
noncomputable def zpqa:JF Y_law10_ValidNops_6:=fun _ K=>zHka (exS zYfa 0 K) (exS zYfa 1 K)
noncomputable def zFta:Loops:=fun z i R st K=>match z,i with
 |true,6=>jpS zYfa Y_law10_ValidNops_6.mk zpqa K st
 |_,_=>none
theorem zZAa:JOk zuka zFta inl0 6 Tryz.f3:=jok zYfa Y_law10_ValidNops_6.mk (fun x=>(x.f1,x.f2,x.f3,x.f7,x.f8,())) zpqa 6
theorem zJAa:zsaa zuka zFta inl0 (body Tryz.f3.body):=lsL .nil (.cons zZAa .nil)
noncomputable def znfa (a0:It21) (a1 a2:Int) (K:Bool→Option R):Option R :=
 zmja fun r1 =>
 cond (!r1)
 (K false)
 (zZda a0 fun r3 r4 =>
 zHka (fun w5 =>
 K w5) (fun w6 w7 w8 w9 =>
 cond (inB w6 w8.2.2.1.length)
 (let v10:=w8.2.2.1.getD w6.toNat (0,([],([],())))
 zOga v10.2.2.1 fun r11 =>
 cond (inR 0 w7 r11.length)
 (let v12:=rng r11 0 w7
 cond (inR w7 (r11.length:Int) r11.length)
 (let v13:=rng r11 w7 (r11.length:Int)
 let k1:Option R:=(cond (decide (List.length (List.replicate 0 ((0:Int),((0:Int),((0:Int),((0:Int),(([]:List (Int)),()))))))+v12.length≤most))
 (let v15:=(List.replicate 0 ((0:Int),((0:Int),((0:Int),((0:Int),(([]:List (Int)),()))))))++v12
 let v16:=List.set (List.replicate 1 ((0:Int),((0:Int),((0:Int),((0:Int),(([]:List (Int)),())))))) 0 (1,(0,(0,(0,([],())))))
 cond (decide (v15.length+v16.length≤most))
 (let v17:=v15++v16
 cond (decide (v17.length+v13.length≤most))
 (let k2:Option R:=(zXaa w9 v10 fun r19 =>
 zXaa w9 (v10.1,(v10.2.1,((v17++v13),v10.2.2.2))) fun r20 =>
 K (r19==r20))
 both
 (k2)
 (k2)) none) none) none)
 both
 (let v14:=List.replicate 0 ((0:Int),((0:Int),((0:Int),((0:Int),(([]:List (Int)),())))))
 both
 (k1)
 (k1))
 (let v36:=List.replicate 0 ((0:Int),((0:Int),((0:Int),((0:Int),(([]:List (Int)),())))))
 k1)) none) none) none) ⟨a1,a2,a0,r3,r4⟩)
noncomputable def cs_law10_ValidNops:CSpec:={ ins:=[(.val Ty32 .s),(.val (.int .i64) .s),(.val (.int .i64) .s)],outs:=[(.bool,.s)],fn:=fun d K _=>znfa d.1 d.2.1 d.2.2.1 (fun r0=>K (r0,()) ()) }
theorem zKJa:Holds Tryz.prog 3 cs_law10_ValidNops:=hw zuka [(6,none)] zfaa Tryz.func3 zJAa ⟨mixed,envTyOk.ty,envTyOk.eq⟩
noncomputable def zmwa:Env:={ E0 with n:=Tryz.f16.ntmps }
structure X_law10_deep_3 where (f0:Tj) (f3 f4 f5:Int)
noncomputable def zHha (k_exit_0:Int→Option R) (rec:X_law10_deep_3→Option R) (x:X_law10_deep_3):Option R :=
 cond (decide (x.f5<(x.f0.length:Int)))
 (cond (inB x.f5 x.f0.length)
 (let k1:Option R:=(cond (inB x.f5 x.f0.length)
 (cond ((x.f0.getD x.f5.toNat (0,(0,(0,(0,([],())))))).1==11)
 (let v17:=IntKind.i64.wrap (x.f3-1)
 rec ⟨x.f0,v17,(maxI x.f4 v17),(IntKind.i64.wrap (x.f5+1))⟩)
 (rec ⟨x.f0,x.f3,(maxI x.f4 x.f3),(IntKind.i64.wrap (x.f5+1))⟩)) none)
 cond (decide ((x.f0.getD x.f5.toNat (0,(0,(0,(0,([],())))))).1≥2))
 (cond (inB x.f5 x.f0.length)
 (cond (decide ((x.f0.getD x.f5.toNat (0,(0,(0,(0,([],())))))).1≤4))
 (let v7:=IntKind.i64.wrap (x.f3+1)
 cond (inB x.f5 x.f0.length)
 (cond ((x.f0.getD x.f5.toNat (0,(0,(0,(0,([],())))))).1==11)
 (let v10:=IntKind.i64.wrap (v7-1)
 rec ⟨x.f0,v10,(maxI x.f4 v10),(IntKind.i64.wrap (x.f5+1))⟩)
 (rec ⟨x.f0,v7,(maxI x.f4 v7),(IntKind.i64.wrap (x.f5+1))⟩)) none)
 (k1)) none)
 (k1)) none)
 (k_exit_0 x.f4)
noncomputable def zYua:LB:=⟨[.d 0 A3,.d 3 A0,.d 4 A0,.d 5 A0],[((.exit 0),[.d 4 A0])]⟩
noncomputable def zWFa:LF X_law10_deep_3:=fun _ K=>zHha (exS zYua 0 K)
noncomputable def zFHa:Loops:=fun z i R st K=>match z,i with
 |false,3=>lpS zYua X_law10_deep_3.mk zWFa K st
 |_,_=>none
theorem zRNa:LOk zmwa zFHa inl0 3 Tryz.f16:=lok zYua X_law10_deep_3.mk (fun x=>(x.f0,x.f3,x.f4,x.f5,())) zWFa 3
theorem zGLa:zsaa zmwa zFHa inl0 (body Tryz.f16.body):=lsL (.cons zRNa .nil) .nil
noncomputable def zlva (a0:Tj) (K:Int→Option R):Option R :=
 loopN (zHha (fun w1 =>
 K w1)) zpaa ⟨a0,0,0,0⟩
noncomputable def zjIa:CSpec:={ ins:=[(.val (.sl 45 (.pair (.int .i64) (.pair (.int .i64) Ty0))) .s)],outs:=[((.int .i64),.s)],fn:=fun d K _=>zlva d.1 (fun r0=>K (r0,()) ()) }
theorem zVUa:Holds Tryz.prog 16 zjIa:=hw zmwa [(2,none)] zfaa Tryz.func16 zGLa ⟨mixed,envTyOk.ty,envTyOk.eq⟩
noncomputable def znVa:GE Tryz.prog:=⟨16,[],zjIa,zVUa⟩
noncomputable def zQDa:Nat→Bool
 |2=>true
 |74=>true
 |81=>true
 |88=>true
 |95=>true
 |111=>true
 |114=>true
 |_=>false
noncomputable def zRDa:Nat→Bool
 |5=>true
 |7=>true
 |_=>false
noncomputable def zxDa:Nat→Bool
 |6=>true
 |11=>true
 |12=>true
 |_=>false
noncomputable def ztDa:Nat→Option (List Nat)
 |0=>some [0,1]
 |1|3=>some [1,2]
 |2|5|8=>some []
 |4=>some [1,2,5,6]
 |6=>some [1,2,5]
 |7|9=>some [5,7]
 |10|11=>some [5,7,8]
 |12|13=>some [5,7,8,9]
 |14=>some [5,7,8,9,10]
 |15=>some [5,7,8,10]
 |16|17=>some [5,7,8,10,11]
 |18=>some [5,7,8,10,11,12]
 |19=>some [5,8,10,11,12]
 |_=>none
noncomputable def zVaa:Env:={ mE [zUya,znta,znVa,zVva,zlMa] Tryz.f4 with fz:=zQDa,fs:=zRDa,js:=zxDa,lv:=ztDa }
structure Y_law10_ValidBlocks_6 where (f1:Int) (f2:It21) (f5:(List Tq)×(Tl)×It2) (f6:Bool)
noncomputable def zQha (k_ret:Bool→Option R) (k_normal:Int→It21→((List Tq)×(Tl)×It2)→Option R) (x:Y_law10_ValidBlocks_6):Option R :=
 cond (!x.f6)
 (k_ret true)
 (cond (decide (x.f1<0))
 (k_ret true)
 (cond (decide (x.f1≥(x.f2.2.2.1.length:Int)))
 (k_ret true)
 (cond (inB x.f1 x.f2.2.2.1.length)
 (cond (decide (((List.length (x.f2.2.2.1.getD x.f1.toNat (0,([],([],())))).2.2.1:Nat):Int)>1990))
 (k_ret true)
 (cond (inB x.f1 x.f2.2.2.1.length)
 (zlva (x.f2.2.2.1.getD x.f1.toNat (0,([],([],())))).2.2.1 fun r9 =>
 cond (decide (r9>60))
 (k_ret true)
 (k_normal x.f1 x.f2 x.f5)) none)) none)))
noncomputable def zeea:LB:=⟨[.d 1 A0,.d 2 B8,.d 5 B31,.d 6 A22],[(.ret,[.d 4 A22]),(.normal,[.d 1 A0,.d 2 B8,.d 5 B31])]⟩
noncomputable def zQma:JF Y_law10_ValidBlocks_6:=fun _ K=>zQha (exS zeea 0 K) (exS zeea 1 K)
structure zRba where (f5:(List Tq)×(Tl)×It2) (f7:(Int)×It13) (f8:(List Tq)×(Tl)×It2)
noncomputable def zEca (k_normal:((List Tq)×(Tl)×It2)→((Int)×It13)→((List Tq)×(Tl)×It2)→Option R) (x:zRba):Option R :=
 cond (inB x.f7.1 x.f5.1.length)
 (let v2:=List.replicate 0 (([]:List (Int)),(([]:List (Int)),()))
 cond (decide (v2.length+x.f5.1.length≤most))
 (let v3:=v2++x.f5.1
 let v4:=List.set (List.replicate 1 (([]:List (Int)),(([]:List (Int)),()))) 0 ([],((x.f5.1.getD x.f7.1.toNat ([],([],()))).2.1,()))
 cond (decide (v3.length+v4.length≤most))
 (k_normal x.f5 x.f7 ((v3++v4),x.f8.2)) none) none) none
noncomputable def zWga (k_normal:((List Tq)×(Tl)×It2)→((Int)×It13)→((List Tq)×(Tl)×It2)→Option R) (x:zRba):Option R :=
 cond (inB x.f7.1 x.f5.1.length)
 (let v1:=x.f5.1.getD x.f7.1.toNat ([],([],()))
 let k1:Option R:=(cond (decide (List.length (List.replicate 0 (([]:List (Int)),(([]:List (Int)),())))+x.f5.1.length≤most))
 (let v3:=(List.replicate 0 (([]:List (Int)),(([]:List (Int)),())))++x.f5.1
 let v4:=List.set (List.replicate 1 (([]:List (Int)),(([]:List (Int)),()))) 0 ([],(v1.2.1,()))
 cond (decide (v3.length+v4.length≤most))
 (k_normal x.f5 x.f7 ((v3++v4),x.f8.2)) none) none)
 both
 (let v2:=List.replicate 0 (([]:List (Int)),(([]:List (Int)),()))
 both
 (k1)
 (k1))
 (let v10:=List.replicate 0 (([]:List (Int)),(([]:List (Int)),()))
 k1)) none
theorem zbva {R:Type} (k_normal:((List ((List (Int))×(List (Int))×Unit))×(List (Int))×It2)→((Int)×It13)→((List ((List (Int))×(List (Int))×Unit))×(List (Int))×It2)→Option R) (x:zRba):zWga (R:=R) k_normal x=zEca (R:=R) k_normal x:=by
 unfold zWga zEca;simp only[zKaa]
noncomputable def zbna (x:zRba):St:=St.ofList [(5,(a58 (some x.f5))),(7,(a36 (some x.f7))),(8,(a59 (some x.f8)))]
def zhka:Ex→List (Nat×Bool) | .normal=>[(5,false),(7,false),(8,false)]|_=>[]
def zlka:List (Nat×Bool):=[(5,false),(7,false),(8,false)]
noncomputable def zjka:Pt zRba := .s 5 B31 fun y5 => .s 7 B12 fun y7 => .s 8 B32 fun y8 => .e ⟨y5,y7,y8⟩
noncomputable def zula (R:Type) (K:Ex→St→Option R):zRba→Option R:=zEca (fun e5 e7 e8=>K .normal (St.ofList [(5,(a58 (some e5))),(7,(a36 (some e7))),(8,(a60 (some e8)))]))
structure zQba where (f5:(List Tq)×(Tl)×It2) (f7:(Int)×It13) (f8:(List Tq)×(Tl)×It2)
noncomputable def zDca (k_normal:((List Tq)×(Tl)×It2)→((Int)×It13)→((List Tq)×(Tl)×It2)→Tj→Option R) (x:zQba):Option R :=
 let v2:=List.set (List.replicate 1 ((0:Int),((0:Int),((0:Int),((0:Int),(([]:List (Int)),())))))) 0 (2,((x.f5.1.length:Int),(0,(0,([],())))))
 zOga x.f7.2.2.1 fun r3 =>
 cond (decide (v2.length+r3.length≤most))
 (k_normal x.f5 x.f7 x.f8 (v2++r3)) none
noncomputable def zVga (k_normal:((List Tq)×(Tl)×It2)→((Int)×It13)→((List Tq)×(Tl)×It2)→Tj→Option R) (x:zQba):Option R :=
 let k1:Option R:=(zOga x.f7.2.2.1 fun r3 =>
 cond (decide (List.length (List.set (List.replicate 1 ((0:Int),((0:Int),((0:Int),((0:Int),(([]:List (Int)),())))))) 0 (2,((x.f5.1.length:Int),(0,(0,([],()))))))+r3.length≤most))
 (k_normal x.f5 x.f7 x.f8 ((List.set (List.replicate 1 ((0:Int),((0:Int),((0:Int),((0:Int),(([]:List (Int)),())))))) 0 (2,((x.f5.1.length:Int),(0,(0,([],()))))))++r3)) none)
 both
 (k1)
 (k1)
theorem zava {R:Type} (k_normal:((List ((List (Int))×(List (Int))×Unit))×(List (Int))×It2)→((Int)×It13)→((List ((List (Int))×(List (Int))×Unit))×(List (Int))×It2)→(List ((Int)×(Int)×(Int)×(Int)×(List (Int))×Unit))→Option R) (x:zQba):zVga (R:=R) k_normal x=zDca (R:=R) k_normal x:=by
 unfold zVga zDca;simp only[zKaa]
noncomputable def zana (x:zQba):St:=St.ofList [(5,(a58 (some x.f5))),(7,(a36 (some x.f7))),(8,(a60 (some x.f8)))]
def zgka:Ex→List (Nat×Bool) | .normal=>[(5,false),(7,false),(8,false),(9,false)]|_=>[]
def zkka:List (Nat×Bool):=[(5,false),(7,false),(8,false)]
noncomputable def zika:Pt zQba := .s 5 B31 fun y5 => .s 7 B12 fun y7 => .s 8 B33 fun y8 => .e ⟨y5,y7,y8⟩
noncomputable def ztla (R:Type) (K:Ex→St→Option R):zQba→Option R:=zDca (fun e5 e7 e8 e9=>K .normal (St.ofList [(5,(a58 (some e5))),(7,(a36 (some e7))),(8,(a60 (some e8))),(9,(a33 e9))]))
noncomputable def zvba:Loops:=fun z i R st K=>match z,i with
 |true,6=>jpS zeea Y_law10_ValidBlocks_6.mk zQma K st
 |true,11=>lpE zlka zjka (zula R K) st
 |true,12=>lpE zkka zika (ztla R K) st
 |_,_=>none
theorem zoxa:JOk zVaa zvba inl0 6 Tryz.f4:=jok zeea Y_law10_ValidBlocks_6.mk (fun x=>(x.f1,x.f2,x.f5,x.f6,())) zQma 6
theorem zata:JStep zVaa zvba inl0 (jcOf 11 (body Tryz.f4.body)) zhka zbna zula:=fun R K x=>by
 have h:evC zVaa zvba inl0 (jcOf 11 (body Tryz.f4.body)) (zbna x) (fun e st=>zAka (zhka e) st (K e))=zWga (fun e5 e7 e8=>K .normal (St.ofList [(5,(a58 (some e5))),(7,(a36 (some e7))),(8,(a60 (some e8)))])) x:=by kernel_rfl
 rw[h,zbva]; rfl
theorem zNva:JOk zVaa zvba inl0 11 Tryz.f4:=zvda (hd:=zlka) zata (p:=zjka) (fun _ _ _=>⟨rfl,rfl⟩) fun _ _ _=>rfl
theorem zZsa:JStep zVaa zvba inl0 (jcOf 12 (body Tryz.f4.body)) zgka zana ztla:=fun R K x=>by
 have h:evC zVaa zvba inl0 (jcOf 12 (body Tryz.f4.body)) (zana x) (fun e st=>zAka (zgka e) st (K e))=zVga (fun e5 e7 e8 e9=>K .normal (St.ofList [(5,(a58 (some e5))),(7,(a36 (some e7))),(8,(a60 (some e8))),(9,(a33 e9))])) x:=by kernel_rfl
 rw[h,zava]; rfl
theorem zMva:JOk zVaa zvba inl0 12 Tryz.f4:=zvda (hd:=zkka) zZsa (p:=zika) (fun _ _ _=>⟨rfl,rfl⟩) fun _ _ _=>rfl
theorem zlxa:zsaa zVaa zvba inl0 (body Tryz.f4.body):=lsL .nil (.cons zMva (.cons zNva (.cons zoxa .nil)))
noncomputable def zKda (a0:It21) (a1:Int) (K:Bool→Option R):Option R :=
 zmja fun r1 =>
 cond (!r1)
 (K false)
 (zZda a0 fun r3 r4 =>
 zQha (fun w5 =>
 K w5) (fun w6 w7 w8 =>
 cond (inB w6 w7.2.2.1.length)
 (let v9:=w7.2.2.1.getD w6.toNat (0,([],([],())))
 zXaa w8 v9 fun r10 =>
 cond (r10 != 0)
 (K true)
 (zEca (fun w12 w13 w14 =>
 zDca (fun w15 w16 w17 w18 =>
 let v19:=List.set (List.replicate 1 ((0:Int),((0:Int),((0:Int),((0:Int),(([]:List (Int)),())))))) 0 (11,(0,(0,(0,([],())))))
 cond (decide (w18.length+v19.length≤most))
 (let v21:=List.set (List.replicate 1 ((0:Int),((0:Int),((0:Int),((0:Int),(([]:List (Int)),())))))) 0 (0,(0,(0,(0,([],())))))
 zOga w16.2.2.1 fun r22 =>
 cond (decide (v21.length+r22.length≤most))
 (let v25:=IntKind.i64.wrap ((w16.2.2.1.length:Int)-1)
 cond (inR 0 v25 w16.2.2.1.length)
 (zOga (rng w16.2.2.1 0 v25) fun r27 =>
 let v28:=List.set (List.replicate 1 ((0:Int),((0:Int),((0:Int),((0:Int),(([]:List (Int)),())))))) 0 (15,(0,(0,(0,([],())))))
 cond (decide (r27.length+v28.length≤most))
 (let v29:=r27++v28
 let v30:=List.set (List.replicate 1 ((0:Int),((0:Int),((0:Int),((0:Int),(([]:List (Int)),())))))) 0 (11,(0,(0,(0,([],())))))
 cond (decide (v29.length+v30.length≤most))
 (zXaa w17 (w16.1,(w16.2.1,((w18++v19),w16.2.2.2))) fun r32 =>
 cond (r32==0)
 (zXaa w15 (w16.1,(w16.2.1,((v21++r22),w16.2.2.2))) fun r34 =>
 cond (r34==0)
 (zXaa w15 (w16.1,(w16.2.1,((v29++v30),w16.2.2.2))) fun r36 =>
 K (r36==0))
 (K false))
 (K false)) none) none) none) none) none) ⟨w12,w13,w14⟩) ⟨w8,v9,w8⟩)) none) ⟨a1,a0,r3,r4⟩)
noncomputable def cs_law10_ValidBlocks:CSpec:={ ins:=[(.val Ty32 .s),(.val (.int .i64) .s)],outs:=[(.bool,.s)],fn:=fun d K _=>zKda d.1 d.2.1 (fun r0=>K (r0,()) ()) }
theorem zXEa:Holds Tryz.prog 4 cs_law10_ValidBlocks:=hw zVaa [(4,none)] zfaa Tryz.func4 zlxa ⟨mixed,envTyOk.ty,envTyOk.eq⟩
noncomputable def zeHa:Nat→Bool
 |2=>true
 |_=>false
noncomputable def zjHa:Nat→Bool
 |5=>true
 |_=>false
noncomputable def zKGa:Nat→Bool
 |6=>true
 |9=>true
 |_=>false
noncomputable def zvGa:Nat→Option (List Nat)
 |0=>some [0,1]
 |1|3=>some [1,2]
 |2|5=>some []
 |4=>some [1,2,5,6]
 |6=>some [1,2,5]
 |7|8|9|10|11=>some [1,2,5,7]
 |_=>none
noncomputable def zJca:Env:={ mE [zUya,znta,zVva] Tryz.f5 with fz:=zeHa,fs:=zjHa,js:=zKGa,lv:=zvGa }
structure Y_law10_ValidMore_6 where (f1:Int) (f2:It21) (f5:(List Tq)×(Tl)×It2) (f6:Bool)
noncomputable def zIka (k_ret:Bool→Option R) (k_normal:Int→It21→((List Tq)×(Tl)×It2)→Option R) (x:Y_law10_ValidMore_6):Option R :=
 cond (!x.f6)
 (k_ret true)
 (cond (decide (x.f1<0))
 (k_ret true)
 (cond (decide (x.f1≥(x.f2.2.2.1.length:Int)))
 (k_ret true)
 (k_normal x.f1 x.f2 x.f5)))
noncomputable def zZfa:LB:=⟨[.d 1 A0,.d 2 B8,.d 5 B31,.d 6 A22],[(.ret,[.d 4 A22]),(.normal,[.d 1 A0,.d 2 B8,.d 5 B31])]⟩
noncomputable def zrqa:JF Y_law10_ValidMore_6:=fun _ K=>zIka (exS zZfa 0 K) (exS zZfa 1 K)
structure zLca where (f1:Int) (f2:It21) (f5 f7:(List Tq)×(Tl)×It2)
noncomputable def zVda (k_normal:Int→It21→((List Tq)×(Tl)×It2)→((List Tq)×(Tl)×It2)→Option R) (x:zLca):Option R :=
 let v2:=List.replicate 0 (0:Int)
 cond (decide (v2.length+x.f5.2.1.length≤most))
 (let v3:=v2++x.f5.2.1
 let v4:=List.set (List.replicate 1 (0:Int)) 0 (x.f5.1.length:Int)
 cond (decide (v3.length+v4.length≤most))
 (k_normal x.f1 x.f2 x.f5 (x.f7.1,((v3++v4),x.f7.2.2))) none) none
noncomputable def zBka (k_normal:Int→It21→((List Tq)×(Tl)×It2)→((List Tq)×(Tl)×It2)→Option R) (x:zLca):Option R :=
 let v1:=(x.f5.1.length:Int)
 let k1:Option R:=(cond (decide (List.length (List.replicate 0 (0:Int))+x.f5.2.1.length≤most))
 (let v3:=(List.replicate 0 (0:Int))++x.f5.2.1
 let v4:=List.set (List.replicate 1 (0:Int)) 0 v1
 cond (decide (v3.length+v4.length≤most))
 (k_normal x.f1 x.f2 x.f5 (x.f7.1,((v3++v4),x.f7.2.2))) none) none)
 both
 (let v2:=List.replicate 0 (0:Int)
 both
 (k1)
 (k1))
 (let v10:=List.replicate 0 (0:Int)
 k1)
theorem zrAa {R:Type} (k_normal:Int→It21→((List ((List (Int))×(List (Int))×Unit))×(List (Int))×It2)→((List ((List (Int))×(List (Int))×Unit))×(List (Int))×It2)→Option R) (x:zLca):zBka (R:=R) k_normal x=zVda (R:=R) k_normal x:=by
 unfold zBka zVda;simp only[zKaa]
noncomputable def zesa (x:zLca):St:=St.ofList [(1,(a0 x.f1)),(2,(a15 (some x.f2))),(5,(a58 (some x.f5))),(7,(a60 (some x.f7)))]
def zNna:Ex→List (Nat×Bool) | .normal=>[(1,false),(2,false),(5,false),(7,false)]|_=>[]
def zVna:List (Nat×Bool):=[(1,false),(2,false),(5,false),(7,false)]
noncomputable def zRna:Pt zLca := .s 1 A0 fun y1 => .s 2 B8 fun y2 => .s 5 B31 fun y5 => .s 7 B33 fun y7 => .e ⟨y1,y2,y5,y7⟩
noncomputable def zqqa (R:Type) (K:Ex→St→Option R):zLca→Option R:=zVda (fun e1 e2 e5 e7=>K .normal (St.ofList [(1,(a0 e1)),(2,(a15 (some e2))),(5,(a58 (some e5))),(7,(a61 (some e7)))]))
noncomputable def zrea:Loops:=fun z i R st K=>match z,i with
 |true,6=>jpS zZfa Y_law10_ValidMore_6.mk zrqa K st
 |true,9=>lpE zVna zRna (zqqa R K) st
 |_,_=>none
theorem zbBa:JOk zJca zrea inl0 6 Tryz.f5:=jok zZfa Y_law10_ValidMore_6.mk (fun x=>(x.f1,x.f2,x.f5,x.f6,())) zrqa 6
theorem zmxa:JStep zJca zrea inl0 (jcOf 9 (body Tryz.f5.body)) zNna zesa zqqa:=fun R K x=>by
 have h:evC zJca zrea inl0 (jcOf 9 (body Tryz.f5.body)) (zesa x) (fun e st=>zAka (zNna e) st (K e))=zBka (fun e1 e2 e5 e7=>K .normal (St.ofList [(1,(a0 e1)),(2,(a15 (some e2))),(5,(a58 (some e5))),(7,(a61 (some e7)))])) x:=by kernel_rfl
 rw[h,zrAa]; rfl
theorem zaBa:JOk zJca zrea inl0 9 Tryz.f5:=zvda (hd:=zVna) zmxa (p:=zRna) (fun _ _ _ _=>⟨rfl,rfl⟩) fun _ _ _=>rfl
theorem zKAa:zsaa zJca zrea inl0 (body Tryz.f5.body):=lsL .nil (.cons zaBa (.cons zbBa .nil))
noncomputable def zofa (a0:It21) (a1:Int) (K:Bool→Option R):Option R :=
 zmja fun r1 =>
 cond (!r1)
 (K false)
 (zZda a0 fun r3 r4 =>
 zIka (fun w5 =>
 K w5) (fun w6 w7 w8 =>
 let v9:=List.replicate 0 (([]:List (Int)),(([]:List (Int)),()))
 cond (decide (v9.length+w8.1.length≤most))
 (let v10:=v9++w8.1
 let v11:=List.set (List.replicate 1 (([]:List (Int)),(([]:List (Int)),()))) 0 ([],([],()))
 cond (decide (v10.length+v11.length≤most))
 (zVda (fun w13 w14 w15 w16 =>
 let v17:=List.replicate 0 ((0:Int),(false,()))
 cond (decide (v17.length+w15.2.2.1.length≤most))
 (let v18:=v17++w15.2.2.1
 let v19:=List.set (List.replicate 1 ((0:Int),(false,()))) 0 (126,(true,()))
 cond (decide (v18.length+v19.length≤most))
 (cond (inB w13 w14.2.2.1.length)
 (zXaa w15 (w14.2.2.1.getD w13.toNat (0,([],([],())))) fun r24 =>
 cond (r24 != 0)
 (K true)
 (cond (inB w13 w14.2.2.1.length)
 (zXaa (w16.1,(w16.2.1,((v18++v19),(w16.2.2.2.1,(w16.2.2.2.2.1,(w16.2.2.2.2.2.1,(w16.2.2.2.2.2.2.1,((IntKind.i64.wrap (w15.2.2.2.2.2.2.2.1+1)),((IntKind.i64.wrap (w15.2.2.2.2.2.2.2.2.1+1)),(true,w16.2.2.2.2.2.2.2.2.2.2)))))))))) (w14.2.2.1.getD w13.toNat (0,([],([],())))) fun r27 =>
 K (r27==0)) none)) none) none) none) ⟨w6,w7,w8,((v10++v11),w8.2)⟩) none) none) ⟨a1,a0,r3,r4⟩)
noncomputable def cs_law10_ValidMore:CSpec:={ ins:=[(.val Ty32 .s),(.val (.int .i64) .s)],outs:=[(.bool,.s)],fn:=fun d K _=>zofa d.1 d.2.1 (fun r0=>K (r0,()) ()) }
theorem zLJa:Holds Tryz.prog 5 cs_law10_ValidMore:=hw zJca [(4,none)] zfaa Tryz.func5 zKAa ⟨mixed,envTyOk.ty,envTyOk.eq⟩
end Go.Trm.G1
