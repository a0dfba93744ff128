import Derived.Test.YtaaichbahlpjlaaDoorTrmPt
import Derived.Test.YtaaichbahlpjlaaDoorProg
import Derived.KernelRfl
set_option linter.unusedVariables false
set_option linter.unusedSimpArgs false
namespace Go.Trm.G1
open Go.Proofs
set_option maxRecDepth 100000
abbrev Ty0 : Ty := (.pair (.int .i64) (.pair (.int .i64) (.pair .bool (.pair (.int .u64) .unit))))
abbrev Ty1 : Ty := (.pair (.sl 36 (.int .u64)) (.pair (.int .i64) (.pair (.sl 5 (.int .u8)) .unit)))
abbrev It2 : Type := ((Bool) × (Bool) × (List (Int)) × (Int) × (List (Int)) × Unit) × (List UInt8) × (List (Int)) × (Int) × (Int) × (Int) × Unit
abbrev It3 : Type := (List (Int)) × ((Int) × (Bool) × (Int) × (Int) × (Bool) × (Int) × Unit) × It2
abbrev Ty4 : Ty := (.pair (.sl 36 (.int .u64)) (.pair (.int .i64) (.pair (.int .i64) (.pair (.int .i64) .unit))))
abbrev Ty5 : Ty := (.pair (.pair (.int .i64) (.pair .bool Ty0)) (.pair (.pair .bool (.pair .bool Ty1)) (.pair .str Ty4)))
abbrev Ty6 : Ty := (.pair (.int .i64) (.pair (.int .i64) (.pair .bool (.pair (.int .u8) .unit))))
abbrev Ty7 : Ty := (.sl 127 (.pair (.int .u16) (.pair (.int .u16) (.pair (.int .u16) .unit))))
abbrev Ty8 : Ty := (.sl 130 (.pair (.int .u32) (.pair (.int .u32) (.pair (.int .u32) .unit))))
abbrev Ty9 : Ty := (.ptr 127 (.pair (.int .u16) (.pair (.int .u16) (.pair (.int .u16) .unit))))
abbrev Ty10 : Ty := (.ptr 130 (.pair (.int .u32) (.pair (.int .u32) (.pair (.int .u32) .unit))))
noncomputable def envTy : TypeId → Option Ty
 | 2 => some (.int .i64)
 | 3 => some (.int .i64)
 | 4 => some .bool
 | 5 => some (.int .u8)
 | 6 => some (.int .u8)
 | 7 => some Ty6
 | 8 => some Ty6
 | 9 => some .str
 | 10 => some .str
 | 11 => some .str
 | 12 => some (.int .u64)
 | 13 => some (.pair .str (.pair (.int .u64) .unit))
 | 14 => some (.pair .str (.pair (.int .u64) .unit))
 | 21 => some (.int .i32)
 | 23 => some (.sl 43 (.pair (.int .i64) (.pair (.sl 5 (.int .u8)) Ty5)))
 | 24 => some (.int .i64)
 | 31 => some (.sl 5 (.int .u8))
 | 36 => some (.int .u64)
 | 37 => some (.pair (.int .i64) (.pair .bool Ty0))
 | 38 => some (.pair (.int .i64) (.pair .bool Ty0))
 | 39 => some (.sl 36 (.int .u64))
 | 40 => some (.pair .bool (.pair .bool Ty1))
 | 41 => some (.pair .bool (.pair .bool Ty1))
 | 42 => some (.pair (.int .i64) (.pair (.sl 5 (.int .u8)) Ty5))
 | 43 => some (.pair (.int .i64) (.pair (.sl 5 (.int .u8)) Ty5))
 | 44 => some (.sl 9 .str)
 | 53 => some (.sl 41 (.pair .bool (.pair .bool Ty1)))
 | 61 => some .err
 | 66 => some (.sl 68 (.pair (.int .i64) (.pair (.int .i64) .unit)))
 | 67 => some (.pair (.int .i64) (.pair (.int .i64) .unit))
 | 68 => some (.pair (.int .i64) (.pair (.int .i64) .unit))
 | 69 => some (.ptr 71 (.pair (.sl 9 .str) (.pair .bool .unit)))
 | 70 => some (.pair (.sl 9 .str) (.pair .bool .unit))
 | 71 => some (.pair (.sl 9 .str) (.pair .bool .unit))
 | 96 => some (.ptr 5 (.int .u8))
 | 106 => some (.arr 256 (.int .u8))
 | 107 => some (.int .u64)
 | 116 => some (.int .u32)
 | 118 => some (.ptr 124 (.pair Ty7 (.pair Ty8 (.pair (.int .i64) .unit))))
 | 121 => some Ty7
 | 122 => some Ty8
 | 123 => some (.pair Ty7 (.pair Ty8 (.pair (.int .i64) .unit)))
 | 124 => some (.pair Ty7 (.pair Ty8 (.pair (.int .i64) .unit)))
 | 125 => some (.int .u16)
 | 126 => some (.pair (.int .u16) (.pair (.int .u16) (.pair (.int .u16) .unit)))
 | 127 => some (.pair (.int .u16) (.pair (.int .u16) (.pair (.int .u16) .unit)))
 | 129 => some (.pair (.int .u32) (.pair (.int .u32) (.pair (.int .u32) .unit)))
 | 130 => some (.pair (.int .u32) (.pair (.int .u32) (.pair (.int .u32) .unit)))
 | 133 => some (.arr 24 (.int .u8))
 | 138 => some (.pair (.int .u8) (.pair (.int .u8) .unit))
 | 139 => some (.pair (.int .u8) (.pair (.int .u8) .unit))
 | 140 => some (.arr 16 (.pair (.int .u8) (.pair (.int .u8) .unit)))
 | 143 => some (.int .i64)
 | 145 => some (.ptr 157 (.pair .str (.pair .str (.pair .err .unit))))
 | 148 => some Ty9
 | 149 => some Ty10
 | 151 => some (.arr 20 (.int .u64))
 | 152 => some (.arr 65 (.int .u8))
 | 156 => some (.pair .str (.pair .str (.pair .err .unit)))
 | 157 => some (.pair .str (.pair .str (.pair .err .unit)))
 | 160 => some (.ptr 162 (.pair .str .unit))
 | 161 => some (.pair .str .unit)
 | 162 => some (.pair .str .unit)
 | 163 => some (.arr 32 (.int .u8))
 | 164 => some (.arr 64 (.int .u8))
 | 170 => some (.int .u8)
 | 171 => some (.int .u8)
 | 173 => some (.int .i32)
 | 174 => some (.int .i32)
 | _ => none
noncomputable def envEq : TypeId → Bool
 | 38 => true
 | _ => false
noncomputable def noG : FuncId → List FuncId → Option CSpec := fun _ _ => none
theorem envTyOk : EnvTy Tryd.prog { ty := envTy, gam := fun _ _ => none, n := 0, eq := envEq } := by
 refine ⟨fun T t h => ?_, fun T t h1 h2 => ?_⟩
 ·unfold envTy at h
  simp only at h
  split at h <;> first | (cases h; done) | (simp only [Option.some.injEq] at h; subst h; kernel_rfl)
 ·unfold envEq at h1
  simp only at h1
  first | (cases h1; done) | (split at h1 <;> first | (cases h1; done) | (simp only [envTy, Option.some.injEq] at h2; subst h2; kernel_rfl))
theorem mixed : Tryd.prog.follows .mixedOrders = true := by kernel_rfl
noncomputable def body (o : Option Code) : Code := match o with | some c => c | none => .skip
noncomputable def lp0 : Loops := fun _ _ _ _ _ => none
noncomputable def zofa (id : Nat) : Code → Option Code
 | .loop c => match zmha c with
  | some i => match Nat.beq i id with
   | true => some c
   | false => zofa id c
  | none => zofa id c
 | .seq a b => match zofa id a with
  | some c => some c
  | none => zofa id b
 | .cond _ a b => match zofa id a with
  | some c => some c
  | none => zofa id b
 | .block _ c => zofa id c
 | .scope c => zofa id c
 | _ => none
noncomputable def joinC (id : Nat) : Code → Option Code
 | .seq a b => match zmha b with
  | some i => match Nat.beq i id with
   | true => some a
   | false => match joinC id a with
    | some c => some c
    | none => joinC id b
  | none => match joinC id a with
   | some c => some c
   | none => joinC id b
 | .cond _ a b => match joinC id a with
  | some c => some c
  | none => joinC id b
 | .block _ c => joinC id c
 | .scope c => joinC id c
 | .loop c => joinC id c
 | _ => none
noncomputable abbrev zTna {R : Type} (a0 a1 : List UInt8) (K : List (List UInt8) → Option R) : Option R := zOma a0 a1 K
noncomputable abbrev zkja : CSpec := zjra
theorem zZna : Holds Tryd.prog 13 zkja := zGva
noncomputable def zVla : Env := { ty := envTy, eq := envEq, gam := noG, n := Tryd.f15.ntmps }
noncomputable def zgna {R : Type} (a0 : Int) (K : Bool → Option R) : Option R :=
 let v1 := a0 == (32 : Int)
 K v1
noncomputable def zEma : CSpec := { ins := [(.val (.int .i32) .s)], outs := [(.bool, .s)], fn := fun (d : Int × Unit) K _ => zgna d.1 (fun r0 => K ((r0, ()) : Bool × Unit) ((()) : Unit)) }
theorem zQsa : Holds Tryd.prog 15 zEma := zsaa (env := zVla) (inl := inl0) (lp := lp0) (rs := [(2, none)]) (code := body Tryd.f15.body) ⟨mixed, envTyOk.ty, envTyOk.eq⟩ (fun _ _ _ h => by cases h) zRaa Tryd.func15 (zraa (by kernel_rfl) (by kernel_rfl)) (by kernel_rfl) (by kernel_rfl) (by kernel_rfl) (by kernel_rfl) (by kernel_rfl) (by kernel_rfl) fun d R K Kp => by kernel_rfl
noncomputable def zija : Env := { ty := envTy, eq := envEq, gam := noG, n := Tryd.f35.ntmps }
noncomputable def zgaa {R : Type} (a0 : (List (List UInt8)) × (Bool) × Unit) (K : Bool → ((List (List UInt8)) × (Bool) × Unit) → Option R) : Option R :=
 let v1 := ((List.length a0.1 : Nat) : Int)
 let v2 := decide (v1 > (0 : Int))
 K v2 a0
noncomputable def zUaa : CSpec := { ins := [(.ref (.pair (.sl 9 .str) (.pair .bool .unit)) .s .s)], outs := [(.bool, .s)], fn := fun (d : ((List (List UInt8)) × (Bool) × Unit) × Unit) K _ => zgaa d.1 (fun r0 b0 => K ((r0, ()) : Bool × Unit) ((b0, ()) : ((List (List UInt8)) × (Bool) × Unit) × Unit)) }
theorem zPba : Holds Tryd.prog 35 zUaa := zsaa (env := zija) (inl := inl0) (lp := lp0) (rs := [(2, none)]) (code := body Tryd.f35.body) ⟨mixed, envTyOk.ty, envTyOk.eq⟩ (fun _ _ _ h => by cases h) zRaa Tryd.func35 (zraa (by kernel_rfl) (by kernel_rfl)) (by kernel_rfl) (by kernel_rfl) (by kernel_rfl) (by kernel_rfl) (by kernel_rfl) (by kernel_rfl) fun d R K Kp => by kernel_rfl
noncomputable def zSda : List (FuncId × List FuncId × CSpec) := [(35, [], zUaa)]
noncomputable def zuja : Nat → Bool
 | 21 => true
 | _ => false
noncomputable def zIea : Env := { ty := envTy, eq := envEq, gam := (gamL zSda), n := Tryd.f28.ntmps, sb := zuja, al := [0, 4] }
theorem zHha : EnvFn Tryd.prog zIea := fun f gs c h => zCba (l := zSda) ⟨zPba, trivial⟩ f gs c h
noncomputable def zpaa {R : Type} (a0 : (List (List UInt8)) × (Bool) × Unit) (K : (List UInt8) → ((List (List UInt8)) × (Bool) × Unit) → Option R) : Option R :=
 zgaa a0 fun r1 b2 =>
 let v3 := !r1
 cond v3
 (K ([] : List UInt8) (b2.1, (true, b2.2.2)))
 (cond (inB (0 : Int) (List.length b2.1))
 (let v4 := List.getD b2.1 (0 : Int).toNat ([] : List UInt8)
 cond (inR (1 : Int) ((List.length b2.1 : Nat) : Int) (List.length b2.1))
 (let v5 := rng b2.1 (1 : Int) ((List.length b2.1 : Nat) : Int)
 K v4 (v5, b2.2)) none) none)
noncomputable def zxaa : CSpec := { ins := [(.ref (.pair (.sl 9 .str) (.pair .bool .unit)) .s .s)], outs := [(.str, .s)], fn := fun (d : ((List (List UInt8)) × (Bool) × Unit) × Unit) K _ => zpaa d.1 (fun r0 b0 => K ((r0, ()) : (List UInt8) × Unit) ((b0, ()) : ((List (List UInt8)) × (Bool) × Unit) × Unit)) }
theorem zMaa : Holds Tryd.prog 28 zxaa := zsaa (env := zIea) (inl := inl0) (lp := lp0) (rs := [(2, none)]) (code := body Tryd.f28.body) ⟨mixed, envTyOk.ty, envTyOk.eq⟩ zHha zRaa Tryd.func28 (zraa (by kernel_rfl) (by kernel_rfl)) (by kernel_rfl) (by kernel_rfl) (by kernel_rfl) (by kernel_rfl) (by kernel_rfl) (by kernel_rfl) fun d R K Kp => by kernel_rfl
noncomputable abbrev zida {R : Type} (a0 : List UInt8) (a1 : Int) (K : Int → Option R) : Option R := zOia a0 a1 K
noncomputable abbrev zyfa : CSpec := zema
theorem zJka : Holds Tryd.prog 58 zyfa := ztqa
noncomputable def zGea : List (FuncId × List FuncId × CSpec) := [(28, [], zxaa), (58, [], zyfa)]
noncomputable def zHaa : Env := { ty := envTy, eq := envEq, gam := (gamL zGea), n := Tryd.f29.ntmps, al := [0, 8] }
theorem zwia : EnvFn Tryd.prog zHaa := fun f gs c h => zCba (l := zGea) ⟨zMaa, zJka, trivial⟩ f gs c h
structure zIaa where
 f3 : List UInt8
 f4 : List (Int)
 f5 : Int
 f1000000 : (List (List UInt8)) × (Bool) × Unit
noncomputable def zKaa {R : Type} (k_ret : (List (Int)) → ((List (List UInt8)) × (Bool) × Unit) → Option R) (k_exit_0 : (List (Int)) → ((List (List UInt8)) × (Bool) × Unit) → Option R) (rec : zIaa → Option R) (x : zIaa) : Option R :=
 let v1 := ((List.length x.f3 : Nat) : Int)
 let v2 := decide (x.f5 < v1)
 cond v2
 (cond (inB x.f5 (List.length x.f3))
 (let v3 := bt x.f3 x.f5
 let v4 := IntKind.i64.wrap (x.f5 + (1 : Int))
 cond (inB v4 (List.length x.f3))
 (let v5 := bt x.f3 v4
 zida ([48, 49, 50, 51, 52, 53, 54, 55, 56, 57, 97, 98, 99, 100, 101, 102] : List UInt8) v3 fun r6 =>
 zida ([48, 49, 50, 51, 52, 53, 54, 55, 56, 57, 97, 98, 99, 100, 101, 102] : List UInt8) v5 fun r7 =>
 let v8 := decide (r6 < (0 : Int))
 cond v8
 (k_ret ([] : List (Int)) (x.f1000000.1, (true, x.f1000000.2.2)))
 (let v9 := decide (r7 < (0 : Int))
 cond v9
 (k_ret ([] : List (Int)) (x.f1000000.1, (true, x.f1000000.2.2)))
 (let v10 := IntKind.i64.wrap ((16 : Int) * r6)
 let v11 := IntKind.i64.wrap (v10 + r7)
 let v12 := IntKind.u8.wrap v11
 let v13 := List.set (List.replicate 1 (0 : Int)) 0 v12
 cond (decide (List.length x.f4 + List.length v13 ≤ most))
 (let v14 := x.f4 ++ v13
 let v15 := IntKind.i64.wrap (x.f5 + (2 : Int))
 rec ⟨x.f3, v14, v15, x.f1000000⟩) none))) none) none)
 (k_exit_0 x.f4 x.f1000000)
noncomputable def zDja (x : zIaa) : St := St.ofList [(0, (.al 1000000 [.der])), (3, (.v .str .s x.f3)), (4, (.v (.sl 5 (.int .u8)) (.o .s) x.f4)), (5, (.v (.int .i64) .s x.f5)), (1000000, (.v (.ptr 0 (.pair (.sl 9 .str) (.pair .bool .unit))) (.o .s) (some x.f1000000)))]
def zoia : Ex → List (Nat × Bool) | .ret => [(2, false), (1000000, false)] | .exit 0 => [(4, false), (1000000, false)] | _ => []
def zDea : List (Nat × Bool) := [(0, false), (3, false), (4, false), (5, false), (1000000, false)]
noncomputable def zyea : Pt zIaa := .s 0 (sAl 1000000 [.der]) fun _ => .s 3 (sV .str .s) fun y3 => .s 4 (sV (.sl 5 (.int .u8)) (.o .s)) fun y4 => .s 5 (sV (.int .i64) .s) fun y5 => .s 1000000 (sP 0 (.pair (.sl 9 .str) (.pair .bool .unit)) (.o .s)) fun y1000000 => .e ⟨y3, y4, y5, y1000000⟩
noncomputable def zbfa (R : Type) (K : Ex → St → Option R) : (zIaa → Option R) → zIaa → Option R := zKaa (fun e2 e1000000 => K .ret (St.ofList [(2, (.v (.sl 5 (.int .u8)) (.o .s) e2)), (1000000, (.v (.ptr 0 (.pair (.sl 9 .str) (.pair .bool .unit))) (.o .s) (some e1000000)))])) (fun e4 e1000000 => K (.exit 0) (St.ofList [(4, (.v (.sl 5 (.int .u8)) (.o .s) e4)), (1000000, (.v (.ptr 0 (.pair (.sl 9 .str) (.pair .bool .unit))) (.o .s) (some e1000000)))]))
noncomputable def zxca : Code := match zofa 7 (body Tryd.f29.body) with | some c => c | none => .skip
noncomputable def zMba : Loops := fun z i R st K => match z, i with
 | false, 7 => lpE zDea zyea (lpL zbfa K) st
 | _, _ => none
theorem zsha : LStep zHaa zMba inl0 zxca zDea zoia zDja zbfa := fun R K rec x => by kernel_rfl
theorem zLia : zpha zHaa zMba inl0 zxca := zOba zsha (p := zyea) (i := 7) (fun _ _ _ _ _ => ⟨rfl, rfl⟩) (by kernel_rfl) (fun R st K => by kernel_rfl)
theorem zria : zXaa zHaa zMba inl0 (body Tryd.f29.body) := by
 refine zBaa (fun c hc => ?_) (fun c hc => ?_)
 ·rw [show zgea (body Tryd.f29.body) = [zxca] by kernel_rfl] at hc
  simp only [List.mem_cons, List.not_mem_nil, or_false] at hc
  rcases hc with rfl
  ·exact zLia
 ·rw [show zhea zHaa (body Tryd.f29.body) = [] by kernel_rfl] at hc; cases hc
noncomputable def zyaa {R : Type} (a0 : (List (List UInt8)) × (Bool) × Unit) (K : (List (Int)) → ((List (List UInt8)) × (Bool) × Unit) → Option R) : Option R :=
 zpaa a0 fun r1 b2 =>
 let v3 := ((List.length r1 : Nat) : Int)
 let v4 := v3 == (0 : Int)
 cond v4
 (K ([] : List (Int)) (b2.1, (true, b2.2.2)))
 (let v5 := ((List.length r1 : Nat) : Int)
 cond ((2 : Int) != 0)
 (let v6 := Int.tmod v5 (2 : Int)
 let v7 := v6 != (0 : Int)
 cond v7
 (K ([] : List (Int)) (b2.1, (true, b2.2.2)))
 (loopN (zKaa (fun w8 w9 =>
 K w8 w9) (fun w10 w11 =>
 K w10 w11)) zvfa ⟨r1, ([] : List (Int)), (0 : Int), b2⟩)) none)
noncomputable def zMca : CSpec := { ins := [(.ref (.pair (.sl 9 .str) (.pair .bool .unit)) .s .s)], outs := [((.sl 5 (.int .u8)), (.o .s))], fn := fun (d : ((List (List UInt8)) × (Bool) × Unit) × Unit) K _ => zyaa d.1 (fun r0 b0 => K ((r0, ()) : (List (Int)) × Unit) ((b0, ()) : ((List (List UInt8)) × (Bool) × Unit) × Unit)) }
theorem zcga : Holds Tryd.prog 29 zMca := zsaa (env := zHaa) (inl := inl0) (lp := zMba) (rs := [(2, none)]) (code := body Tryd.f29.body) ⟨mixed, envTyOk.ty, envTyOk.eq⟩ zwia zRaa Tryd.func29 zria (by kernel_rfl) (by kernel_rfl) (by kernel_rfl) (by kernel_rfl) (by kernel_rfl) (by kernel_rfl) fun d R K Kp => by kernel_rfl
noncomputable def zWea : List (FuncId × List FuncId × CSpec) := [(35, [], zUaa), (28, [], zxaa)]
noncomputable def zwfa : Env := { ty := envTy, eq := envEq, gam := (gamL zWea), n := Tryd.f59.ntmps, al := [0, 5, 9, 10, 11, 18] }
theorem zeja : EnvFn Tryd.prog zwfa := fun f gs c h => zCba (l := zWea) ⟨zPba, zMaa, trivial⟩ f gs c h
noncomputable def zeaa {R : Type} (a0 : (List (List UInt8)) × (Bool) × Unit) (a1 : List UInt8) (K : Bool → ((List (List UInt8)) × (Bool) × Unit) → Option R) : Option R :=
 zgaa a0 fun r1 b2 =>
 let v3 := !r1
 cond v3
 (K false b2)
 (cond (inB (0 : Int) (List.length b2.1))
 (let v4 := List.getD b2.1 (0 : Int).toNat ([] : List UInt8)
 let v5 := !(v4 == a1)
 cond v5
 (K false b2)
 (zpaa b2 fun r6 b7 =>
 K true b7)) none)
noncomputable def zzda : CSpec := { ins := [(.ref (.pair (.sl 9 .str) (.pair .bool .unit)) .s .s), (.val .str .s)], outs := [(.bool, .s)], fn := fun (d : ((List (List UInt8)) × (Bool) × Unit) × (List UInt8) × Unit) K _ => zeaa d.1 d.2.1 (fun r0 b0 => K ((r0, ()) : Bool × Unit) ((b0, ()) : ((List (List UInt8)) × (Bool) × Unit) × Unit)) }
theorem zhha : Holds Tryd.prog 59 zzda := zsaa (env := zwfa) (inl := inl0) (lp := lp0) (rs := [(4, none)]) (code := body Tryd.f59.body) ⟨mixed, envTyOk.ty, envTyOk.eq⟩ zeja zRaa Tryd.func59 (zraa (by kernel_rfl) (by kernel_rfl)) (by kernel_rfl) (by kernel_rfl) (by kernel_rfl) (by kernel_rfl) (by kernel_rfl) (by kernel_rfl) fun d R K Kp => by kernel_rfl
noncomputable abbrev zPfa {R : Type} (a0 : List UInt8) (a1 a2 : Int) (K : Int → Bool → Option R) : Option R := zNia a0 a1 a2 K
noncomputable abbrev zzfa : CSpec := zdma
theorem zKka : Holds Tryd.prog 76 zzfa := zsqa
noncomputable def zBna : Env := { ty := envTy, eq := envEq, gam := noG, n := Tryd.f62.ntmps }
noncomputable def zmca {R : Type} (a0 : Int) (K : Bool → Option R) : Option R :=
 let v1 := decide (a0 ≥ (48 : Int))
 cond v1
 (let v2 := decide (a0 ≤ (57 : Int))
 K v2)
 (K false)
noncomputable def zoea : CSpec := { ins := [(.val (.int .u8) .s)], outs := [(.bool, .s)], fn := fun (d : Int × Unit) K _ => zmca d.1 (fun r0 => K ((r0, ()) : Bool × Unit) ((()) : Unit)) }
theorem zEha : Holds Tryd.prog 62 zoea := zsaa (env := zBna) (inl := inl0) (lp := lp0) (rs := [(2, none)]) (code := body Tryd.f62.body) ⟨mixed, envTyOk.ty, envTyOk.eq⟩ (fun _ _ _ h => by cases h) zRaa Tryd.func62 (zraa (by kernel_rfl) (by kernel_rfl)) (by kernel_rfl) (by kernel_rfl) (by kernel_rfl) (by kernel_rfl) (by kernel_rfl) (by kernel_rfl) fun d R K Kp => by kernel_rfl
noncomputable def zrda : List (FuncId × List FuncId × CSpec) := [(28, [], zxaa), (76, [], zzfa), (62, [], zoea)]
noncomputable def zVda : Env := { ty := envTy, eq := envEq, gam := (gamL zrda), n := Tryd.f61.ntmps, al := [0, 6] }
theorem zjha : EnvFn Tryd.prog zVda := fun f gs c h => zCba (l := zrda) ⟨zMaa, zKka, zEha, trivial⟩ f gs c h
noncomputable def zGaa {R : Type} (a0 : (List (List UInt8)) × (Bool) × Unit) (K : Int → ((List (List UInt8)) × (Bool) × Unit) → Option R) : Option R :=
 zpaa a0 fun r1 b2 =>
 zPfa r1 (10 : Int) (64 : Int) fun r3 r4 =>
 cond r4
 (K (0 : Int) (b2.1, (true, b2.2.2)))
 (cond (inB (0 : Int) (List.length r1))
 (let v5 := bt r1 (0 : Int)
 zmca v5 fun r6 =>
 let v7 := !r6
 cond v7
 (K (0 : Int) (b2.1, (true, b2.2.2)))
 (cond (inB (0 : Int) (List.length r1))
 (let v8 := bt r1 (0 : Int)
 let v9 := v8 == (48 : Int)
 cond v9
 (let v10 := ((List.length r1 : Nat) : Int)
 let v11 := decide (v10 > (1 : Int))
 cond v11
 (K (0 : Int) (b2.1, (true, b2.2.2)))
 (K r3 b2))
 (K r3 b2)) none)) none)
noncomputable def zwba : CSpec := { ins := [(.ref (.pair (.sl 9 .str) (.pair .bool .unit)) .s .s)], outs := [((.int .u64), .s)], fn := fun (d : ((List (List UInt8)) × (Bool) × Unit) × Unit) K _ => zGaa d.1 (fun r0 b0 => K ((r0, ()) : Int × Unit) ((b0, ()) : ((List (List UInt8)) × (Bool) × Unit) × Unit)) }
theorem zwca : Holds Tryd.prog 61 zwba := zsaa (env := zVda) (inl := inl0) (lp := lp0) (rs := [(2, none)]) (code := body Tryd.f61.body) ⟨mixed, envTyOk.ty, envTyOk.eq⟩ zjha zRaa Tryd.func61 (zraa (by kernel_rfl) (by kernel_rfl)) (by kernel_rfl) (by kernel_rfl) (by kernel_rfl) (by kernel_rfl) (by kernel_rfl) (by kernel_rfl) fun d R K Kp => by kernel_rfl
noncomputable def zcda : List (FuncId × List FuncId × CSpec) := [(61, [], zwba)]
noncomputable def zuda : Env := { ty := envTy, eq := envEq, gam := (gamL zcda), n := Tryd.f32.ntmps, al := [0, 4] }
theorem zoga : EnvFn Tryd.prog zuda := fun f gs c h => zCba (l := zcda) ⟨zwca, trivial⟩ f gs c h
noncomputable def zbaa {R : Type} (a0 : (List (List UInt8)) × (Bool) × Unit) (K : Int → ((List (List UInt8)) × (Bool) × Unit) → Option R) : Option R :=
 zGaa a0 fun r1 b2 =>
 let v3 := decide (r1 ≥ (4294967296 : Int))
 cond v3
 (K (0 : Int) (b2.1, (true, b2.2.2)))
 (let v4 := IntKind.i64.wrap r1
 K v4 b2)
noncomputable def ziba : CSpec := { ins := [(.ref (.pair (.sl 9 .str) (.pair .bool .unit)) .s .s)], outs := [((.int .i64), .s)], fn := fun (d : ((List (List UInt8)) × (Bool) × Unit) × Unit) K _ => zbaa d.1 (fun r0 b0 => K ((r0, ()) : Int × Unit) ((b0, ()) : ((List (List UInt8)) × (Bool) × Unit) × Unit)) }
theorem zica : Holds Tryd.prog 32 ziba := zsaa (env := zuda) (inl := inl0) (lp := lp0) (rs := [(2, none)]) (code := body Tryd.f32.body) ⟨mixed, envTyOk.ty, envTyOk.eq⟩ zoga zRaa Tryd.func32 (zraa (by kernel_rfl) (by kernel_rfl)) (by kernel_rfl) (by kernel_rfl) (by kernel_rfl) (by kernel_rfl) (by kernel_rfl) (by kernel_rfl) fun d R K Kp => by kernel_rfl
noncomputable def zCca : List (FuncId × List FuncId × CSpec) := [(28, [], zxaa)]
noncomputable def zeda : Env := { ty := envTy, eq := envEq, gam := (gamL zCca), n := Tryd.f60.ntmps, al := [0, 3] }
theorem zLfa : EnvFn Tryd.prog zeda := fun f gs c h => zCba (l := zCca) ⟨zMaa, trivial⟩ f gs c h
noncomputable def zfba {R : Type} (a0 : (List (List UInt8)) × (Bool) × Unit) (K : Int → ((List (List UInt8)) × (Bool) × Unit) → Option R) : Option R :=
 zpaa a0 fun r1 b2 =>
 let v3 := r1 == ([105, 51, 50] : List UInt8)
 cond v3
 (K (127 : Int) b2)
 (let v4 := r1 == ([105, 54, 52] : List UInt8)
 cond v4
 (K (126 : Int) b2)
 (K (0 : Int) (b2.1, (true, b2.2.2))))
noncomputable def zyda : CSpec := { ins := [(.ref (.pair (.sl 9 .str) (.pair .bool .unit)) .s .s)], outs := [((.int .i64), .s)], fn := fun (d : ((List (List UInt8)) × (Bool) × Unit) × Unit) K _ => zfba d.1 (fun r0 b0 => K ((r0, ()) : Int × Unit) ((b0, ()) : ((List (List UInt8)) × (Bool) × Unit) × Unit)) }
theorem zuia : Holds Tryd.prog 60 zyda := zsaa (env := zeda) (inl := inl0) (lp := lp0) (rs := [(2, none)]) (code := body Tryd.f60.body) ⟨mixed, envTyOk.ty, envTyOk.eq⟩ zLfa zRaa Tryd.func60 (zraa (by kernel_rfl) (by kernel_rfl)) (by kernel_rfl) (by kernel_rfl) (by kernel_rfl) (by kernel_rfl) (by kernel_rfl) (by kernel_rfl) fun d R K Kp => by kernel_rfl
noncomputable def zsda : List (FuncId × List FuncId × CSpec) := [(59, [], zzda), (32, [], ziba), (60, [], zyda), (61, [], zwba)]
noncomputable def zWda : Env := { ty := envTy, eq := envEq, gam := (gamL zsda), n := Tryd.f30.ntmps, al := [0, 4, 7, 10, 13, 15, 20, 23, 26] }
theorem zkha : EnvFn Tryd.prog zWda := fun f gs c h => zCba (l := zsda) ⟨zhha, zica, zuia, zwca, trivial⟩ f gs c h
noncomputable def zzba {R : Type} (a0 : (List (List UInt8)) × (Bool) × Unit) (K : ((Int) × (Bool) × (Int) × (Int) × (Bool) × (Int) × Unit) → ((List (List UInt8)) × (Bool) × Unit) → Option R) : Option R :=
 zeaa a0 ([116, 97, 98, 108, 101] : List UInt8) fun r1 b2 =>
 cond r1
 (zbaa b2 fun r3 b4 =>
 zeaa b4 ([109, 97, 120] : List UInt8) fun r5 b6 =>
 cond r5
 (zbaa b6 fun r7 b8 =>
 K (r3, (true, (r7, ((0 : Int), (false, ((0 : Int), ())))))) b8)
 (K (r3, (false, ((0 : Int), ((0 : Int), (false, ((0 : Int), ())))))) b6))
 (zeaa b2 ([109, 101, 109, 111, 114, 121] : List UInt8) fun r9 b10 =>
 cond r9
 (zbaa b10 fun r11 b12 =>
 zeaa b12 ([109, 97, 120] : List UInt8) fun r13 b14 =>
 cond r13
 (zbaa b14 fun r15 b16 =>
 K (r11, (true, (r15, ((0 : Int), (false, ((0 : Int), ())))))) b16)
 (K (r11, (false, ((0 : Int), ((0 : Int), (false, ((0 : Int), ())))))) b14))
 (zeaa b10 ([118, 97, 114] : List UInt8) fun r17 b18 =>
 zfba b18 fun r19 b20 =>
 zGaa b20 fun r21 b22 =>
 K ((0 : Int), (false, ((0 : Int), (r19, (r17, (r21, ())))))) b22))
noncomputable def zKea : CSpec := { ins := [(.ref (.pair (.sl 9 .str) (.pair .bool .unit)) .s .s)], outs := [((.pair (.int .i64) (.pair .bool Ty0)), .s)], fn := fun (d : ((List (List UInt8)) × (Bool) × Unit) × Unit) K _ => zzba d.1 (fun r0 b0 => K ((r0, ()) : ((Int) × (Bool) × (Int) × (Int) × (Bool) × (Int) × Unit) × Unit) ((b0, ()) : ((List (List UInt8)) × (Bool) × Unit) × Unit)) }
theorem zBja : Holds Tryd.prog 30 zKea := zsaa (env := zWda) (inl := inl0) (lp := lp0) (rs := [(2, some 38)]) (code := body Tryd.f30.body) ⟨mixed, envTyOk.ty, envTyOk.eq⟩ zkha zRaa Tryd.func30 (zraa (by kernel_rfl) (by kernel_rfl)) (by kernel_rfl) (by kernel_rfl) (by kernel_rfl) (by kernel_rfl) (by kernel_rfl) (by kernel_rfl) fun d R K Kp => by kernel_rfl
noncomputable def zbda : List (FuncId × List FuncId × CSpec) := [(35, [], zUaa), (62, [], zoea), (61, [], zwba)]
noncomputable def ztaa : Env := { ty := envTy, eq := envEq, gam := (gamL zbda), n := Tryd.f34.ntmps, al := [0, 4, 7, 8, 9, 17] }
theorem znga : EnvFn Tryd.prog ztaa := fun f gs c h => zCba (l := zbda) ⟨zPba, zEha, zwca, trivial⟩ f gs c h
structure zuaa where
 f3 : List (Int)
 f1000000 : (List (List UInt8)) × (Bool) × Unit
noncomputable def zvaa {R : Type} (k_exit_0 : (List (Int)) → ((List (List UInt8)) × (Bool) × Unit) → Option R) (rec : zuaa → Option R) (x : zuaa) : Option R :=
 zgaa x.f1000000 fun r1 b2 =>
 cond r1
 (cond (inB (0 : Int) (List.length b2.1))
 (let v3 := List.getD b2.1 (0 : Int).toNat ([] : List UInt8)
 cond (inB (0 : Int) (List.length v3))
 (let v4 := bt v3 (0 : Int)
 zmca v4 fun r5 =>
 cond r5
 (zGaa b2 fun r6 b7 =>
 let v8 := List.set (List.replicate 1 (0 : Int)) 0 r6
 cond (decide (List.length x.f3 + List.length v8 ≤ most))
 (let v9 := x.f3 ++ v8
 rec ⟨v9, b7⟩) none)
 (k_exit_0 x.f3 b2)) none) none)
 (k_exit_0 x.f3 b2)
noncomputable def zOha (x : zuaa) : St := St.ofList [(0, (.al 1000000 [.der])), (3, (.v (.sl 36 (.int .u64)) (.o .s) x.f3)), (1000000, (.v (.ptr 0 (.pair (.sl 9 .str) (.pair .bool .unit))) (.o .s) (some x.f1000000)))]
def ziga : Ex → List (Nat × Bool) | .exit 0 => [(0, false), (3, false), (1000000, false)] | _ => []
def zZca : List (Nat × Bool) := [(0, false), (3, false), (1000000, false)]
noncomputable def zPca : Pt zuaa := .s 0 (sAl 1000000 [.der]) fun _ => .s 3 (sV (.sl 36 (.int .u64)) (.o .s)) fun y3 => .s 1000000 (sP 0 (.pair (.sl 9 .str) (.pair .bool .unit)) (.o .s)) fun y1000000 => .e ⟨y3, y1000000⟩
noncomputable def zMda (R : Type) (K : Ex → St → Option R) : (zuaa → Option R) → zuaa → Option R := zvaa (fun e3 e1000000 => K (.exit 0) (St.ofList [(0, (.al 1000000 [.der])), (3, (.v (.sl 36 (.int .u64)) (.o .s) e3)), (1000000, (.v (.ptr 0 (.pair (.sl 9 .str) (.pair .bool .unit))) (.o .s) (some e1000000)))]))
noncomputable def zQba : Code := match zofa 2 (body Tryd.f34.body) with | some c => c | none => .skip
noncomputable def zgba : Loops := fun z i R st K => match z, i with
 | false, 2 => lpE zZca zPca (lpL zMda K) st
 | _, _ => none
theorem zGfa : LStep ztaa zgba inl0 zQba zZca ziga zOha zMda := fun R K rec x => by kernel_rfl
theorem zGga : zpha ztaa zgba inl0 zQba := zOba zGfa (p := zPca) (i := 2) (fun _ _ _ => ⟨rfl, rfl⟩) (by kernel_rfl) (fun R st K => by kernel_rfl)
theorem zjga : zXaa ztaa zgba inl0 (body Tryd.f34.body) := by
 refine zBaa (fun c hc => ?_) (fun c hc => ?_)
 ·rw [show zgea (body Tryd.f34.body) = [zQba] by kernel_rfl] at hc
  simp only [List.mem_cons, List.not_mem_nil, or_false] at hc
  rcases hc with rfl
  ·exact zGga
 ·rw [show zhea ztaa (body Tryd.f34.body) = [] by kernel_rfl] at hc; cases hc
noncomputable def zPaa {R : Type} (a0 : (List (List UInt8)) × (Bool) × Unit) (K : (List (Int)) → ((List (List UInt8)) × (Bool) × Unit) → Option R) : Option R :=
 loopN (zvaa (fun w1 w2 =>
 cond w2.2.1
 (K w1 (w2.1, (true, w2.2.2)))
 (let v3 := ((List.length w1 : Nat) : Int)
 let v4 := decide (v3 > (8 : Int))
 K w1 (w2.1, (v4, w2.2.2))))) zvfa ⟨([] : List (Int)), a0⟩
noncomputable def zcca : CSpec := { ins := [(.ref (.pair (.sl 9 .str) (.pair .bool .unit)) .s .s)], outs := [((.sl 36 (.int .u64)), (.o .s))], fn := fun (d : ((List (List UInt8)) × (Bool) × Unit) × Unit) K _ => zPaa d.1 (fun r0 b0 => K ((r0, ()) : (List (Int)) × Unit) ((b0, ()) : ((List (List UInt8)) × (Bool) × Unit) × Unit)) }
theorem zFea : Holds Tryd.prog 34 zcca := zsaa (env := ztaa) (inl := inl0) (lp := zgba) (rs := [(2, none)]) (code := body Tryd.f34.body) ⟨mixed, envTyOk.ty, envTyOk.eq⟩ znga zRaa Tryd.func34 zjga (by kernel_rfl) (by kernel_rfl) (by kernel_rfl) (by kernel_rfl) (by kernel_rfl) (by kernel_rfl) fun d R K Kp => by kernel_rfl
noncomputable def zdda : List (FuncId × List FuncId × CSpec) := [(59, [], zzda), (34, [], zcca), (32, [], ziba), (29, [], zMca)]
noncomputable def zvda : Env := { ty := envTy, eq := envEq, gam := (gamL zdda), n := Tryd.f31.ntmps, al := [0, 4, 7, 10, 12, 15, 16, 17, 18, 26, 27, 28, 30, 33] }
theorem zpga : EnvFn Tryd.prog zvda := fun f gs c h => zCba (l := zdda) ⟨zhha, zFea, zica, zcga, trivial⟩ f gs c h
noncomputable def ztba {R : Type} (a0 : (List (List UInt8)) × (Bool) × Unit) (K : ((Bool) × (Bool) × (List (Int)) × (Int) × (List (Int)) × Unit) → ((List (List UInt8)) × (Bool) × Unit) → Option R) : Option R :=
 zeaa a0 ([103, 114, 111, 119] : List UInt8) fun r1 b2 =>
 zeaa b2 ([116, 114, 97, 112] : List UInt8) fun r3 b4 =>
 zeaa b4 ([103, 105, 118, 101] : List UInt8) fun r5 b6 =>
 cond r5
 (zPaa b6 fun r7 b8 =>
 cond b8.2.1
 (zeaa (b8.1, (true, b8.2.2)) ([97, 116] : List UInt8) fun r9 b10 =>
 cond r9
 (zbaa b10 fun r11 b12 =>
 zyaa b12 fun r13 b14 =>
 K (r1, (r3, (r7, (r11, (r13, ()))))) b14)
 (K (r1, (r3, (r7, ((0 : Int), (([] : List (Int)), ()))))) b10))
 (let v15 := ((List.length r7 : Nat) : Int)
 let v16 := v15 == (0 : Int)
 zeaa (b8.1, (v16, b8.2.2)) ([97, 116] : List UInt8) fun r17 b18 =>
 cond r17
 (zbaa b18 fun r19 b20 =>
 zyaa b20 fun r21 b22 =>
 K (r1, (r3, (r7, (r19, (r21, ()))))) b22)
 (K (r1, (r3, (r7, ((0 : Int), (([] : List (Int)), ()))))) b18)))
 (zeaa b6 ([97, 116] : List UInt8) fun r23 b24 =>
 cond r23
 (zbaa b24 fun r25 b26 =>
 zyaa b26 fun r27 b28 =>
 K (r1, (r3, (([] : List (Int)), (r25, (r27, ()))))) b28)
 (K (r1, (r3, (([] : List (Int)), ((0 : Int), (([] : List (Int)), ()))))) b24))
noncomputable def zXda : CSpec := { ins := [(.ref (.pair (.sl 9 .str) (.pair .bool .unit)) .s .s)], outs := [((.pair .bool (.pair .bool Ty1)), (.p .s (.p .s (.p (.o .s) (.p .s (.p (.o .s) .s))))))], fn := fun (d : ((List (List UInt8)) × (Bool) × Unit) × Unit) K _ => ztba d.1 (fun r0 b0 => K ((r0, ()) : ((Bool) × (Bool) × (List (Int)) × (Int) × (List (Int)) × Unit) × Unit) ((b0, ()) : ((List (List UInt8)) × (Bool) × Unit) × Unit)) }
theorem zYia : Holds Tryd.prog 31 zXda := zsaa (env := zvda) (inl := inl0) (lp := lp0) (rs := [(2, some 41)]) (code := body Tryd.f31.body) ⟨mixed, envTyOk.ty, envTyOk.eq⟩ zpga zRaa Tryd.func31 (zraa (by kernel_rfl) (by kernel_rfl)) (by kernel_rfl) (by kernel_rfl) (by kernel_rfl) (by kernel_rfl) (by kernel_rfl) (by kernel_rfl) fun d R K Kp => by kernel_rfl
noncomputable def zgia : List (FuncId × List FuncId × CSpec) := [(62, [], zoea)]
noncomputable def zDba : Env := { ty := envTy, eq := envEq, gam := (gamL zgia), n := Tryd.f46.ntmps }
theorem zNla : EnvFn Tryd.prog zDba := fun f gs c h => zCba (l := zgia) ⟨zEha, trivial⟩ f gs c h
structure zGba where
 f0 : List UInt8
 f14 : Int
 f15 : Int
noncomputable def zIba {R : Type} (k_ret : Bool → Option R) (k_exit_0 : Option R) (rec : zGba → Option R) (x : zGba) : Option R :=
 let v1 := decide (x.f15 < x.f14)
 cond v1
 (cond (inB x.f15 (List.length x.f0))
 (let v2 := bt x.f0 x.f15
 zmca v2 fun r3 =>
 let v4 := !r3
 cond v4
 (let v5 := v2 != (95 : Int)
 cond v5
 (let v6 := decide (v2 < (97 : Int))
 cond v6
 (k_ret false)
 (let v7 := decide (v2 > (122 : Int))
 cond v7
 (k_ret false)
 (let v8 := IntKind.i64.wrap (x.f15 + (1 : Int))
 rec ⟨x.f0, x.f14, v8⟩)))
 (let v9 := IntKind.i64.wrap (x.f15 + (1 : Int))
 rec ⟨x.f0, x.f14, v9⟩))
 (let v10 := IntKind.i64.wrap (x.f15 + (1 : Int))
 rec ⟨x.f0, x.f14, v10⟩)) none)
 (k_exit_0)
noncomputable def zHna (x : zGba) : St := St.ofList [(0, (.v .str .s x.f0)), (14, (.v (.int .i64) .s x.f14)), (15, (.v (.int .i64) .s x.f15))]
def zpla : Ex → List (Nat × Bool) | .ret => [(2, false)] | .exit 0 => [] | _ => []
def zdia : List (Nat × Bool) := [(0, false), (14, false), (15, false)]
noncomputable def zQha : Pt zGba := .s 0 (sV .str .s) fun y0 => .s 14 (sV (.int .i64) .s) fun y14 => .s 15 (sV (.int .i64) .s) fun y15 => .e ⟨y0, y14, y15⟩
noncomputable def zpja (R : Type) (K : Ex → St → Option R) : (zGba → Option R) → zGba → Option R := zIba (fun e2 => K .ret (St.ofList [(2, (.v .bool .s e2))])) (K (.exit 0) (St.ofList []))
noncomputable def zDfa : Code := match zofa 4 (body Tryd.f46.body) with | some c => c | none => .skip
noncomputable def zlea : Loops := fun z i R st K => match z, i with
 | false, 4 => lpE zdia zQha (lpL zpja K) st
 | _, _ => none
theorem znka : LStep zDba zlea inl0 zDfa zdia zpla zHna zpja := fun R K rec x => by kernel_rfl
theorem znma : zpha zDba zlea inl0 zDfa := zOba znka (p := zQha) (i := 4) (fun _ _ _ => ⟨rfl, rfl⟩) (by kernel_rfl) (fun R st K => by kernel_rfl)
theorem zula : zXaa zDba zlea inl0 (body Tryd.f46.body) := by
 refine zBaa (fun c hc => ?_) (fun c hc => ?_)
 ·rw [show zgea (body Tryd.f46.body) = [zDfa] by kernel_rfl] at hc
  simp only [List.mem_cons, List.not_mem_nil, or_false] at hc
  rcases hc with rfl
  ·exact znma
 ·rw [show zhea zDba (body Tryd.f46.body) = [] by kernel_rfl] at hc; cases hc
noncomputable def zdfa {R : Type} (a0 : List UInt8) (K : Bool → Option R) : Option R :=
 let v1 := ((List.length a0 : Nat) : Int)
 let v2 := decide (v1 < (1 : Int))
 cond v2
 (K false)
 (let v3 := ((List.length a0 : Nat) : Int)
 let v4 := decide (v3 > (16 : Int))
 cond v4
 (K false)
 (let v5 := ((List.length a0 : Nat) : Int)
 loopN (zIba (fun w6 =>
 K w6) (K true)) zvfa ⟨a0, v5, (0 : Int)⟩))
noncomputable def zQja : CSpec := { ins := [(.val .str .s)], outs := [(.bool, .s)], fn := fun (d : (List UInt8) × Unit) K _ => zdfa d.1 (fun r0 => K ((r0, ()) : Bool × Unit) ((()) : Unit)) }
theorem zPoa : Holds Tryd.prog 46 zQja := zsaa (env := zDba) (inl := inl0) (lp := zlea) (rs := [(2, none)]) (code := body Tryd.f46.body) ⟨mixed, envTyOk.ty, envTyOk.eq⟩ zNla zRaa Tryd.func46 zula (by kernel_rfl) (by kernel_rfl) (by kernel_rfl) (by kernel_rfl) (by kernel_rfl) (by kernel_rfl) fun d R K Kp => by kernel_rfl
noncomputable def zTda : List (FuncId × List FuncId × CSpec) := [(28, [], zxaa), (46, [], zQja)]
noncomputable def zJea : Env := { ty := envTy, eq := envEq, gam := (gamL zTda), n := Tryd.f33.ntmps, al := [0, 4] }
theorem zIha : EnvFn Tryd.prog zJea := fun f gs c h => zCba (l := zTda) ⟨zMaa, zPoa, trivial⟩ f gs c h
noncomputable def zdba {R : Type} (a0 : (List (List UInt8)) × (Bool) × Unit) (K : (List UInt8) → ((List (List UInt8)) × (Bool) × Unit) → Option R) : Option R :=
 zpaa a0 fun r1 b2 =>
 cond b2.2.1
 (K r1 (b2.1, (true, b2.2.2)))
 (zdfa r1 fun r3 =>
 let v4 := !r3
 K r1 (b2.1, (v4, b2.2.2)))
noncomputable def zZea : CSpec := { ins := [(.ref (.pair (.sl 9 .str) (.pair .bool .unit)) .s .s)], outs := [(.str, .s)], fn := fun (d : ((List (List UInt8)) × (Bool) × Unit) × Unit) K _ => zdba d.1 (fun r0 b0 => K ((r0, ()) : (List UInt8) × Unit) ((b0, ()) : ((List (List UInt8)) × (Bool) × Unit) × Unit)) }
theorem zika : Holds Tryd.prog 33 zZea := zsaa (env := zJea) (inl := inl0) (lp := lp0) (rs := [(2, none)]) (code := body Tryd.f33.body) ⟨mixed, envTyOk.ty, envTyOk.eq⟩ zIha zRaa Tryd.func33 (zraa (by kernel_rfl) (by kernel_rfl)) (by kernel_rfl) (by kernel_rfl) (by kernel_rfl) (by kernel_rfl) (by kernel_rfl) (by kernel_rfl) fun d R K Kp => by kernel_rfl
noncomputable def zNja : List (FuncId × List FuncId × CSpec) := [(28, [], zxaa), (29, [], zMca), (30, [], zKea), (31, [], zXda), (32, [], ziba), (33, [], zZea), (34, [], zcca), (35, [], zUaa)]
noncomputable def zspa : Nat → Bool
 | 19 => true
 | _ => false
noncomputable def zppa : Nat → Option (List Nat)
 | 0 => some [0]
 | 1 => some [0, 2]
 | 2 => some [2, 4]
 | 3 => some [2, 4, 5]
 | 4 => some [2]
 | 5 => some [2, 4, 5, 10]
 | 6 => some [2, 4, 5]
 | 7 => some [2, 4, 5, 10]
 | 8 => some [2, 4, 5]
 | 9 => some [2, 4, 5, 10]
 | 10 => some [2, 4, 5]
 | 11 => some [2, 4, 5, 10]
 | 12 => some [2, 4, 5]
 | 13 => some [2, 4, 5, 10]
 | 14 => some [2, 4, 5]
 | 15 => some [2, 4, 5, 10]
 | 16 => some [2, 4, 5]
 | 17 => some [2, 4, 5, 10]
 | 18 => some [2, 4, 5]
 | 19 => some [2, 4, 5]
 | _ => none
noncomputable def zqca : Env := { ty := envTy, eq := envEq, gam := (gamL zNja), n := Tryd.f16.ntmps, js := zspa, lv := zppa, al := [55, 56] }
theorem zyna : EnvFn Tryd.prog zqca := fun f gs c h => zCba (l := zNja) ⟨zMaa, zcga, zBja, zYia, zica, zika, zFea, zPba, trivial⟩ f gs c h
structure zrea where
 f2 : (Int) × It3
 f4 : (List (List UInt8)) × (Bool) × Unit
 f5 : (Int) × It3
noncomputable def ztea {R : Type} (k_normal : ((Int) × It3) → ((List (List UInt8)) × (Bool) × Unit) → ((Int) × It3) → Option R) (k_ret : ((Int) × It3) → Bool → Option R) (x : zrea) : Option R :=
 zpaa x.f4 fun r1 b2 =>
 let v3 := r1 == ([98, 121, 116, 101, 115] : List UInt8)
 cond v3
 (zyaa b2 fun r4 b5 =>
 k_normal x.f2 b5 ((1 : Int), (r4, (((0 : Int), (false, ((0 : Int), ((0 : Int), (false, ((0 : Int), ())))))), ((false, (false, (([] : List (Int)), ((0 : Int), (([] : List (Int)), ()))))), (([] : List UInt8), (([] : List (Int)), ((0 : Int), ((0 : Int), ((0 : Int), ()))))))))))
 (let v6 := r1 == ([103, 105, 118, 101] : List UInt8)
 cond v6
 (zzba b2 fun r7 b8 =>
 k_normal x.f2 b8 ((2 : Int), (([] : List (Int)), (r7, ((false, (false, (([] : List (Int)), ((0 : Int), (([] : List (Int)), ()))))), (([] : List UInt8), (([] : List (Int)), ((0 : Int), ((0 : Int), ((0 : Int), ()))))))))))
 (let v9 := r1 == ([99, 104, 111, 105, 99, 101] : List UInt8)
 cond v9
 (ztba b2 fun r10 b11 =>
 k_normal x.f2 b11 ((3 : Int), (([] : List (Int)), (((0 : Int), (false, ((0 : Int), ((0 : Int), (false, ((0 : Int), ())))))), (r10, (([] : List UInt8), (([] : List (Int)), ((0 : Int), ((0 : Int), ((0 : Int), ()))))))))))
 (let v12 := r1 == ([111, 112, 101, 110] : List UInt8)
 cond v12
 (zbaa b2 fun r13 b14 =>
 k_normal x.f2 b14 ((4 : Int), (([] : List (Int)), (((0 : Int), (false, ((0 : Int), ((0 : Int), (false, ((0 : Int), ())))))), ((false, (false, (([] : List (Int)), ((0 : Int), (([] : List (Int)), ()))))), (([] : List UInt8), (([] : List (Int)), (r13, ((0 : Int), ((0 : Int), ()))))))))))
 (let v15 := r1 == ([99, 97, 108, 108] : List UInt8)
 cond v15
 (zdba b2 fun r16 b17 =>
 zbaa b17 fun r18 b19 =>
 zPaa b19 fun r20 b21 =>
 k_normal x.f2 b21 ((5 : Int), (([] : List (Int)), (((0 : Int), (false, ((0 : Int), ((0 : Int), (false, ((0 : Int), ())))))), ((false, (false, (([] : List (Int)), ((0 : Int), (([] : List (Int)), ()))))), (r16, (r20, (r18, ((0 : Int), ((0 : Int), ()))))))))))
 (let v22 := r1 == ([114, 101, 97, 100] : List UInt8)
 cond v22
 (zdba b2 fun r23 b24 =>
 k_normal x.f2 b24 ((6 : Int), (([] : List (Int)), (((0 : Int), (false, ((0 : Int), ((0 : Int), (false, ((0 : Int), ())))))), ((false, (false, (([] : List (Int)), ((0 : Int), (([] : List (Int)), ()))))), (r23, (([] : List (Int)), ((0 : Int), ((0 : Int), ((0 : Int), ()))))))))))
 (let v25 := r1 == ([112, 101, 101, 107] : List UInt8)
 cond v25
 (zbaa b2 fun r26 b27 =>
 zbaa b27 fun r28 b29 =>
 k_normal x.f2 b29 ((7 : Int), (([] : List (Int)), (((0 : Int), (false, ((0 : Int), ((0 : Int), (false, ((0 : Int), ())))))), ((false, (false, (([] : List (Int)), ((0 : Int), (([] : List (Int)), ()))))), (([] : List UInt8), (([] : List (Int)), ((0 : Int), (r26, (r28, ()))))))))))
 (k_ret ((0 : Int), (([] : List (Int)), (((0 : Int), (false, ((0 : Int), ((0 : Int), (false, ((0 : Int), ())))))), ((false, (false, (([] : List (Int)), ((0 : Int), (([] : List (Int)), ()))))), (([] : List UInt8), (([] : List (Int)), ((0 : Int), ((0 : Int), ((0 : Int), ()))))))))) false)))))))
noncomputable def zhoa (x : zrea) : St := St.ofList [(2, (.v (.ptr 43 (.pair (.int .i64) (.pair (.sl 5 (.int .u8)) Ty5))) (.o (.p .s (.p (.o .s) (.p .s (.p (.p .s (.p .s (.p (.o .s) (.p .s (.p (.o .s) .s))))) (.p .s (.p (.o .s) .s))))))) (some x.f2))), (4, (.v (.ptr 71 (.pair (.sl 9 .str) (.pair .bool .unit))) (.o .s) (some x.f4))), (5, (.v (.ptr 43 (.pair (.int .i64) (.pair (.sl 5 (.int .u8)) Ty5))) (.o (.p .s (.p (.o .s) (.p .s (.p (.p .s (.p .s (.p (.o .s) (.p .s (.p (.o .s) .s))))) (.p .s (.p (.o .s) .s))))))) (some x.f5)))]
def zwma : Ex → List (Nat × Bool) | .normal => [(2, false), (4, false), (5, false)] | .ret => [(2, false), (3, false)] | _ => []
def zVha : List (Nat × Bool) := [(2, false), (4, false), (5, false)]
noncomputable def zTha : Pt zrea := .s 2 (sP 43 (.pair (.int .i64) (.pair (.sl 5 (.int .u8)) Ty5)) (.o (.p .s (.p (.o .s) (.p .s (.p (.p .s (.p .s (.p (.o .s) (.p .s (.p (.o .s) .s))))) (.p .s (.p (.o .s) .s)))))))) fun y2 => .s 4 (sP 71 (.pair (.sl 9 .str) (.pair .bool .unit)) (.o .s)) fun y4 => .s 5 (sP 43 (.pair (.int .i64) (.pair (.sl 5 (.int .u8)) Ty5)) (.o (.p .s (.p (.o .s) (.p .s (.p (.p .s (.p .s (.p (.o .s) (.p .s (.p (.o .s) .s))))) (.p .s (.p (.o .s) .s)))))))) fun y5 => .e ⟨y2, y4, y5⟩
noncomputable def zRia (R : Type) (K : Ex → St → Option R) : zrea → Option R := ztea (fun e2 e4 e5 => K .normal (St.ofList [(2, (.v (.ptr 43 (.pair (.int .i64) (.pair (.sl 5 (.int .u8)) Ty5))) (.o (.p .s (.p (.o .s) (.p .s (.p (.p .s (.p .s (.p (.o .s) (.p .s (.p (.o .s) .s))))) (.p .s (.p (.o .s) .s))))))) (some e2))), (4, (.v (.ptr 71 (.pair (.sl 9 .str) (.pair .bool .unit))) (.o .s) (some e4))), (5, (.v (.ptr 43 (.pair (.int .i64) (.pair (.sl 5 (.int .u8)) Ty5))) (.o (.p .s (.p (.o .s) (.p .s (.p (.p .s (.p .s (.p (.o .s) (.p .s (.p (.o .s) .s))))) (.p .s (.p (.o .s) .s))))))) (some e5)))])) (fun e2 e3 => K .ret (St.ofList [(2, (.v (.ptr 43 (.pair (.int .i64) (.pair (.sl 5 (.int .u8)) Ty5))) (.o (.p .s (.p (.o .s) (.p .s (.p (.p .s (.p .s (.p (.o .s) (.p .s (.p (.o .s) .s))))) (.p .s (.p (.o .s) .s))))))) (some e2))), (3, (.v .bool .s e3))]))
noncomputable def zlga : Code := match joinC 19 (body Tryd.f16.body) with | some c => c | none => .skip
noncomputable def zRfa : Loops := fun z i R st K => match z, i with
 | true, 19 => lpE zVha zTha (zRia R K) st
 | _, _ => none
theorem zDka : JStep zqca zRfa inl0 zlga zwma zhoa zRia := fun R K x => by kernel_rfl
theorem zyma : zOfa zqca zRfa inl0 zlga 19 := zhba (hd := zVha) zDka (p := zTha) (fun _ _ _ => ⟨rfl, rfl⟩) (fun R st K => by kernel_rfl)
theorem zsna : zXaa zqca zRfa inl0 (body Tryd.f16.body) := by
 refine zBaa (fun c hc => ?_) (fun c hc => ?_)
 ·rw [show zgea (body Tryd.f16.body) = [] by kernel_rfl] at hc; cases hc
 ·rw [show zhea zqca (body Tryd.f16.body) = [(zlga, 19)] by kernel_rfl] at hc
  simp only [List.mem_cons, List.not_mem_nil, or_false] at hc
  rcases hc with rfl
  ·exact zyma
noncomputable def zdea {R : Type} (a0 : List (List UInt8)) (K : ((Int) × It3) → Bool → Option R) : Option R :=
 ztea (fun w1 w2 w3 =>
 both
 (let v4 := !w2.2.1
 cond v4
 (zgaa w2 fun r5 b6 =>
 let v7 := !r5
 K w3 v7)
 (K w3 false))
 (let v8 := !w2.2.1
 cond v8
 (both
 (zgaa w2 fun r9 b10 =>
 let v11 := !r9
 K w3 v11)
 (zgaa w2 fun r12 b13 =>
 let v14 := !r12
 K w3 v14))
 (both
 (K w3 false)
 (K w3 false)))) (fun w15 w16 =>
 K w15 w16) ⟨((0 : Int), (([] : List (Int)), (((0 : Int), (false, ((0 : Int), ((0 : Int), (false, ((0 : Int), ())))))), ((false, (false, (([] : List (Int)), ((0 : Int), (([] : List (Int)), ()))))), (([] : List UInt8), (([] : List (Int)), ((0 : Int), ((0 : Int), ((0 : Int), ()))))))))), (a0, (false, ())), ((0 : Int), (([] : List (Int)), (((0 : Int), (false, ((0 : Int), ((0 : Int), (false, ((0 : Int), ())))))), ((false, (false, (([] : List (Int)), ((0 : Int), (([] : List (Int)), ()))))), (([] : List UInt8), (([] : List (Int)), ((0 : Int), ((0 : Int), ((0 : Int), ())))))))))⟩
noncomputable def zZla : CSpec := { ins := [(.val (.sl 9 .str) .s)], outs := [((.pair (.int .i64) (.pair (.sl 5 (.int .u8)) Ty5)), (.p .s (.p (.o .s) (.p .s (.p (.p .s (.p .s (.p (.o .s) (.p .s (.p (.o .s) .s))))) (.p .s (.p (.o .s) .s))))))), (.bool, .s)], fn := fun (d : (List (List UInt8)) × Unit) K _ => zdea d.1 (fun r0 r1 => K ((r0, r1, ()) : ((Int) × It3) × Bool × Unit) ((()) : Unit)) }
theorem znqa : Holds Tryd.prog 16 zZla := zsaa (env := zqca) (inl := inl0) (lp := zRfa) (rs := [(2, some 43), (3, none)]) (code := body Tryd.f16.body) ⟨mixed, envTyOk.ty, envTyOk.eq⟩ zyna zRaa Tryd.func16 zsna (by kernel_rfl) (by kernel_rfl) (by kernel_rfl) (by kernel_rfl) (by kernel_rfl) (by kernel_rfl) fun d R K Kp => by kernel_rfl
noncomputable abbrev zPda {R : Type} (a0 : List UInt8) (K : List (List UInt8) → Option R) : Option R := zyka a0 K
noncomputable abbrev zxda : CSpec := zGpa
theorem ztia : Holds Tryd.prog 14 zxda := zTta
noncomputable def zhia : List (FuncId × List FuncId × CSpec) := [(13, [], zkja), (14, [15], zxda), (16, [], zZla)]
noncomputable def zboa : Nat → Bool
 | 9 => true
 | _ => false
noncomputable def zEba : Env := { ty := envTy, eq := envEq, gam := (gamL zhia), n := Tryd.f8.ntmps, fs := zboa }
theorem zOla : EnvFn Tryd.prog zEba := fun f gs c h => zCba (l := zhia) ⟨zZna, ztia, znqa, trivial⟩ f gs c h
structure zFaa where
 f5 : List ((Int) × It3)
 f12 : List (List UInt8)
 f13 : Int
 f14 : Int
noncomputable def zNda {R : Type} (k_ret : (List ((Int) × It3)) → Int → Int → Option R) (k_exit_0 : (List ((Int) × It3)) → Option R) (rec : zFaa → Option R) (x : zFaa) : Option R :=
 let v1 := decide (x.f14 < x.f13)
 cond v1
 (cond (inB x.f14 (List.length x.f12))
 (let v2 := (List.getD x.f12 x.f14.toNat ([] : List UInt8))
 let v3 := decide (x.f14 ≥ (256 : Int))
 cond v3
 (let v4 := IntKind.i64.wrap (x.f14 + (1 : Int))
 k_ret ([] : List ((Int) × It3)) (4 : Int) v4)
 (let v5 := ((List.length v2 : Nat) : Int)
 let v6 := decide (v5 > (512 : Int))
 cond v6
 (let v7 := IntKind.i64.wrap (x.f14 + (1 : Int))
 k_ret ([] : List ((Int) × It3)) (4 : Int) v7)
 (zPda v2 fun r8 =>
 let v9 := ((List.length r8 : Nat) : Int)
 let v10 := v9 == (0 : Int)
 cond v10
 (let v11 := IntKind.i64.wrap (x.f14 + (1 : Int))
 rec ⟨x.f5, x.f12, x.f13, v11⟩)
 (cond (inB (0 : Int) (List.length r8))
 (let v12 := (List.getD r8 (0 : Int).toNat ([] : List UInt8))
 cond (inB (0 : Int) (List.length v12))
 (let v13 := bt v12 (0 : Int)
 let v14 := v13 == (35 : Int)
 cond v14
 (let v15 := IntKind.i64.wrap (x.f14 + (1 : Int))
 rec ⟨x.f5, x.f12, x.f13, v15⟩)
 (zdea r8 fun r16 r17 =>
 let v18 := !r17
 cond v18
 (let v19 := IntKind.i64.wrap (x.f14 + (1 : Int))
 k_ret ([] : List ((Int) × It3)) (2 : Int) v19)
 (let v20 := List.set (List.replicate 1 ((0 : Int), (([] : List (Int)), (((0 : Int), (false, ((0 : Int), ((0 : Int), (false, ((0 : Int), ())))))), ((false, (false, (([] : List (Int)), ((0 : Int), (([] : List (Int)), ()))))), (([] : List UInt8), (([] : List (Int)), ((0 : Int), ((0 : Int), ((0 : Int), ())))))))))) 0 r16
 cond (decide (List.length x.f5 + List.length v20 ≤ most))
 (let v21 := x.f5 ++ v20
 let v22 := IntKind.i64.wrap (x.f14 + (1 : Int))
 rec ⟨v21, x.f12, x.f13, v22⟩) none))) none) none)))) none)
 (k_exit_0 x.f5)
noncomputable def zIna (x : zFaa) : St := St.ofList [(5, (.v (.sl 43 (.pair (.int .i64) (.pair (.sl 5 (.int .u8)) Ty5))) (.o .s) x.f5)), (12, (.v (.sl 9 .str) (.o .s) x.f12)), (13, (.v (.int .i64) .s x.f13)), (14, (.v (.int .i64) .s x.f14))]
def zqla : Ex → List (Nat × Bool) | .ret => [(2, false), (3, false), (4, false)] | .exit 0 => [(5, false)] | _ => []
def zeia : List (Nat × Bool) := [(5, false), (12, false), (13, false), (14, false)]
noncomputable def zRha : Pt zFaa := .s 5 (sV (.sl 43 (.pair (.int .i64) (.pair (.sl 5 (.int .u8)) Ty5))) (.o .s)) fun y5 => .s 12 (sV (.sl 9 .str) (.o .s)) fun y12 => .s 13 (sV (.int .i64) .s) fun y13 => .s 14 (sV (.int .i64) .s) fun y14 => .e ⟨y5, y12, y13, y14⟩
noncomputable def zqja (R : Type) (K : Ex → St → Option R) : (zFaa → Option R) → zFaa → Option R := zNda (fun e2 e3 e4 => K .ret (St.ofList [(2, (.v (.sl 43 (.pair (.int .i64) (.pair (.sl 5 (.int .u8)) Ty5))) (.o .s) e2)), (3, (.v (.int .i64) .s e3)), (4, (.v (.int .i64) .s e4))])) (fun e5 => K (.exit 0) (St.ofList [(5, (.v (.sl 43 (.pair (.int .i64) (.pair (.sl 5 (.int .u8)) Ty5))) (.o .s) e5))]))
noncomputable def zEfa : Code := match zofa 3 (body Tryd.f8.body) with | some c => c | none => .skip
noncomputable def zmea : Loops := fun z i R st K => match z, i with
 | false, 3 => lpE zeia zRha (lpL zqja K) st
 | _, _ => none
theorem zoka : LStep zEba zmea inl0 zEfa zeia zqla zIna zqja := fun R K rec x => by kernel_rfl
theorem zoma : zpha zEba zmea inl0 zEfa := zOba zoka (p := zRha) (i := 3) (fun _ _ _ _ => ⟨rfl, rfl⟩) (by kernel_rfl) (fun R st K => by kernel_rfl)
theorem zvla : zXaa zEba zmea inl0 (body Tryd.f8.body) := by
 refine zBaa (fun c hc => ?_) (fun c hc => ?_)
 ·rw [show zgea (body Tryd.f8.body) = [zEfa] by kernel_rfl] at hc
  simp only [List.mem_cons, List.not_mem_nil, or_false] at hc
  rcases hc with rfl
  ·exact zoma
 ·rw [show zhea zEba (body Tryd.f8.body) = [] by kernel_rfl] at hc; cases hc
noncomputable def zLba {R : Type} (a0 : List UInt8) (K : (List ((Int) × It3)) → Int → Int → Option R) : Option R :=
 zTna a0 ([10] : List UInt8) fun r1 =>
 let v2 := ((List.length r1 : Nat) : Int)
 loopN (zNda (fun w3 w4 w5 =>
 K w3 w4 w5) (fun w6 =>
 K w6 (0 : Int) (0 : Int))) zvfa ⟨([] : List ((Int) × It3)), r1, v2, (0 : Int)⟩
noncomputable def zpea : CSpec := { ins := [(.val .str .s)], outs := [((.sl 43 (.pair (.int .i64) (.pair (.sl 5 (.int .u8)) Ty5))), (.o .s)), ((.int .i64), .s), ((.int .i64), .s)], fn := fun (d : (List UInt8) × Unit) K _ => zLba d.1 (fun r0 r1 r2 => K ((r0, r1, r2, ()) : (List ((Int) × It3)) × Int × Int × Unit) ((()) : Unit)) }
theorem zFha : Holds Tryd.prog 8 zpea := zsaa (env := zEba) (inl := inl0) (lp := zmea) (rs := [(2, none), (3, none), (4, none)]) (code := body Tryd.f8.body) ⟨mixed, envTyOk.ty, envTyOk.eq⟩ zOla zRaa Tryd.func8 zvla (by kernel_rfl) (by kernel_rfl) (by kernel_rfl) (by kernel_rfl) (by kernel_rfl) (by kernel_rfl) fun d R K Kp => by kernel_rfl
noncomputable def zdja : List (FuncId × List FuncId × CSpec) := [(8, [], zpea)]
noncomputable def zPja : Env := { ty := envTy, eq := envEq, gam := (gamL zdja), n := Tryd.f7.ntmps }
theorem zDma : EnvFn Tryd.prog zPja := fun f gs c h => zCba (l := zdja) ⟨zFha, trivial⟩ f gs c h
noncomputable def zAea {R : Type}  (K : Bool → Option R) : Option R :=
 zLba ([99, 97, 108, 108, 32, 102, 32, 49, 48, 48, 32, 53, 32, 55, 10] : List UInt8) fun r1 r2 r3 =>
 let v4 := r2 == (0 : Int)
 cond v4
 (let v5 := ((List.length r1 : Nat) : Int)
 let v6 := v5 == (1 : Int)
 cond v6
 (cond (inB (0 : Int) (List.length r1))
 (let v7 := (((((List.getD r1 (0 : Int).toNat ((0 : Int), (([] : List (Int)), (((0 : Int), (false, ((0 : Int), ((0 : Int), (false, ((0 : Int), ())))))), ((false, (false, (([] : List (Int)), ((0 : Int), (([] : List (Int)), ()))))), (([] : List UInt8), (([] : List (Int)), ((0 : Int), ((0 : Int), ((0 : Int), ())))))))))).2).2).2).2).1
 let v8 := v7 == ([102] : List UInt8)
 cond v8
 (cond (inB (0 : Int) (List.length r1))
 (let v9 := (((((((List.getD r1 (0 : Int).toNat ((0 : Int), (([] : List (Int)), (((0 : Int), (false, ((0 : Int), ((0 : Int), (false, ((0 : Int), ())))))), ((false, (false, (([] : List (Int)), ((0 : Int), (([] : List (Int)), ()))))), (([] : List UInt8), (([] : List (Int)), ((0 : Int), ((0 : Int), ((0 : Int), ())))))))))).2).2).2).2).2).2).1
 let v10 := v9 == (100 : Int)
 cond v10
 (cond (inB (0 : Int) (List.length r1))
 (let v11 := ((((((List.getD r1 (0 : Int).toNat ((0 : Int), (([] : List (Int)), (((0 : Int), (false, ((0 : Int), ((0 : Int), (false, ((0 : Int), ())))))), ((false, (false, (([] : List (Int)), ((0 : Int), (([] : List (Int)), ()))))), (([] : List UInt8), (([] : List (Int)), ((0 : Int), ((0 : Int), ((0 : Int), ())))))))))).2).2).2).2).2).1
 let v12 := ((List.length v11 : Nat) : Int)
 let v13 := v12 == (2 : Int)
 cond v13
 (cond (inB (0 : Int) (List.length r1))
 (let v14 := ((((((List.getD r1 (0 : Int).toNat ((0 : Int), (([] : List (Int)), (((0 : Int), (false, ((0 : Int), ((0 : Int), (false, ((0 : Int), ())))))), ((false, (false, (([] : List (Int)), ((0 : Int), (([] : List (Int)), ()))))), (([] : List UInt8), (([] : List (Int)), ((0 : Int), ((0 : Int), ((0 : Int), ())))))))))).2).2).2).2).2).1
 cond (inB (1 : Int) (List.length v14))
 (let v15 := List.getD v14 (1 : Int).toNat (0 : Int)
 let v16 := v15 == (7 : Int)
 K v16) none) none)
 (K false)) none)
 (K false)) none)
 (K false)) none)
 (K false))
 (K false)
noncomputable def zMha : CSpec := { ins := [], outs := [(.bool, .s)], fn := fun (d : Unit) K _ => zAea  (fun r0 => K ((r0, ()) : Bool × Unit) ((()) : Unit)) }
theorem zYla : Holds Tryd.prog 7 zMha := zsaa (env := zPja) (inl := inl0) (lp := lp0) (rs := [(0, none)]) (code := body Tryd.f7.body) ⟨mixed, envTyOk.ty, envTyOk.eq⟩ zDma zRaa Tryd.func7 (zraa (by kernel_rfl) (by kernel_rfl)) (by kernel_rfl) (by kernel_rfl) (by kernel_rfl) (by kernel_rfl) (by kernel_rfl) (by kernel_rfl) fun d R K Kp => by kernel_rfl
noncomputable def zDca : Env := { ty := envTy, eq := envEq, gam := noG, n := Tryd.f17.ntmps }
structure zTba where
 f0 : List UInt8
 f3 : List (List UInt8)
 f4 : List UInt8
 f5 : Int
noncomputable def zDaa {R : Type} (k_exit_0 : (List (List UInt8)) → Option R) (rec : zTba → Option R) (x : zTba) : Option R :=
 let v1 := ((List.length x.f0 : Nat) : Int)
 let v2 := decide (x.f5 ≤ v1)
 cond v2
 (let v3 := ((List.length x.f0 : Nat) : Int)
 let v4 := decide (x.f5 < v3)
 cond v4
 (cond (inB x.f5 (List.length x.f0))
 (let v5 := bt x.f0 x.f5
 let v6 := v5 != (32 : Int)
 cond v6
 (let v7 := IntKind.i64.wrap (x.f5 + (1 : Int))
 cond (inR x.f5 v7 (List.length x.f0))
 (let v8 := rng x.f0 x.f5 v7
 cond (decide (x.f4.length + v8.length ≤ most))
 (let v9 := x.f4 ++ v8
 let v10 := IntKind.i64.wrap (x.f5 + (1 : Int))
 rec ⟨x.f0, x.f3, v9, v10⟩) none) none)
 (let v11 := !(x.f4 == ([] : List UInt8))
 cond v11
 (let v12 := List.set (List.replicate 1 ([] : List UInt8)) 0 x.f4
 cond (decide (List.length x.f3 + List.length v12 ≤ most))
 (let v13 := x.f3 ++ v12
 let v14 := IntKind.i64.wrap (x.f5 + (1 : Int))
 rec ⟨x.f0, v13, ([] : List UInt8), v14⟩) none)
 (let v15 := IntKind.i64.wrap (x.f5 + (1 : Int))
 rec ⟨x.f0, x.f3, ([] : List UInt8), v15⟩))) none)
 (let v16 := !(x.f4 == ([] : List UInt8))
 cond v16
 (let v17 := List.set (List.replicate 1 ([] : List UInt8)) 0 x.f4
 cond (decide (List.length x.f3 + List.length v17 ≤ most))
 (let v18 := x.f3 ++ v17
 let v19 := IntKind.i64.wrap (x.f5 + (1 : Int))
 rec ⟨x.f0, v18, ([] : List UInt8), v19⟩) none)
 (let v20 := IntKind.i64.wrap (x.f5 + (1 : Int))
 rec ⟨x.f0, x.f3, ([] : List UInt8), v20⟩)))
 (k_exit_0 x.f3)
noncomputable def zcoa (x : zTba) : St := St.ofList [(0, (.v .str .s x.f0)), (3, (.v (.sl 9 .str) (.o .s) x.f3)), (4, (.v .str .s x.f4)), (5, (.v (.int .i64) .s x.f5))]
def zima : Ex → List (Nat × Bool) | .exit 0 => [(3, false)] | _ => []
def zTia : List (Nat × Bool) := [(0, false), (3, false), (4, false), (5, false)]
noncomputable def zGia : Pt zTba := .s 0 (sV .str .s) fun y0 => .s 3 (sV (.sl 9 .str) (.o .s)) fun y3 => .s 4 (sV .str .s) fun y4 => .s 5 (sV (.int .i64) .s) fun y5 => .e ⟨y0, y3, y4, y5⟩
noncomputable def zSja (R : Type) (K : Ex → St → Option R) : (zTba → Option R) → zTba → Option R := zDaa (fun e3 => K (.exit 0) (St.ofList [(3, (.v (.sl 9 .str) (.o .s) e3))]))
noncomputable def zrga : Code := match zofa 4 (body Tryd.f17.body) with | some c => c | none => .skip
noncomputable def zffa : Loops := fun z i R st K => match z, i with
 | false, 4 => lpE zTia zGia (lpL zSja K) st
 | _, _ => none
theorem zgla : LStep zDca zffa inl0 zrga zTia zima zcoa zSja := fun R K rec x => by kernel_rfl
theorem zlna : zpha zDca zffa inl0 zrga := zOba zgla (p := zGia) (i := 4) (fun _ _ _ _ => ⟨rfl, rfl⟩) (by kernel_rfl) (fun R st K => by kernel_rfl)
theorem zqma : zXaa zDca zffa inl0 (body Tryd.f17.body) := by
 refine zBaa (fun c hc => ?_) (fun c hc => ?_)
 ·rw [show zgea (body Tryd.f17.body) = [zrga] by kernel_rfl] at hc
  simp only [List.mem_cons, List.not_mem_nil, or_false] at hc
  rcases hc with rfl
  ·exact zlna
 ·rw [show zhea zDca (body Tryd.f17.body) = [] by kernel_rfl] at hc; cases hc
noncomputable def zQca {R : Type} (a0 : List UInt8) (K : (List (List UInt8)) → Option R) : Option R :=
 loopN (zDaa (fun w1 =>
 K w1)) zvfa ⟨a0, ([] : List (List UInt8)), ([] : List UInt8), (0 : Int)⟩
noncomputable def zTka : CSpec := { ins := [(.val .str .s)], outs := [((.sl 9 .str), (.o .s))], fn := fun (d : (List UInt8) × Unit) K _ => zQca d.1 (fun r0 => K ((r0, ()) : (List (List UInt8)) × Unit) ((()) : Unit)) }
theorem zupa : Holds Tryd.prog 17 zTka := zsaa (env := zDca) (inl := inl0) (lp := zffa) (rs := [(2, none)]) (code := body Tryd.f17.body) ⟨mixed, envTyOk.ty, envTyOk.eq⟩ (fun _ _ _ h => by cases h) zRaa Tryd.func17 zqma (by kernel_rfl) (by kernel_rfl) (by kernel_rfl) (by kernel_rfl) (by kernel_rfl) (by kernel_rfl) fun d R K Kp => by kernel_rfl
noncomputable def zToa : Env := { ty := envTy, eq := envEq, gam := noG, n := Tryd.f63.ntmps }
noncomputable def zeea {R : Type} (a0 : Int) (K : Int → Bool → Option R) : Option R :=
 let v1 := decide (a0 ≥ (48 : Int))
 cond v1
 (let v2 := decide (a0 ≤ (57 : Int))
 cond v2
 (let v3 := IntKind.u8.wrap (a0 - (48 : Int))
 K v3 true)
 (let v4 := IntKind.u8.wrap (a0 - (97 : Int))
 let v5 := IntKind.u8.wrap (v4 + (10 : Int))
 let v6 := decide (a0 ≥ (97 : Int))
 cond v6
 (let v7 := decide (a0 ≤ (102 : Int))
 K v5 v7)
 (K v5 false)))
 (let v8 := IntKind.u8.wrap (a0 - (97 : Int))
 let v9 := IntKind.u8.wrap (v8 + (10 : Int))
 let v10 := decide (a0 ≥ (97 : Int))
 cond v10
 (let v11 := decide (a0 ≤ (102 : Int))
 K v9 v11)
 (K v9 false))
noncomputable def zama : CSpec := { ins := [(.val (.int .u8) .s)], outs := [((.int .u8), .s), (.bool, .s)], fn := fun (d : Int × Unit) K _ => zeea d.1 (fun r0 r1 => K ((r0, r1, ()) : Int × Bool × Unit) ((()) : Unit)) }
theorem zoqa : Holds Tryd.prog 63 zama := zsaa (env := zToa) (inl := inl0) (lp := lp0) (rs := [(2, none), (3, none)]) (code := body Tryd.f63.body) ⟨mixed, envTyOk.ty, envTyOk.eq⟩ (fun _ _ _ h => by cases h) zRaa Tryd.func63 (zraa (by kernel_rfl) (by kernel_rfl)) (by kernel_rfl) (by kernel_rfl) (by kernel_rfl) (by kernel_rfl) (by kernel_rfl) (by kernel_rfl) fun d R K Kp => by kernel_rfl
noncomputable def zaja : List (FuncId × List FuncId × CSpec) := [(63, [], zama)]
noncomputable def zRba : Env := { ty := envTy, eq := envEq, gam := (gamL zaja), n := Tryd.f36.ntmps }
theorem zAma : EnvFn Tryd.prog zRba := fun f gs c h => zCba (l := zaja) ⟨zoqa, trivial⟩ f gs c h
structure zVba where
 f0 : List UInt8
 f4 : List (Int)
 f5 : Int
noncomputable def zaba {R : Type} (k_ret : (List (Int)) → Bool → Option R) (k_exit_0 : (List UInt8) → (List (Int)) → Option R) (rec : zVba → Option R) (x : zVba) : Option R :=
 let v1 := IntKind.i64.wrap (x.f5 + (1 : Int))
 let v2 := ((List.length x.f0 : Nat) : Int)
 let v3 := decide (v1 < v2)
 cond v3
 (cond (inB x.f5 (List.length x.f0))
 (let v4 := bt x.f0 x.f5
 zeea v4 fun r5 r6 =>
 let v7 := IntKind.i64.wrap (x.f5 + (1 : Int))
 cond (inB v7 (List.length x.f0))
 (let v8 := bt x.f0 v7
 zeea v8 fun r9 r10 =>
 let v11 := !r6
 cond v11
 (k_ret ([] : List (Int)) false)
 (let v12 := !r10
 cond v12
 (k_ret ([] : List (Int)) false)
 (let v13 := IntKind.u8.wrap ((16 : Int) * r5)
 let v14 := IntKind.u8.wrap (v13 + r9)
 let v15 := List.set (List.replicate 1 (0 : Int)) 0 v14
 cond (decide (List.length x.f4 + List.length v15 ≤ most))
 (let v16 := x.f4 ++ v15
 let v17 := IntKind.i64.wrap (x.f5 + (2 : Int))
 rec ⟨x.f0, v16, v17⟩) none))) none) none)
 (k_exit_0 x.f0 x.f4)
noncomputable def zeoa (x : zVba) : St := St.ofList [(0, (.v .str .s x.f0)), (4, (.v (.sl 5 (.int .u8)) (.o .s) x.f4)), (5, (.v (.int .i64) .s x.f5))]
def zkma : Ex → List (Nat × Bool) | .ret => [(2, false), (3, false)] | .exit 0 => [(0, false), (4, false)] | _ => []
def zVia : List (Nat × Bool) := [(0, false), (4, false), (5, false)]
noncomputable def zIia : Pt zVba := .s 0 (sV .str .s) fun y0 => .s 4 (sV (.sl 5 (.int .u8)) (.o .s)) fun y4 => .s 5 (sV (.int .i64) .s) fun y5 => .e ⟨y0, y4, y5⟩
noncomputable def zUja (R : Type) (K : Ex → St → Option R) : (zVba → Option R) → zVba → Option R := zaba (fun e2 e3 => K .ret (St.ofList [(2, (.v (.sl 5 (.int .u8)) (.o .s) e2)), (3, (.v .bool .s e3))])) (fun e0 e4 => K (.exit 0) (St.ofList [(0, (.v .str .s e0)), (4, (.v (.sl 5 (.int .u8)) (.o .s) e4))]))
noncomputable def ztga : Code := match zofa 3 (body Tryd.f36.body) with | some c => c | none => .skip
noncomputable def zhfa : Loops := fun z i R st K => match z, i with
 | false, 3 => lpE zVia zIia (lpL zUja K) st
 | _, _ => none
theorem zila : LStep zRba zhfa inl0 ztga zVia zkma zeoa zUja := fun R K rec x => by kernel_rfl
theorem znna : zpha zRba zhfa inl0 ztga := zOba zila (p := zIia) (i := 3) (fun _ _ _ => ⟨rfl, rfl⟩) (by kernel_rfl) (fun R st K => by kernel_rfl)
theorem zsma : zXaa zRba zhfa inl0 (body Tryd.f36.body) := by
 refine zBaa (fun c hc => ?_) (fun c hc => ?_)
 ·rw [show zgea (body Tryd.f36.body) = [ztga] by kernel_rfl] at hc
  simp only [List.mem_cons, List.not_mem_nil, or_false] at hc
  rcases hc with rfl
  ·exact znna
 ·rw [show zhea zRba (body Tryd.f36.body) = [] by kernel_rfl] at hc; cases hc
noncomputable def zuba {R : Type} (a0 : List UInt8) (K : (List (Int)) → Bool → Option R) : Option R :=
 loopN (zaba (fun w1 w2 =>
 K w1 w2) (fun w3 w4 =>
 let v5 := ((List.length w3 : Nat) : Int)
 let v6 := decide (v5 > (0 : Int))
 cond v6
 (let v7 := ((List.length w3 : Nat) : Int)
 cond ((2 : Int) != 0)
 (let v8 := Int.tmod v7 (2 : Int)
 let v9 := v8 == (0 : Int)
 K w4 v9) none)
 (K w4 false))) zvfa ⟨a0, ([] : List (Int)), (0 : Int)⟩
noncomputable def zLha : CSpec := { ins := [(.val .str .s)], outs := [((.sl 5 (.int .u8)), (.o .s)), (.bool, .s)], fn := fun (d : (List UInt8) × Unit) K _ => zuba d.1 (fun r0 r1 => K ((r0, r1, ()) : (List (Int)) × Bool × Unit) ((()) : Unit)) }
theorem zXla : Holds Tryd.prog 36 zLha := zsaa (env := zRba) (inl := inl0) (lp := zhfa) (rs := [(2, none), (3, none)]) (code := body Tryd.f36.body) ⟨mixed, envTyOk.ty, envTyOk.eq⟩ zAma zRaa Tryd.func36 zsma (by kernel_rfl) (by kernel_rfl) (by kernel_rfl) (by kernel_rfl) (by kernel_rfl) (by kernel_rfl) fun d R K Kp => by kernel_rfl
noncomputable def zEca : Env := { ty := envTy, eq := envEq, gam := noG, n := Tryd.f64.ntmps }
structure zUba where
 f0 : List UInt8
 f4 : Int
 f5 : Int
noncomputable def zZaa {R : Type} (k_ret : Int → Bool → Option R) (k_exit_0 : Int → Option R) (rec : zUba → Option R) (x : zUba) : Option R :=
 let v1 := ((List.length x.f0 : Nat) : Int)
 let v2 := decide (x.f5 < v1)
 cond v2
 (cond (inB x.f5 (List.length x.f0))
 (let v3 := bt x.f0 x.f5
 let v4 := IntKind.u64.wrap v3
 let v5 := IntKind.u64.wrap (v4 - (48 : Int))
 cond (inB x.f5 (List.length x.f0))
 (let v6 := bt x.f0 x.f5
 let v7 := decide (v6 < (48 : Int))
 cond v7
 (k_ret (0 : Int) false)
 (cond (inB x.f5 (List.length x.f0))
 (let v8 := bt x.f0 x.f5
 let v9 := decide (v8 > (57 : Int))
 cond v9
 (k_ret (0 : Int) false)
 (let v10 := IntKind.u64.wrap ((18446744073709551615 : Int) - v5)
 cond ((10 : Int) != 0)
 (let v11 := IntKind.u64.wrap (Int.tdiv v10 (10 : Int))
 let v12 := decide (x.f4 > v11)
 cond v12
 (k_ret (0 : Int) false)
 (let v13 := IntKind.u64.wrap (x.f4 * (10 : Int))
 let v14 := IntKind.u64.wrap (v13 + v5)
 let v15 := IntKind.i64.wrap (x.f5 + (1 : Int))
 rec ⟨x.f0, v14, v15⟩)) none)) none)) none) none)
 (k_exit_0 x.f4)
noncomputable def zdoa (x : zUba) : St := St.ofList [(0, (.v .str .s x.f0)), (4, (.v (.int .u64) .s x.f4)), (5, (.v (.int .i64) .s x.f5))]
def zjma : Ex → List (Nat × Bool) | .ret => [(2, false), (3, false)] | .exit 0 => [(4, false)] | _ => []
def zUia : List (Nat × Bool) := [(0, false), (4, false), (5, false)]
noncomputable def zHia : Pt zUba := .s 0 (sV .str .s) fun y0 => .s 4 (sV (.int .u64) .s) fun y4 => .s 5 (sV (.int .i64) .s) fun y5 => .e ⟨y0, y4, y5⟩
noncomputable def zTja (R : Type) (K : Ex → St → Option R) : (zUba → Option R) → zUba → Option R := zZaa (fun e2 e3 => K .ret (St.ofList [(2, (.v (.int .u64) .s e2)), (3, (.v .bool .s e3))])) (fun e4 => K (.exit 0) (St.ofList [(4, (.v (.int .u64) .s e4))]))
noncomputable def zsga : Code := match zofa 5 (body Tryd.f64.body) with | some c => c | none => .skip
noncomputable def zgfa : Loops := fun z i R st K => match z, i with
 | false, 5 => lpE zUia zHia (lpL zTja K) st
 | _, _ => none
theorem zhla : LStep zEca zgfa inl0 zsga zUia zjma zdoa zTja := fun R K rec x => by kernel_rfl
theorem zmna : zpha zEca zgfa inl0 zsga := zOba zhla (p := zHia) (i := 5) (fun _ _ _ => ⟨rfl, rfl⟩) (by kernel_rfl) (fun R st K => by kernel_rfl)
theorem zrma : zXaa zEca zgfa inl0 (body Tryd.f64.body) := by
 refine zBaa (fun c hc => ?_) (fun c hc => ?_)
 ·rw [show zgea (body Tryd.f64.body) = [zsga] by kernel_rfl] at hc
  simp only [List.mem_cons, List.not_mem_nil, or_false] at hc
  rcases hc with rfl
  ·exact zmna
 ·rw [show zhea zEca (body Tryd.f64.body) = [] by kernel_rfl] at hc; cases hc
noncomputable def zQaa {R : Type} (a0 : List UInt8) (K : Int → Bool → Option R) : Option R :=
 let v1 := a0 == ([] : List UInt8)
 cond v1
 (K (0 : Int) false)
 (let v2 := ((List.length a0 : Nat) : Int)
 let v3 := decide (v2 > (20 : Int))
 cond v3
 (K (0 : Int) false)
 (let v4 := ((List.length a0 : Nat) : Int)
 let v5 := decide (v4 > (1 : Int))
 cond v5
 (cond (inB (0 : Int) (List.length a0))
 (let v6 := bt a0 (0 : Int)
 let v7 := v6 == (48 : Int)
 cond v7
 (K (0 : Int) false)
 (loopN (zZaa (fun w8 w9 =>
 K w8 w9) (fun w10 =>
 K w10 true)) zvfa ⟨a0, (0 : Int), (0 : Int)⟩)) none)
 (loopN (zZaa (fun w11 w12 =>
 K w11 w12) (fun w13 =>
 K w13 true)) zvfa ⟨a0, (0 : Int), (0 : Int)⟩)))
noncomputable def zkfa : CSpec := { ins := [(.val .str .s)], outs := [((.int .u64), .s), (.bool, .s)], fn := fun (d : (List UInt8) × Unit) K _ => zQaa d.1 (fun r0 r1 => K ((r0, r1, ()) : Int × Bool × Unit) ((()) : Unit)) }
theorem zZia : Holds Tryd.prog 64 zkfa := zsaa (env := zEca) (inl := inl0) (lp := zgfa) (rs := [(2, none), (3, none)]) (code := body Tryd.f64.body) ⟨mixed, envTyOk.ty, envTyOk.eq⟩ (fun _ _ _ h => by cases h) zRaa Tryd.func64 zrma (by kernel_rfl) (by kernel_rfl) (by kernel_rfl) (by kernel_rfl) (by kernel_rfl) (by kernel_rfl) fun d R K Kp => by kernel_rfl
noncomputable def zjia : List (FuncId × List FuncId × CSpec) := [(64, [], zkfa)]
noncomputable def zjja : Env := { ty := envTy, eq := envEq, gam := (gamL zjia), n := Tryd.f39.ntmps }
theorem zQla : EnvFn Tryd.prog zjja := fun f gs c h => zCba (l := zjia) ⟨zZia, trivial⟩ f gs c h
noncomputable def zaaa {R : Type} (a0 : List UInt8) (K : Int → Bool → Option R) : Option R :=
 zQaa a0 fun r1 r2 =>
 let v3 := !r2
 cond v3
 (K (0 : Int) false)
 (let v4 := decide (r1 > (4294967295 : Int))
 cond v4
 (K (0 : Int) false)
 (let v5 := IntKind.i64.wrap r1
 K v5 true))
noncomputable def zqea : CSpec := { ins := [(.val .str .s)], outs := [((.int .i64), .s), (.bool, .s)], fn := fun (d : (List UInt8) × Unit) K _ => zaaa d.1 (fun r0 r1 => K ((r0, r1, ()) : Int × Bool × Unit) ((()) : Unit)) }
theorem zGha : Holds Tryd.prog 39 zqea := zsaa (env := zjja) (inl := inl0) (lp := lp0) (rs := [(2, none), (3, none)]) (code := body Tryd.f39.body) ⟨mixed, envTyOk.ty, envTyOk.eq⟩ zQla zRaa Tryd.func39 (zraa (by kernel_rfl) (by kernel_rfl)) (by kernel_rfl) (by kernel_rfl) (by kernel_rfl) (by kernel_rfl) (by kernel_rfl) (by kernel_rfl) fun d R K Kp => by kernel_rfl
noncomputable def zbja : List (FuncId × List FuncId × CSpec) := [(39, [], zqea), (64, [], zkfa)]
noncomputable def zzoa : Nat → Bool
 | 76 => true
 | _ => false
noncomputable def zMoa : Nat → Bool
 | 9 => true
 | 12 => true
 | 15 => true
 | 17 => true
 | 20 => true
 | _ => false
noncomputable def zKoa : Nat → Option (List Nat)
 | 0 => some [0]
 | 1 => some [0, 2]
 | 2 => some [0, 2, 4]
 | 3 => some [0, 2, 4]
 | 4 => some [0, 2, 4, 5, 6]
 | 5 => some [0, 2, 4, 6]
 | 6 => some [2, 4, 6]
 | 7 => some [0, 2, 4, 6]
 | 8 => some [2, 4]
 | 9 => some [0, 2, 4, 6]
 | 10 => some [2, 4, 6, 7, 8]
 | 11 => some [2, 4, 6, 8]
 | 12 => some [0, 2, 4]
 | 13 => some [0, 2, 4]
 | 14 => some [0, 2, 4]
 | 15 => some [0, 2, 4]
 | 16 => some [2, 4]
 | 17 => some [0, 2, 4]
 | 18 => some [0, 2, 4]
 | 19 => some [0, 2, 4]
 | 20 => some [0, 2, 4]
 | 21 => some [2, 4, 9, 10]
 | 22 => some [2, 4, 10]
 | _ => none
noncomputable def znaa : Env := { ty := envTy, eq := envEq, gam := (gamL zbja), n := Tryd.f37.ntmps, sb := zzoa, js := zMoa, lv := zKoa }
theorem zBma : EnvFn Tryd.prog znaa := fun f gs c h => zCba (l := zbja) ⟨zGha, zZia, trivial⟩ f gs c h
structure zsea where
 f0 : List (List UInt8)
 f2 : (Int) × (Bool) × (Int) × (Int) × (Bool) × (Int) × Unit
 f4 : (Int) × (Bool) × (Int) × (Int) × (Bool) × (Int) × Unit
 f6 : Bool
noncomputable def zuea {R : Type} (k_ret : ((Int) × (Bool) × (Int) × (Int) × (Bool) × (Int) × Unit) → Bool → Option R) (k_normal : (List (List UInt8)) → ((Int) × (Bool) × (Int) × (Int) × (Bool) × (Int) × Unit) → ((Int) × (Bool) × (Int) × (Int) × (Bool) × (Int) × Unit) → Bool → Option R) (x : zsea) : Option R :=
 let v1 := ((List.length x.f0 : Nat) : Int)
 let v2 := v1 != (4 : Int)
 cond v2
 (k_ret x.f4 false)
 (cond (inB (2 : Int) (List.length x.f0))
 (let v3 := List.getD x.f0 (2 : Int).toNat ([] : List UInt8)
 let v4 := !(v3 == ([109, 97, 120] : List UInt8))
 cond v4
 (k_ret x.f4 false)
 (k_normal x.f0 x.f2 x.f4 x.f6)) none)
noncomputable def zioa (x : zsea) : St := St.ofList [(0, (.v (.sl 9 .str) .s x.f0)), (2, (.v (.ptr 38 (.pair (.int .i64) (.pair .bool Ty0))) (.o .s) (some x.f2))), (4, (.v (.ptr 38 (.pair (.int .i64) (.pair .bool Ty0))) (.o .s) (some x.f4))), (6, (.v .bool .s x.f6))]
def zxma : Ex → List (Nat × Bool) | .ret => [(2, false), (3, false)] | .normal => [(0, false), (2, false), (4, false), (6, false)] | _ => []
def zWha : List (Nat × Bool) := [(0, false), (2, false), (4, false), (6, false)]
noncomputable def zUha : Pt zsea := .s 0 (sV (.sl 9 .str) .s) fun y0 => .s 2 (sP 38 (.pair (.int .i64) (.pair .bool Ty0)) (.o .s)) fun y2 => .s 4 (sP 38 (.pair (.int .i64) (.pair .bool Ty0)) (.o .s)) fun y4 => .s 6 (sV .bool .s) fun y6 => .e ⟨y0, y2, y4, y6⟩
noncomputable def zSia (R : Type) (K : Ex → St → Option R) : zsea → Option R := zuea (fun e2 e3 => K .ret (St.ofList [(2, (.v (.ptr 38 (.pair (.int .i64) (.pair .bool Ty0))) (.o .s) (some e2))), (3, (.v .bool .s e3))])) (fun e0 e2 e4 e6 => K .normal (St.ofList [(0, (.v (.sl 9 .str) .s e0)), (2, (.v (.ptr 38 (.pair (.int .i64) (.pair .bool Ty0))) (.o .s) (some e2))), (4, (.v (.ptr 38 (.pair (.int .i64) (.pair .bool Ty0))) (.o .s) (some e4))), (6, (.v .bool .s e6))]))
noncomputable def zmga : Code := match joinC 9 (body Tryd.f37.body) with | some c => c | none => .skip
structure zEda where
 f0 : List (List UInt8)
 f2 : (Int) × (Bool) × (Int) × (Int) × (Bool) × (Int) × Unit
 f4 : (Int) × (Bool) × (Int) × (Int) × (Bool) × (Int) × Unit
noncomputable def zJda {R : Type} (k_ret : ((Int) × (Bool) × (Int) × (Int) × (Bool) × (Int) × Unit) → Bool → Option R) (k_normal : (List (List UInt8)) → ((Int) × (Bool) × (Int) × (Int) × (Bool) × (Int) × Unit) → ((Int) × (Bool) × (Int) × (Int) × (Bool) × (Int) × Unit) → Option R) (x : zEda) : Option R :=
 let v1 := ((List.length x.f0 : Nat) : Int)
 let v2 := decide (v1 ≥ (2 : Int))
 cond v2
 (cond (inB (0 : Int) (List.length x.f0))
 (let v3 := List.getD x.f0 (0 : Int).toNat ([] : List UInt8)
 let v4 := v3 == ([116, 97, 98, 108, 101] : List UInt8)
 cond v4
 (cond (inB (1 : Int) (List.length x.f0))
 (let v5 := List.getD x.f0 (1 : Int).toNat ([] : List UInt8)
 zaaa v5 fun r6 r7 =>
 let v8 := ((List.length x.f0 : Nat) : Int)
 let v9 := v8 == (2 : Int)
 cond v9
 (k_ret (r6, x.f4.2) r7)
 (zuea (fun w10 w11 =>
 k_ret w10 w11) (fun w12 w13 w14 w15 =>
 cond (inB (3 : Int) (List.length w12))
 (let v16 := List.getD w12 (3 : Int).toNat ([] : List UInt8)
 zaaa v16 fun r17 r18 =>
 cond w15
 (k_ret (w14.1, (true, (r17, w14.2.2.2))) r18)
 (k_ret (w14.1, (true, (r17, w14.2.2.2))) false)) none) ⟨x.f0, x.f2, (r6, x.f4.2), r7⟩)) none)
 (cond (inB (0 : Int) (List.length x.f0))
 (let v19 := List.getD x.f0 (0 : Int).toNat ([] : List UInt8)
 let v20 := v19 == ([109, 101, 109, 111, 114, 121] : List UInt8)
 cond v20
 (cond (inB (1 : Int) (List.length x.f0))
 (let v21 := List.getD x.f0 (1 : Int).toNat ([] : List UInt8)
 zaaa v21 fun r22 r23 =>
 let v24 := ((List.length x.f0 : Nat) : Int)
 let v25 := v24 == (2 : Int)
 cond v25
 (k_ret (r22, x.f4.2) r23)
 (zuea (fun w26 w27 =>
 k_ret w26 w27) (fun w28 w29 w30 w31 =>
 cond (inB (3 : Int) (List.length w28))
 (let v32 := List.getD w28 (3 : Int).toNat ([] : List UInt8)
 zaaa v32 fun r33 r34 =>
 cond w31
 (k_ret (w30.1, (true, (r33, w30.2.2.2))) r34)
 (k_ret (w30.1, (true, (r33, w30.2.2.2))) false)) none) ⟨x.f0, x.f2, (r22, x.f4.2), r23⟩)) none)
 (k_normal x.f0 x.f2 x.f4)) none)) none)
 (k_normal x.f0 x.f2 x.f4)
noncomputable def zNna (x : zEda) : St := St.ofList [(0, (.v (.sl 9 .str) .s x.f0)), (2, (.v (.ptr 38 (.pair (.int .i64) (.pair .bool Ty0))) (.o .s) (some x.f2))), (4, (.v (.ptr 38 (.pair (.int .i64) (.pair .bool Ty0))) (.o .s) (some x.f4)))]
def zCla : Ex → List (Nat × Bool) | .ret => [(2, false), (3, false)] | .normal => [(0, false), (2, false), (4, false)] | _ => []
def zYga : List (Nat × Bool) := [(0, false), (2, false), (4, false)]
noncomputable def zOga : Pt zEda := .s 0 (sV (.sl 9 .str) .s) fun y0 => .s 2 (sP 38 (.pair (.int .i64) (.pair .bool Ty0)) (.o .s)) fun y2 => .s 4 (sP 38 (.pair (.int .i64) (.pair .bool Ty0)) (.o .s)) fun y4 => .e ⟨y0, y2, y4⟩
noncomputable def zaia (R : Type) (K : Ex → St → Option R) : zEda → Option R := zJda (fun e2 e3 => K .ret (St.ofList [(2, (.v (.ptr 38 (.pair (.int .i64) (.pair .bool Ty0))) (.o .s) (some e2))), (3, (.v .bool .s e3))])) (fun e0 e2 e4 => K .normal (St.ofList [(0, (.v (.sl 9 .str) .s e0)), (2, (.v (.ptr 38 (.pair (.int .i64) (.pair .bool Ty0))) (.o .s) (some e2))), (4, (.v (.ptr 38 (.pair (.int .i64) (.pair .bool Ty0))) (.o .s) (some e4)))]))
noncomputable def zsfa : Code := match joinC 12 (body Tryd.f37.body) with | some c => c | none => .skip
structure zDda where
 f0 : List (List UInt8)
 f2 : (Int) × (Bool) × (Int) × (Int) × (Bool) × (Int) × Unit
 f4 : (Int) × (Bool) × (Int) × (Int) × (Bool) × (Int) × Unit
noncomputable def zIda {R : Type} (k_normal : (List (List UInt8)) → ((Int) × (Bool) × (Int) × (Int) × (Bool) × (Int) × Unit) → ((Int) × (Bool) × (Int) × (Int) × (Bool) × (Int) × Unit) → Option R) (x : zDda) : Option R :=
 let v1 := ((List.length x.f0 : Nat) : Int)
 let v2 := decide (v1 > (0 : Int))
 cond v2
 (cond (inB (0 : Int) (List.length x.f0))
 (let v3 := List.getD x.f0 (0 : Int).toNat ([] : List UInt8)
 let v4 := v3 == ([118, 97, 114] : List UInt8)
 cond v4
 (cond (inR (1 : Int) ((List.length x.f0 : Nat) : Int) (List.length x.f0))
 (let v5 := rng x.f0 (1 : Int) ((List.length x.f0 : Nat) : Int)
 k_normal v5 x.f2 (x.f4.1, (x.f4.2.1, (x.f4.2.2.1, (x.f4.2.2.2.1, (true, x.f4.2.2.2.2.2)))))) none)
 (k_normal x.f0 x.f2 x.f4)) none)
 (k_normal x.f0 x.f2 x.f4)
noncomputable def zMna (x : zDda) : St := St.ofList [(0, (.v (.sl 9 .str) .s x.f0)), (2, (.v (.ptr 38 (.pair (.int .i64) (.pair .bool Ty0))) (.o .s) (some x.f2))), (4, (.v (.ptr 38 (.pair (.int .i64) (.pair .bool Ty0))) (.o .s) (some x.f4)))]
def zBla : Ex → List (Nat × Bool) | .normal => [(0, false), (2, false), (4, false)] | _ => []
def zXga : List (Nat × Bool) := [(0, false), (2, false), (4, false)]
noncomputable def zNga : Pt zDda := .s 0 (sV (.sl 9 .str) .s) fun y0 => .s 2 (sP 38 (.pair (.int .i64) (.pair .bool Ty0)) (.o .s)) fun y2 => .s 4 (sP 38 (.pair (.int .i64) (.pair .bool Ty0)) (.o .s)) fun y4 => .e ⟨y0, y2, y4⟩
noncomputable def zZha (R : Type) (K : Ex → St → Option R) : zDda → Option R := zIda (fun e0 e2 e4 => K .normal (St.ofList [(0, (.v (.sl 9 .str) .s e0)), (2, (.v (.ptr 38 (.pair (.int .i64) (.pair .bool Ty0))) (.o .s) (some e2))), (4, (.v (.ptr 38 (.pair (.int .i64) (.pair .bool Ty0))) (.o .s) (some e4)))]))
noncomputable def zrfa : Code := match joinC 15 (body Tryd.f37.body) with | some c => c | none => .skip
structure zCda where
 f0 : List (List UInt8)
 f2 : (Int) × (Bool) × (Int) × (Int) × (Bool) × (Int) × Unit
 f4 : (Int) × (Bool) × (Int) × (Int) × (Bool) × (Int) × Unit
noncomputable def zkca {R : Type} (k_ret : ((Int) × (Bool) × (Int) × (Int) × (Bool) × (Int) × Unit) → Bool → Option R) (k_normal : (List (List UInt8)) → ((Int) × (Bool) × (Int) × (Int) × (Bool) × (Int) × Unit) → ((Int) × (Bool) × (Int) × (Int) × (Bool) × (Int) × Unit) → Option R) (x : zCda) : Option R :=
 let v1 := ((List.length x.f0 : Nat) : Int)
 let v2 := v1 != (2 : Int)
 cond v2
 (k_ret x.f4 false)
 (cond (inB (0 : Int) (List.length x.f0))
 (let v3 := List.getD x.f0 (0 : Int).toNat ([] : List UInt8)
 let v4 := !(v3 == ([105, 51, 50] : List UInt8))
 cond v4
 (cond (inB (0 : Int) (List.length x.f0))
 (let v5 := List.getD x.f0 (0 : Int).toNat ([] : List UInt8)
 let v6 := !(v5 == ([105, 54, 52] : List UInt8))
 cond v6
 (k_ret x.f4 false)
 (k_normal x.f0 x.f2 x.f4)) none)
 (k_normal x.f0 x.f2 x.f4)) none)
noncomputable def zLna (x : zCda) : St := St.ofList [(0, (.v (.sl 9 .str) .s x.f0)), (2, (.v (.ptr 38 (.pair (.int .i64) (.pair .bool Ty0))) (.o .s) (some x.f2))), (4, (.v (.ptr 38 (.pair (.int .i64) (.pair .bool Ty0))) (.o .s) (some x.f4)))]
def zAla : Ex → List (Nat × Bool) | .ret => [(2, false), (3, false)] | .normal => [(0, false), (2, false), (4, false)] | _ => []
def zWga : List (Nat × Bool) := [(0, false), (2, false), (4, false)]
noncomputable def zMga : Pt zCda := .s 0 (sV (.sl 9 .str) .s) fun y0 => .s 2 (sP 38 (.pair (.int .i64) (.pair .bool Ty0)) (.o .s)) fun y2 => .s 4 (sP 38 (.pair (.int .i64) (.pair .bool Ty0)) (.o .s)) fun y4 => .e ⟨y0, y2, y4⟩
noncomputable def zYha (R : Type) (K : Ex → St → Option R) : zCda → Option R := zkca (fun e2 e3 => K .ret (St.ofList [(2, (.v (.ptr 38 (.pair (.int .i64) (.pair .bool Ty0))) (.o .s) (some e2))), (3, (.v .bool .s e3))])) (fun e0 e2 e4 => K .normal (St.ofList [(0, (.v (.sl 9 .str) .s e0)), (2, (.v (.ptr 38 (.pair (.int .i64) (.pair .bool Ty0))) (.o .s) (some e2))), (4, (.v (.ptr 38 (.pair (.int .i64) (.pair .bool Ty0))) (.o .s) (some e4)))]))
noncomputable def zqfa : Code := match joinC 17 (body Tryd.f37.body) with | some c => c | none => .skip
structure zBda where
 f0 : List (List UInt8)
 f2 : (Int) × (Bool) × (Int) × (Int) × (Bool) × (Int) × Unit
 f4 : (Int) × (Bool) × (Int) × (Int) × (Bool) × (Int) × Unit
noncomputable def zHda {R : Type} (k_normal : (List (List UInt8)) → ((Int) × (Bool) × (Int) × (Int) × (Bool) × (Int) × Unit) → ((Int) × (Bool) × (Int) × (Int) × (Bool) × (Int) × Unit) → Option R) (x : zBda) : Option R :=
 cond (inB (0 : Int) (List.length x.f0))
 (let v1 := List.getD x.f0 (0 : Int).toNat ([] : List UInt8)
 let v2 := v1 == ([105, 54, 52] : List UInt8)
 cond v2
 (k_normal x.f0 x.f2 (x.f4.1, (x.f4.2.1, (x.f4.2.2.1, ((126 : Int), x.f4.2.2.2.2)))))
 (k_normal x.f0 x.f2 x.f4)) none
noncomputable def zKna (x : zBda) : St := St.ofList [(0, (.v (.sl 9 .str) .s x.f0)), (2, (.v (.ptr 38 (.pair (.int .i64) (.pair .bool Ty0))) (.o .s) (some x.f2))), (4, (.v (.ptr 38 (.pair (.int .i64) (.pair .bool Ty0))) (.o .s) (some x.f4)))]
def zzla : Ex → List (Nat × Bool) | .normal => [(0, false), (2, false), (4, false)] | _ => []
def zVga : List (Nat × Bool) := [(0, false), (2, false), (4, false)]
noncomputable def zLga : Pt zBda := .s 0 (sV (.sl 9 .str) .s) fun y0 => .s 2 (sP 38 (.pair (.int .i64) (.pair .bool Ty0)) (.o .s)) fun y2 => .s 4 (sP 38 (.pair (.int .i64) (.pair .bool Ty0)) (.o .s)) fun y4 => .e ⟨y0, y2, y4⟩
noncomputable def zXha (R : Type) (K : Ex → St → Option R) : zBda → Option R := zHda (fun e0 e2 e4 => K .normal (St.ofList [(0, (.v (.sl 9 .str) .s e0)), (2, (.v (.ptr 38 (.pair (.int .i64) (.pair .bool Ty0))) (.o .s) (some e2))), (4, (.v (.ptr 38 (.pair (.int .i64) (.pair .bool Ty0))) (.o .s) (some e4)))]))
noncomputable def zpfa : Code := match joinC 20 (body Tryd.f37.body) with | some c => c | none => .skip
noncomputable def zzaa : Loops := fun z i R st K => match z, i with
 | true, 9 => lpE zWha zUha (zSia R K) st
 | true, 12 => lpE zYga zOga (zaia R K) st
 | true, 15 => lpE zXga zNga (zZha R K) st
 | true, 17 => lpE zWga zMga (zYha R K) st
 | true, 20 => lpE zVga zLga (zXha R K) st
 | _, _ => none
theorem zEka : JStep znaa zzaa inl0 zmga zxma zioa zSia := fun R K x => by kernel_rfl
theorem zzma : zOfa znaa zzaa inl0 zmga 9 := zhba (hd := zWha) zEka (p := zUha) (fun _ _ _ _ => ⟨rfl, rfl⟩) (fun R st K => by kernel_rfl)
theorem zfka : JStep znaa zzaa inl0 zsfa zCla zNna zaia := fun R K x => by kernel_rfl
theorem zJla : zOfa znaa zzaa inl0 zsfa 12 := zhba (hd := zYga) zfka (p := zOga) (fun _ _ _ => ⟨rfl, rfl⟩) (fun R st K => by kernel_rfl)
theorem zeka : JStep znaa zzaa inl0 zrfa zBla zMna zZha := fun R K x => by kernel_rfl
theorem zIla : zOfa znaa zzaa inl0 zrfa 15 := zhba (hd := zXga) zeka (p := zNga) (fun _ _ _ => ⟨rfl, rfl⟩) (fun R st K => by kernel_rfl)
theorem zdka : JStep znaa zzaa inl0 zqfa zAla zLna zYha := fun R K x => by kernel_rfl
theorem zHla : zOfa znaa zzaa inl0 zqfa 17 := zhba (hd := zWga) zdka (p := zMga) (fun _ _ _ => ⟨rfl, rfl⟩) (fun R st K => by kernel_rfl)
theorem zcka : JStep znaa zzaa inl0 zpfa zzla zKna zXha := fun R K x => by kernel_rfl
theorem zGla : zOfa znaa zzaa inl0 zpfa 20 := zhba (hd := zVga) zcka (p := zLga) (fun _ _ _ => ⟨rfl, rfl⟩) (fun R st K => by kernel_rfl)
theorem ztma : zXaa znaa zzaa inl0 (body Tryd.f37.body) := by
 refine zBaa (fun c hc => ?_) (fun c hc => ?_)
 ·rw [show zgea (body Tryd.f37.body) = [] by kernel_rfl] at hc; cases hc
 ·rw [show zhea znaa (body Tryd.f37.body) = [(zmga, 9), (zpfa, 20), (zqfa, 17), (zrfa, 15), (zsfa, 12)] by kernel_rfl] at hc
  simp only [List.mem_cons, List.not_mem_nil, or_false] at hc
  rcases hc with rfl | rfl | rfl | rfl | rfl
  ·exact zzma
  ·exact zGla
  ·exact zHla
  ·exact zIla
  ·exact zJla
noncomputable def zWaa {R : Type} (a0 : List (List UInt8)) (K : ((Int) × (Bool) × (Int) × (Int) × (Bool) × (Int) × Unit) → Bool → Option R) : Option R :=
 zJda (fun w1 w2 =>
 K w1 w2) (fun w3 w4 w5 =>
 zIda (fun w6 w7 w8 =>
 zkca (fun w9 w10 =>
 K w9 w10) (fun w11 w12 w13 =>
 zHda (fun w14 w15 w16 =>
 cond (inB (1 : Int) (List.length w14))
 (let v17 := List.getD w14 (1 : Int).toNat ([] : List UInt8)
 zQaa v17 fun r18 r19 =>
 K (w16.1, (w16.2.1, (w16.2.2.1, (w16.2.2.2.1, (w16.2.2.2.2.1, (r18, w16.2.2.2.2.2.2)))))) r19) none) ⟨w11, w12, (w13.1, (w13.2.1, (w13.2.2.1, ((127 : Int), w13.2.2.2.2))))⟩) ⟨w6, w7, w8⟩) ⟨w3, w4, w5⟩) ⟨a0, ((0 : Int), (false, ((0 : Int), ((0 : Int), (false, ((0 : Int), ())))))), ((0 : Int), (false, ((0 : Int), ((0 : Int), (false, ((0 : Int), ()))))))⟩
noncomputable def zUka : CSpec := { ins := [(.val (.sl 9 .str) .s)], outs := [((.pair (.int .i64) (.pair .bool Ty0)), .s), (.bool, .s)], fn := fun (d : (List (List UInt8)) × Unit) K _ => zWaa d.1 (fun r0 r1 => K ((r0, r1, ()) : ((Int) × (Bool) × (Int) × (Int) × (Bool) × (Int) × Unit) × Bool × Unit) ((()) : Unit)) }
theorem zvpa : Holds Tryd.prog 37 zUka := zsaa (env := znaa) (inl := inl0) (lp := zzaa) (rs := [(2, some 38), (3, none)]) (code := body Tryd.f37.body) ⟨mixed, envTyOk.ty, envTyOk.eq⟩ zBma zRaa Tryd.func37 ztma (by kernel_rfl) (by kernel_rfl) (by kernel_rfl) (by kernel_rfl) (by kernel_rfl) (by kernel_rfl) fun d R K Kp => by kernel_rfl
noncomputable def ziia : List (FuncId × List FuncId × CSpec) := [(64, [], zkfa)]
noncomputable def zFba : Env := { ty := envTy, eq := envEq, gam := (gamL ziia), n := Tryd.f41.ntmps }
theorem zPla : EnvFn Tryd.prog zFba := fun f gs c h => zCba (l := ziia) ⟨zZia, trivial⟩ f gs c h
structure zHba where
 f0 : List (List UInt8)
 f4 : List (Int)
 f5 : Int
noncomputable def zJba {R : Type} (k_ret : (List (Int)) → Bool → Option R) (k_exit_0 : (List (Int)) → Option R) (rec : zHba → Option R) (x : zHba) : Option R :=
 let v1 := ((List.length x.f0 : Nat) : Int)
 let v2 := decide (x.f5 < v1)
 cond v2
 (cond (inB x.f5 (List.length x.f0))
 (let v3 := List.getD x.f0 x.f5.toNat ([] : List UInt8)
 zQaa v3 fun r4 r5 =>
 let v6 := !r5
 cond v6
 (k_ret ([] : List (Int)) false)
 (let v7 := List.set (List.replicate 1 (0 : Int)) 0 r4
 cond (decide (List.length x.f4 + List.length v7 ≤ most))
 (let v8 := x.f4 ++ v7
 let v9 := IntKind.i64.wrap (x.f5 + (1 : Int))
 rec ⟨x.f0, v8, v9⟩) none)) none)
 (k_exit_0 x.f4)
noncomputable def zJna (x : zHba) : St := St.ofList [(0, (.v (.sl 9 .str) .s x.f0)), (4, (.v (.sl 36 (.int .u64)) (.o .s) x.f4)), (5, (.v (.int .i64) .s x.f5))]
def zrla : Ex → List (Nat × Bool) | .ret => [(2, false), (3, false)] | .exit 0 => [(4, false)] | _ => []
def zfia : List (Nat × Bool) := [(0, false), (4, false), (5, false)]
noncomputable def zSha : Pt zHba := .s 0 (sV (.sl 9 .str) .s) fun y0 => .s 4 (sV (.sl 36 (.int .u64)) (.o .s)) fun y4 => .s 5 (sV (.int .i64) .s) fun y5 => .e ⟨y0, y4, y5⟩
noncomputable def zrja (R : Type) (K : Ex → St → Option R) : (zHba → Option R) → zHba → Option R := zJba (fun e2 e3 => K .ret (St.ofList [(2, (.v (.sl 36 (.int .u64)) (.o .s) e2)), (3, (.v .bool .s e3))])) (fun e4 => K (.exit 0) (St.ofList [(4, (.v (.sl 36 (.int .u64)) (.o .s) e4))]))
noncomputable def zFfa : Code := match zofa 3 (body Tryd.f41.body) with | some c => c | none => .skip
noncomputable def znea : Loops := fun z i R st K => match z, i with
 | false, 3 => lpE zfia zSha (lpL zrja K) st
 | _, _ => none
theorem zpka : LStep zFba znea inl0 zFfa zfia zrla zJna zrja := fun R K rec x => by kernel_rfl
theorem zpma : zpha zFba znea inl0 zFfa := zOba zpka (p := zSha) (i := 3) (fun _ _ _ => ⟨rfl, rfl⟩) (by kernel_rfl) (fun R st K => by kernel_rfl)
theorem zwla : zXaa zFba znea inl0 (body Tryd.f41.body) := by
 refine zBaa (fun c hc => ?_) (fun c hc => ?_)
 ·rw [show zgea (body Tryd.f41.body) = [zFfa] by kernel_rfl] at hc
  simp only [List.mem_cons, List.not_mem_nil, or_false] at hc
  rcases hc with rfl
  ·exact zpma
 ·rw [show zhea zFba (body Tryd.f41.body) = [] by kernel_rfl] at hc; cases hc
noncomputable def zNaa {R : Type} (a0 : List (List UInt8)) (K : (List (Int)) → Bool → Option R) : Option R :=
 loopN (zJba (fun w1 w2 =>
 K w1 w2) (fun w3 =>
 let v4 := ((List.length w3 : Nat) : Int)
 let v5 := decide (v4 ≤ (8 : Int))
 K w3 v5)) zvfa ⟨a0, ([] : List (Int)), (0 : Int)⟩
noncomputable def zqga : CSpec := { ins := [(.val (.sl 9 .str) .s)], outs := [((.sl 36 (.int .u64)), (.o .s)), (.bool, .s)], fn := fun (d : (List (List UInt8)) × Unit) K _ => zNaa d.1 (fun r0 r1 => K ((r0, r1, ()) : (List (Int)) × Bool × Unit) ((()) : Unit)) }
theorem zLka : Holds Tryd.prog 41 zqga := zsaa (env := zFba) (inl := inl0) (lp := znea) (rs := [(2, none), (3, none)]) (code := body Tryd.f41.body) ⟨mixed, envTyOk.ty, envTyOk.eq⟩ zPla zRaa Tryd.func41 zwla (by kernel_rfl) (by kernel_rfl) (by kernel_rfl) (by kernel_rfl) (by kernel_rfl) (by kernel_rfl) fun d R K Kp => by kernel_rfl
noncomputable def zkia : List (FuncId × List FuncId × CSpec) := [(41, [], zqga), (39, [], zqea), (36, [], zLha)]
noncomputable def zQna : Nat → Bool
 | 23 => true
 | 35 => true
 | 77 => true
 | _ => false
noncomputable def zYna : Nat → Bool
 | 5 => true
 | 8 => true
 | 11 => true
 | 15 => true
 | 17 => true
 | 21 => true
 | _ => false
noncomputable def zVna : Nat → Option (List Nat)
 | 0 => some [0]
 | 1 => some [0, 2]
 | 2 => some [0, 2, 4]
 | 3 => some [0, 2, 4]
 | 4 => some [0, 2, 4]
 | 5 => some [0, 2, 4]
 | 6 => some [0, 2, 4]
 | 7 => some [0, 2, 4]
 | 8 => some [0, 2, 4]
 | 9 => some [0, 2, 4]
 | 10 => some [0, 2, 4, 5]
 | 11 => some [0, 2, 4, 5]
 | 12 => some [0, 2, 4, 5]
 | 13 => some [0, 2, 4, 5, 6, 7]
 | 14 => some [2, 4]
 | 15 => some [0, 2, 4, 5, 6]
 | 16 => some [0, 2, 4, 5]
 | 17 => some [0, 2, 4]
 | 18 => some [2, 4]
 | 19 => some [0, 2, 4]
 | 20 => some [2, 4]
 | 21 => some [0, 2, 4]
 | 22 => some [0, 2, 4, 8, 9]
 | 23 => some [2, 4, 8, 9, 10, 11]
 | 24 => some [2, 4, 9, 11]
 | _ => none
noncomputable def zfaa : Env := { ty := envTy, eq := envEq, gam := (gamL zkia), n := Tryd.f38.ntmps, sb := zQna, js := zYna, lv := zVna }
theorem zRla : EnvFn Tryd.prog zfaa := fun f gs c h => zCba (l := zkia) ⟨zLka, zGha, zXla, trivial⟩ f gs c h
structure zJca where
 f0 : List (List UInt8)
 f2 : (Bool) × (Bool) × (List (Int)) × (Int) × (List (Int)) × Unit
 f4 : (Bool) × (Bool) × (List (Int)) × (Int) × (List (Int)) × Unit
 f5 : Int
noncomputable def zLca {R : Type} (k_normal : (List (List UInt8)) → ((Bool) × (Bool) × (List (Int)) × (Int) × (List (Int)) × Unit) → ((Bool) × (Bool) × (List (Int)) × (Int) × (List (Int)) × Unit) → Int → Option R) (k_exit_0 : (List (List UInt8)) → ((Bool) × (Bool) × (List (Int)) × (Int) × (List (Int)) × Unit) → ((Bool) × (Bool) × (List (Int)) × (Int) × (List (Int)) × Unit) → Int → Option R) (x : zJca) : Option R :=
 let v1 := ((List.length x.f0 : Nat) : Int)
 let v2 := decide (x.f5 < v1)
 cond v2
 (cond (inB x.f5 (List.length x.f0))
 (let v3 := List.getD x.f0 x.f5.toNat ([] : List UInt8)
 let v4 := !(v3 == ([97, 116] : List UInt8))
 cond v4
 (k_normal x.f0 x.f2 x.f4 x.f5)
 (k_exit_0 x.f0 x.f2 x.f4 x.f5)) none)
 (k_exit_0 x.f0 x.f2 x.f4 x.f5)
noncomputable def zKma (x : zJca) : St := St.ofList [(0, (.v (.sl 9 .str) .s x.f0)), (2, (.v (.ptr 41 (.pair .bool (.pair .bool Ty1))) (.o (.p .s (.p .s (.p (.o .s) (.p .s (.p (.o .s) .s)))))) (some x.f2))), (4, (.v (.ptr 41 (.pair .bool (.pair .bool Ty1))) (.o (.p .s (.p .s (.p (.o .s) (.p .s (.p (.o .s) .s)))))) (some x.f4))), (5, (.v (.int .i64) .s x.f5))]
def zCka : Ex → List (Nat × Bool) | .normal => [(0, false), (2, false), (4, false), (5, false)] | .exit 0 => [(0, false), (2, false), (4, false), (5, false)] | _ => []
def zaga : List (Nat × Bool) := [(0, false), (2, false), (4, false), (5, false)]
noncomputable def zWfa : Pt zJca := .s 0 (sV (.sl 9 .str) .s) fun y0 => .s 2 (sP 41 (.pair .bool (.pair .bool Ty1)) (.o (.p .s (.p .s (.p (.o .s) (.p .s (.p (.o .s) .s))))))) fun y2 => .s 4 (sP 41 (.pair .bool (.pair .bool Ty1)) (.o (.p .s (.p .s (.p (.o .s) (.p .s (.p (.o .s) .s))))))) fun y4 => .s 5 (sV (.int .i64) .s) fun y5 => .e ⟨y0, y2, y4, y5⟩
noncomputable def zeha (R : Type) (K : Ex → St → Option R) : zJca → Option R := zLca (fun e0 e2 e4 e5 => K .normal (St.ofList [(0, (.v (.sl 9 .str) .s e0)), (2, (.v (.ptr 41 (.pair .bool (.pair .bool Ty1))) (.o (.p .s (.p .s (.p (.o .s) (.p .s (.p (.o .s) .s)))))) (some e2))), (4, (.v (.ptr 41 (.pair .bool (.pair .bool Ty1))) (.o (.p .s (.p .s (.p (.o .s) (.p .s (.p (.o .s) .s)))))) (some e4))), (5, (.v (.int .i64) .s e5))])) (fun e0 e2 e4 e5 => K (.exit 0) (St.ofList [(0, (.v (.sl 9 .str) .s e0)), (2, (.v (.ptr 41 (.pair .bool (.pair .bool Ty1))) (.o (.p .s (.p .s (.p (.o .s) (.p .s (.p (.o .s) .s)))))) (some e2))), (4, (.v (.ptr 41 (.pair .bool (.pair .bool Ty1))) (.o (.p .s (.p .s (.p (.o .s) (.p .s (.p (.o .s) .s)))))) (some e4))), (5, (.v (.int .i64) .s e5))]))
noncomputable def zSea : Code := match joinC 11 (body Tryd.f38.body) with | some c => c | none => .skip
structure zoba where
 f0 : List (List UInt8)
 f2 : (Bool) × (Bool) × (List (Int)) × (Int) × (List (Int)) × Unit
 f4 : (Bool) × (Bool) × (List (Int)) × (Int) × (List (Int)) × Unit
 f5 : Int
noncomputable def zrba {R : Type} (k_exit_0 : (List (List UInt8)) → ((Bool) × (Bool) × (List (Int)) × (Int) × (List (Int)) × Unit) → ((Bool) × (Bool) × (List (Int)) × (Int) × (List (Int)) × Unit) → Int → Option R) (rec : zoba → Option R) (x : zoba) : Option R :=
 zLca (fun w1 w2 w3 w4 =>
 let v5 := IntKind.i64.wrap (w4 + (1 : Int))
 rec ⟨w1, w2, w3, v5⟩) (fun w6 w7 w8 w9 =>
 k_exit_0 w6 w7 w8 w9) ⟨x.f0, x.f2, x.f4, x.f5⟩
noncomputable def zFma (x : zoba) : St := St.ofList [(0, (.v (.sl 9 .str) .s x.f0)), (2, (.v (.ptr 41 (.pair .bool (.pair .bool Ty1))) (.o (.p .s (.p .s (.p (.o .s) (.p .s (.p (.o .s) .s)))))) (some x.f2))), (4, (.v (.ptr 41 (.pair .bool (.pair .bool Ty1))) (.o (.p .s (.p .s (.p (.o .s) (.p .s (.p (.o .s) .s)))))) (some x.f4))), (5, (.v (.int .i64) .s x.f5))]
def zvka : Ex → List (Nat × Bool) | .exit 0 => [(0, false), (2, false), (4, false), (5, false)] | _ => []
def zfha : List (Nat × Bool) := [(0, false), (2, false), (4, false), (5, false)]
noncomputable def zEga : Pt zoba := .s 0 (sV (.sl 9 .str) .s) fun y0 => .s 2 (sP 41 (.pair .bool (.pair .bool Ty1)) (.o (.p .s (.p .s (.p (.o .s) (.p .s (.p (.o .s) .s))))))) fun y2 => .s 4 (sP 41 (.pair .bool (.pair .bool Ty1)) (.o (.p .s (.p .s (.p (.o .s) (.p .s (.p (.o .s) .s))))))) fun y4 => .s 5 (sV (.int .i64) .s) fun y5 => .e ⟨y0, y2, y4, y5⟩
noncomputable def zlia (R : Type) (K : Ex → St → Option R) : (zoba → Option R) → zoba → Option R := zrba (fun e0 e2 e4 e5 => K (.exit 0) (St.ofList [(0, (.v (.sl 9 .str) .s e0)), (2, (.v (.ptr 41 (.pair .bool (.pair .bool Ty1))) (.o (.p .s (.p .s (.p (.o .s) (.p .s (.p (.o .s) .s)))))) (some e2))), (4, (.v (.ptr 41 (.pair .bool (.pair .bool Ty1))) (.o (.p .s (.p .s (.p (.o .s) (.p .s (.p (.o .s) .s)))))) (some e4))), (5, (.v (.int .i64) .s e5))]))
noncomputable def zTea : Code := match zofa 10 (body Tryd.f38.body) with | some c => c | none => .skip
structure zGda where
 f0 : List (List UInt8)
 f2 : (Bool) × (Bool) × (List (Int)) × (Int) × (List (Int)) × Unit
 f4 : (Bool) × (Bool) × (List (Int)) × (Int) × (List (Int)) × Unit
noncomputable def zLda {R : Type} (k_normal : (List (List UInt8)) → ((Bool) × (Bool) × (List (Int)) × (Int) × (List (Int)) × Unit) → ((Bool) × (Bool) × (List (Int)) × (Int) × (List (Int)) × Unit) → Option R) (x : zGda) : Option R :=
 let v1 := ((List.length x.f0 : Nat) : Int)
 let v2 := decide (v1 > (0 : Int))
 cond v2
 (cond (inB (0 : Int) (List.length x.f0))
 (let v3 := List.getD x.f0 (0 : Int).toNat ([] : List UInt8)
 let v4 := v3 == ([103, 114, 111, 119] : List UInt8)
 cond v4
 (cond (inR (1 : Int) ((List.length x.f0 : Nat) : Int) (List.length x.f0))
 (let v5 := rng x.f0 (1 : Int) ((List.length x.f0 : Nat) : Int)
 k_normal v5 x.f2 (true, x.f4.2)) none)
 (k_normal x.f0 x.f2 x.f4)) none)
 (k_normal x.f0 x.f2 x.f4)
noncomputable def zPna (x : zGda) : St := St.ofList [(0, (.v (.sl 9 .str) .s x.f0)), (2, (.v (.ptr 41 (.pair .bool (.pair .bool Ty1))) (.o (.p .s (.p .s (.p (.o .s) (.p .s (.p (.o .s) .s)))))) (some x.f2))), (4, (.v (.ptr 41 (.pair .bool (.pair .bool Ty1))) (.o (.p .s (.p .s (.p (.o .s) (.p .s (.p (.o .s) .s)))))) (some x.f4)))]
def zEla : Ex → List (Nat × Bool) | .normal => [(0, false), (2, false), (4, false)] | _ => []
def zaha : List (Nat × Bool) := [(0, false), (2, false), (4, false)]
noncomputable def zQga : Pt zGda := .s 0 (sV (.sl 9 .str) .s) fun y0 => .s 2 (sP 41 (.pair .bool (.pair .bool Ty1)) (.o (.p .s (.p .s (.p (.o .s) (.p .s (.p (.o .s) .s))))))) fun y2 => .s 4 (sP 41 (.pair .bool (.pair .bool Ty1)) (.o (.p .s (.p .s (.p (.o .s) (.p .s (.p (.o .s) .s))))))) fun y4 => .e ⟨y0, y2, y4⟩
noncomputable def zcia (R : Type) (K : Ex → St → Option R) : zGda → Option R := zLda (fun e0 e2 e4 => K .normal (St.ofList [(0, (.v (.sl 9 .str) .s e0)), (2, (.v (.ptr 41 (.pair .bool (.pair .bool Ty1))) (.o (.p .s (.p .s (.p (.o .s) (.p .s (.p (.o .s) .s)))))) (some e2))), (4, (.v (.ptr 41 (.pair .bool (.pair .bool Ty1))) (.o (.p .s (.p .s (.p (.o .s) (.p .s (.p (.o .s) .s)))))) (some e4)))]))
noncomputable def zufa : Code := match joinC 5 (body Tryd.f38.body) with | some c => c | none => .skip
structure zFda where
 f0 : List (List UInt8)
 f2 : (Bool) × (Bool) × (List (Int)) × (Int) × (List (Int)) × Unit
 f4 : (Bool) × (Bool) × (List (Int)) × (Int) × (List (Int)) × Unit
noncomputable def zKda {R : Type} (k_normal : (List (List UInt8)) → ((Bool) × (Bool) × (List (Int)) × (Int) × (List (Int)) × Unit) → ((Bool) × (Bool) × (List (Int)) × (Int) × (List (Int)) × Unit) → Option R) (x : zFda) : Option R :=
 let v1 := ((List.length x.f0 : Nat) : Int)
 let v2 := decide (v1 > (0 : Int))
 cond v2
 (cond (inB (0 : Int) (List.length x.f0))
 (let v3 := List.getD x.f0 (0 : Int).toNat ([] : List UInt8)
 let v4 := v3 == ([116, 114, 97, 112] : List UInt8)
 cond v4
 (cond (inR (1 : Int) ((List.length x.f0 : Nat) : Int) (List.length x.f0))
 (let v5 := rng x.f0 (1 : Int) ((List.length x.f0 : Nat) : Int)
 k_normal v5 x.f2 (x.f4.1, (true, x.f4.2.2))) none)
 (k_normal x.f0 x.f2 x.f4)) none)
 (k_normal x.f0 x.f2 x.f4)
noncomputable def zOna (x : zFda) : St := St.ofList [(0, (.v (.sl 9 .str) .s x.f0)), (2, (.v (.ptr 41 (.pair .bool (.pair .bool Ty1))) (.o (.p .s (.p .s (.p (.o .s) (.p .s (.p (.o .s) .s)))))) (some x.f2))), (4, (.v (.ptr 41 (.pair .bool (.pair .bool Ty1))) (.o (.p .s (.p .s (.p (.o .s) (.p .s (.p (.o .s) .s)))))) (some x.f4)))]
def zDla : Ex → List (Nat × Bool) | .normal => [(0, false), (2, false), (4, false)] | _ => []
def zZga : List (Nat × Bool) := [(0, false), (2, false), (4, false)]
noncomputable def zPga : Pt zFda := .s 0 (sV (.sl 9 .str) .s) fun y0 => .s 2 (sP 41 (.pair .bool (.pair .bool Ty1)) (.o (.p .s (.p .s (.p (.o .s) (.p .s (.p (.o .s) .s))))))) fun y2 => .s 4 (sP 41 (.pair .bool (.pair .bool Ty1)) (.o (.p .s (.p .s (.p (.o .s) (.p .s (.p (.o .s) .s))))))) fun y4 => .e ⟨y0, y2, y4⟩
noncomputable def zbia (R : Type) (K : Ex → St → Option R) : zFda → Option R := zKda (fun e0 e2 e4 => K .normal (St.ofList [(0, (.v (.sl 9 .str) .s e0)), (2, (.v (.ptr 41 (.pair .bool (.pair .bool Ty1))) (.o (.p .s (.p .s (.p (.o .s) (.p .s (.p (.o .s) .s)))))) (some e2))), (4, (.v (.ptr 41 (.pair .bool (.pair .bool Ty1))) (.o (.p .s (.p .s (.p (.o .s) (.p .s (.p (.o .s) .s)))))) (some e4)))]))
noncomputable def ztfa : Code := match joinC 8 (body Tryd.f38.body) with | some c => c | none => .skip
structure zIca where
 f0 : List (List UInt8)
 f2 : (Bool) × (Bool) × (List (Int)) × (Int) × (List (Int)) × Unit
 f4 : (Bool) × (Bool) × (List (Int)) × (Int) × (List (Int)) × Unit
 f5 : Int
 f6 : List (Int)
 f7 : Bool
noncomputable def zVea {R : Type} (k_ret : ((Bool) × (Bool) × (List (Int)) × (Int) × (List (Int)) × Unit) → Bool → Option R) (k_normal : (List (List UInt8)) → ((Bool) × (Bool) × (List (Int)) × (Int) × (List (Int)) × Unit) → ((Bool) × (Bool) × (List (Int)) × (Int) × (List (Int)) × Unit) → Int → (List (Int)) → Option R) (x : zIca) : Option R :=
 let v1 := !x.f7
 cond v1
 (k_ret x.f4 false)
 (let v2 := ((List.length x.f6 : Nat) : Int)
 let v3 := v2 == (0 : Int)
 cond v3
 (k_ret x.f4 false)
 (k_normal x.f0 x.f2 x.f4 x.f5 x.f6))
noncomputable def zJma (x : zIca) : St := St.ofList [(0, (.v (.sl 9 .str) .s x.f0)), (2, (.v (.ptr 41 (.pair .bool (.pair .bool Ty1))) (.o (.p .s (.p .s (.p (.o .s) (.p .s (.p (.o .s) .s)))))) (some x.f2))), (4, (.v (.ptr 41 (.pair .bool (.pair .bool Ty1))) (.o (.p .s (.p .s (.p (.o .s) (.p .s (.p (.o .s) .s)))))) (some x.f4))), (5, (.v (.int .i64) .s x.f5)), (6, (.v (.sl 36 (.int .u64)) (.o .s) x.f6)), (7, (.v .bool .s x.f7))]
def zBka : Ex → List (Nat × Bool) | .ret => [(2, false), (3, false)] | .normal => [(0, false), (2, false), (4, false), (5, false), (6, false)] | _ => []
def zZfa : List (Nat × Bool) := [(0, false), (2, false), (4, false), (5, false), (6, false), (7, false)]
noncomputable def zVfa : Pt zIca := .s 0 (sV (.sl 9 .str) .s) fun y0 => .s 2 (sP 41 (.pair .bool (.pair .bool Ty1)) (.o (.p .s (.p .s (.p (.o .s) (.p .s (.p (.o .s) .s))))))) fun y2 => .s 4 (sP 41 (.pair .bool (.pair .bool Ty1)) (.o (.p .s (.p .s (.p (.o .s) (.p .s (.p (.o .s) .s))))))) fun y4 => .s 5 (sV (.int .i64) .s) fun y5 => .s 6 (sV (.sl 36 (.int .u64)) (.o .s)) fun y6 => .s 7 (sV .bool .s) fun y7 => .e ⟨y0, y2, y4, y5, y6, y7⟩
noncomputable def zdha (R : Type) (K : Ex → St → Option R) : zIca → Option R := zVea (fun e2 e3 => K .ret (St.ofList [(2, (.v (.ptr 41 (.pair .bool (.pair .bool Ty1))) (.o (.p .s (.p .s (.p (.o .s) (.p .s (.p (.o .s) .s)))))) (some e2))), (3, (.v .bool .s e3))])) (fun e0 e2 e4 e5 e6 => K .normal (St.ofList [(0, (.v (.sl 9 .str) .s e0)), (2, (.v (.ptr 41 (.pair .bool (.pair .bool Ty1))) (.o (.p .s (.p .s (.p (.o .s) (.p .s (.p (.o .s) .s)))))) (some e2))), (4, (.v (.ptr 41 (.pair .bool (.pair .bool Ty1))) (.o (.p .s (.p .s (.p (.o .s) (.p .s (.p (.o .s) .s)))))) (some e4))), (5, (.v (.int .i64) .s e5)), (6, (.v (.sl 36 (.int .u64)) (.o .s) e6))]))
noncomputable def zRea : Code := match joinC 15 (body Tryd.f38.body) with | some c => c | none => .skip
structure zHca where
 f0 : List (List UInt8)
 f2 : (Bool) × (Bool) × (List (Int)) × (Int) × (List (Int)) × Unit
 f4 : (Bool) × (Bool) × (List (Int)) × (Int) × (List (Int)) × Unit
noncomputable def zqba {R : Type} (k_ret : ((Bool) × (Bool) × (List (Int)) × (Int) × (List (Int)) × Unit) → Bool → Option R) (k_normal : (List (List UInt8)) → ((Bool) × (Bool) × (List (Int)) × (Int) × (List (Int)) × Unit) → ((Bool) × (Bool) × (List (Int)) × (Int) × (List (Int)) × Unit) → Option R) (x : zHca) : Option R :=
 let v1 := ((List.length x.f0 : Nat) : Int)
 let v2 := decide (v1 > (0 : Int))
 cond v2
 (cond (inB (0 : Int) (List.length x.f0))
 (let v3 := List.getD x.f0 (0 : Int).toNat ([] : List UInt8)
 let v4 := v3 == ([103, 105, 118, 101] : List UInt8)
 cond v4
 (loopN (zrba (fun w5 w6 w7 w8 =>
 cond (inR (1 : Int) w8 (List.length w5))
 (let v9 := rng w5 (1 : Int) w8
 zNaa v9 fun r10 r11 =>
 zVea (fun w12 w13 =>
 k_ret w12 w13) (fun w14 w15 w16 w17 w18 =>
 cond (inR w17 ((List.length w14 : Nat) : Int) (List.length w14))
 (let v19 := rng w14 w17 ((List.length w14 : Nat) : Int)
 k_normal v19 w15 (w16.1, (w16.2.1, (w18, w16.2.2.2)))) none) ⟨w5, w6, w7, w8, r10, r11⟩) none)) zvfa ⟨x.f0, x.f2, x.f4, (1 : Int)⟩)
 (k_normal x.f0 x.f2 x.f4)) none)
 (k_normal x.f0 x.f2 x.f4)
noncomputable def zIma (x : zHca) : St := St.ofList [(0, (.v (.sl 9 .str) .s x.f0)), (2, (.v (.ptr 41 (.pair .bool (.pair .bool Ty1))) (.o (.p .s (.p .s (.p (.o .s) (.p .s (.p (.o .s) .s)))))) (some x.f2))), (4, (.v (.ptr 41 (.pair .bool (.pair .bool Ty1))) (.o (.p .s (.p .s (.p (.o .s) (.p .s (.p (.o .s) .s)))))) (some x.f4)))]
def zAka : Ex → List (Nat × Bool) | .ret => [(2, false), (3, false)] | .normal => [(0, false), (2, false), (4, false)] | _ => []
def zYfa : List (Nat × Bool) := [(0, false), (2, false), (4, false)]
noncomputable def zUfa : Pt zHca := .s 0 (sV (.sl 9 .str) .s) fun y0 => .s 2 (sP 41 (.pair .bool (.pair .bool Ty1)) (.o (.p .s (.p .s (.p (.o .s) (.p .s (.p (.o .s) .s))))))) fun y2 => .s 4 (sP 41 (.pair .bool (.pair .bool Ty1)) (.o (.p .s (.p .s (.p (.o .s) (.p .s (.p (.o .s) .s))))))) fun y4 => .e ⟨y0, y2, y4⟩
noncomputable def zcha (R : Type) (K : Ex → St → Option R) : zHca → Option R := zqba (fun e2 e3 => K .ret (St.ofList [(2, (.v (.ptr 41 (.pair .bool (.pair .bool Ty1))) (.o (.p .s (.p .s (.p (.o .s) (.p .s (.p (.o .s) .s)))))) (some e2))), (3, (.v .bool .s e3))])) (fun e0 e2 e4 => K .normal (St.ofList [(0, (.v (.sl 9 .str) .s e0)), (2, (.v (.ptr 41 (.pair .bool (.pair .bool Ty1))) (.o (.p .s (.p .s (.p (.o .s) (.p .s (.p (.o .s) .s)))))) (some e2))), (4, (.v (.ptr 41 (.pair .bool (.pair .bool Ty1))) (.o (.p .s (.p .s (.p (.o .s) (.p .s (.p (.o .s) .s)))))) (some e4)))]))
noncomputable def zQea : Code := match joinC 17 (body Tryd.f38.body) with | some c => c | none => .skip
structure zGca where
 f0 : List (List UInt8)
 f2 : (Bool) × (Bool) × (List (Int)) × (Int) × (List (Int)) × Unit
 f4 : (Bool) × (Bool) × (List (Int)) × (Int) × (List (Int)) × Unit
noncomputable def zKca {R : Type} (k_ret : ((Bool) × (Bool) × (List (Int)) × (Int) × (List (Int)) × Unit) → Bool → Option R) (k_normal : (List (List UInt8)) → ((Bool) × (Bool) × (List (Int)) × (Int) × (List (Int)) × Unit) → ((Bool) × (Bool) × (List (Int)) × (Int) × (List (Int)) × Unit) → Option R) (x : zGca) : Option R :=
 let v1 := ((List.length x.f0 : Nat) : Int)
 let v2 := v1 != (3 : Int)
 cond v2
 (k_ret x.f4 false)
 (cond (inB (0 : Int) (List.length x.f0))
 (let v3 := List.getD x.f0 (0 : Int).toNat ([] : List UInt8)
 let v4 := !(v3 == ([97, 116] : List UInt8))
 cond v4
 (k_ret x.f4 false)
 (k_normal x.f0 x.f2 x.f4)) none)
noncomputable def zHma (x : zGca) : St := St.ofList [(0, (.v (.sl 9 .str) .s x.f0)), (2, (.v (.ptr 41 (.pair .bool (.pair .bool Ty1))) (.o (.p .s (.p .s (.p (.o .s) (.p .s (.p (.o .s) .s)))))) (some x.f2))), (4, (.v (.ptr 41 (.pair .bool (.pair .bool Ty1))) (.o (.p .s (.p .s (.p (.o .s) (.p .s (.p (.o .s) .s)))))) (some x.f4)))]
def zzka : Ex → List (Nat × Bool) | .ret => [(2, false), (3, false)] | .normal => [(0, false), (2, false), (4, false)] | _ => []
def zXfa : List (Nat × Bool) := [(0, false), (2, false), (4, false)]
noncomputable def zTfa : Pt zGca := .s 0 (sV (.sl 9 .str) .s) fun y0 => .s 2 (sP 41 (.pair .bool (.pair .bool Ty1)) (.o (.p .s (.p .s (.p (.o .s) (.p .s (.p (.o .s) .s))))))) fun y2 => .s 4 (sP 41 (.pair .bool (.pair .bool Ty1)) (.o (.p .s (.p .s (.p (.o .s) (.p .s (.p (.o .s) .s))))))) fun y4 => .e ⟨y0, y2, y4⟩
noncomputable def zbha (R : Type) (K : Ex → St → Option R) : zGca → Option R := zKca (fun e2 e3 => K .ret (St.ofList [(2, (.v (.ptr 41 (.pair .bool (.pair .bool Ty1))) (.o (.p .s (.p .s (.p (.o .s) (.p .s (.p (.o .s) .s)))))) (some e2))), (3, (.v .bool .s e3))])) (fun e0 e2 e4 => K .normal (St.ofList [(0, (.v (.sl 9 .str) .s e0)), (2, (.v (.ptr 41 (.pair .bool (.pair .bool Ty1))) (.o (.p .s (.p .s (.p (.o .s) (.p .s (.p (.o .s) .s)))))) (some e2))), (4, (.v (.ptr 41 (.pair .bool (.pair .bool Ty1))) (.o (.p .s (.p .s (.p (.o .s) (.p .s (.p (.o .s) .s)))))) (some e4)))]))
noncomputable def zPea : Code := match joinC 21 (body Tryd.f38.body) with | some c => c | none => .skip
noncomputable def zkaa : Loops := fun z i R st K => match z, i with
 | false, 10 => lpE zfha zEga (lpL zlia K) st
 | true, 11 => lpE zaga zWfa (zeha R K) st
 | true, 5 => lpE zaha zQga (zcia R K) st
 | true, 8 => lpE zZga zPga (zbia R K) st
 | true, 15 => lpE zZfa zVfa (zdha R K) st
 | true, 17 => lpE zYfa zUfa (zcha R K) st
 | true, 21 => lpE zXfa zTfa (zbha R K) st
 | _, _ => none
theorem zzja : JStep zfaa zkaa inl0 zSea zCka zKma zeha := fun R K x => by kernel_rfl
theorem zIka : zOfa zfaa zkaa inl0 zSea 11 := zhba (hd := zaga) zzja (p := zWfa) (fun _ _ _ _ => ⟨rfl, rfl⟩) (fun R st K => by kernel_rfl)
theorem zXja : LStep zfaa zkaa inl0 zTea zfha zvka zFma zlia := fun R K rec x => by kernel_rfl
theorem zsla : zpha zfaa zkaa inl0 zTea := zOba zXja (p := zEga) (i := 10) (fun _ _ _ _ => ⟨rfl, rfl⟩) (by kernel_rfl) (fun R st K => by kernel_rfl)
theorem zhka : JStep zfaa zkaa inl0 zufa zEla zPna zcia := fun R K x => by kernel_rfl
theorem zLla : zOfa zfaa zkaa inl0 zufa 5 := zhba (hd := zaha) zhka (p := zQga) (fun _ _ _ => ⟨rfl, rfl⟩) (fun R st K => by kernel_rfl)
theorem zgka : JStep zfaa zkaa inl0 ztfa zDla zOna zbia := fun R K x => by kernel_rfl
theorem zKla : zOfa zfaa zkaa inl0 ztfa 8 := zhba (hd := zZga) zgka (p := zPga) (fun _ _ _ => ⟨rfl, rfl⟩) (fun R st K => by kernel_rfl)
theorem zyja : JStep zfaa zkaa inl0 zRea zBka zJma zdha := fun R K x => by kernel_rfl
theorem zHka : zOfa zfaa zkaa inl0 zRea 15 := zhba (hd := zZfa) zyja (p := zVfa) (fun _ _ _ _ _ _ => ⟨rfl, rfl⟩) (fun R st K => by kernel_rfl)
theorem zxja : JStep zfaa zkaa inl0 zQea zAka zIma zcha := fun R K x => by kernel_rfl
theorem zGka : zOfa zfaa zkaa inl0 zQea 17 := zhba (hd := zYfa) zxja (p := zUfa) (fun _ _ _ => ⟨rfl, rfl⟩) (fun R st K => by kernel_rfl)
theorem zwja : JStep zfaa zkaa inl0 zPea zzka zHma zbha := fun R K x => by kernel_rfl
theorem zFka : zOfa zfaa zkaa inl0 zPea 21 := zhba (hd := zXfa) zwja (p := zTfa) (fun _ _ _ => ⟨rfl, rfl⟩) (fun R st K => by kernel_rfl)
theorem zxla : zXaa zfaa zkaa inl0 (body Tryd.f38.body) := by
 refine zBaa (fun c hc => ?_) (fun c hc => ?_)
 ·rw [show zgea (body Tryd.f38.body) = [zTea] by kernel_rfl] at hc
  simp only [List.mem_cons, List.not_mem_nil, or_false] at hc
  rcases hc with rfl
  ·exact zsla
 ·rw [show zhea zfaa (body Tryd.f38.body) = [(zSea, 11), (zRea, 15), (zPea, 21), (zQea, 17), (ztfa, 8), (zufa, 5)] by kernel_rfl] at hc
  simp only [List.mem_cons, List.not_mem_nil, or_false] at hc
  rcases hc with rfl | rfl | rfl | rfl | rfl | rfl
  ·exact zIka
  ·exact zHka
  ·exact zFka
  ·exact zGka
  ·exact zKla
  ·exact zLla
noncomputable def znca {R : Type} (a0 : List (List UInt8)) (K : ((Bool) × (Bool) × (List (Int)) × (Int) × (List (Int)) × Unit) → Bool → Option R) : Option R :=
 zLda (fun w1 w2 w3 =>
 zKda (fun w4 w5 w6 =>
 zqba (fun w7 w8 =>
 K w7 w8) (fun w9 w10 w11 =>
 let v12 := ((List.length w9 : Nat) : Int)
 let v13 := v12 == (0 : Int)
 cond v13
 (K w11 true)
 (zKca (fun w14 w15 =>
 K w14 w15) (fun w16 w17 w18 =>
 cond (inB (1 : Int) (List.length w16))
 (let v19 := List.getD w16 (1 : Int).toNat ([] : List UInt8)
 zaaa v19 fun r20 r21 =>
 cond (inB (2 : Int) (List.length w16))
 (let v22 := List.getD w16 (2 : Int).toNat ([] : List UInt8)
 zuba v22 fun r23 r24 =>
 cond r21
 (K (w18.1, (w18.2.1, (w18.2.2.1, (r20, (r23, w18.2.2.2.2.2))))) r24)
 (K (w18.1, (w18.2.1, (w18.2.2.1, (r20, (r23, w18.2.2.2.2.2))))) false)) none) none) ⟨w9, w10, w11⟩)) ⟨w4, w5, w6⟩) ⟨w1, w2, w3⟩) ⟨a0, (false, (false, (([] : List (Int)), ((0 : Int), (([] : List (Int)), ()))))), (false, (false, (([] : List (Int)), ((0 : Int), (([] : List (Int)), ())))))⟩
noncomputable def zRja : CSpec := { ins := [(.val (.sl 9 .str) .s)], outs := [((.pair .bool (.pair .bool Ty1)), (.p .s (.p .s (.p (.o .s) (.p .s (.p (.o .s) .s)))))), (.bool, .s)], fn := fun (d : (List (List UInt8)) × Unit) K _ => znca d.1 (fun r0 r1 => K ((r0, r1, ()) : ((Bool) × (Bool) × (List (Int)) × (Int) × (List (Int)) × Unit) × Bool × Unit) ((()) : Unit)) }
theorem zQoa : Holds Tryd.prog 38 zRja := zsaa (env := zfaa) (inl := inl0) (lp := zkaa) (rs := [(2, some 41), (3, none)]) (code := body Tryd.f38.body) ⟨mixed, envTyOk.ty, envTyOk.eq⟩ zRla zRaa Tryd.func38 zxla (by kernel_rfl) (by kernel_rfl) (by kernel_rfl) (by kernel_rfl) (by kernel_rfl) (by kernel_rfl) fun d R K Kp => by kernel_rfl
noncomputable def zFca : Env := { ty := envTy, eq := envEq, gam := noG, n := Tryd.f40.ntmps }
structure zWba where
 f0 : List UInt8
 f3 : Int
noncomputable def zXba {R : Type} (k_ret : Bool → Option R) (k_exit_0 : (List UInt8) → Option R) (rec : zWba → Option R) (x : zWba) : Option R :=
 let v1 := ((List.length x.f0 : Nat) : Int)
 let v2 := decide (x.f3 < v1)
 cond v2
 (cond (inB x.f3 (List.length x.f0))
 (let v3 := bt x.f0 x.f3
 let v4 := v3 == (95 : Int)
 cond v4
 (let v5 := !true
 cond v5
 (k_ret false)
 (let v6 := IntKind.i64.wrap (x.f3 + (1 : Int))
 rec ⟨x.f0, v6⟩))
 (let v7 := decide (v3 ≥ (97 : Int))
 cond v7
 (let v8 := decide (v3 ≤ (122 : Int))
 cond v8
 (let v9 := !true
 cond v9
 (k_ret false)
 (let v10 := IntKind.i64.wrap (x.f3 + (1 : Int))
 rec ⟨x.f0, v10⟩))
 (let v11 := decide (v3 ≥ (48 : Int))
 cond v11
 (let v12 := decide (v3 ≤ (57 : Int))
 let v13 := !v12
 cond v13
 (k_ret false)
 (let v14 := IntKind.i64.wrap (x.f3 + (1 : Int))
 rec ⟨x.f0, v14⟩))
 (let v15 := !false
 cond v15
 (k_ret false)
 (let v16 := IntKind.i64.wrap (x.f3 + (1 : Int))
 rec ⟨x.f0, v16⟩))))
 (let v17 := decide (v3 ≥ (48 : Int))
 cond v17
 (let v18 := decide (v3 ≤ (57 : Int))
 let v19 := !v18
 cond v19
 (k_ret false)
 (let v20 := IntKind.i64.wrap (x.f3 + (1 : Int))
 rec ⟨x.f0, v20⟩))
 (let v21 := !false
 cond v21
 (k_ret false)
 (let v22 := IntKind.i64.wrap (x.f3 + (1 : Int))
 rec ⟨x.f0, v22⟩))))) none)
 (k_exit_0 x.f0)
noncomputable def zgoa (x : zWba) : St := St.ofList [(0, (.v .str .s x.f0)), (3, (.v (.int .i64) .s x.f3))]
def zmma : Ex → List (Nat × Bool) | .ret => [(2, false)] | .exit 0 => [(0, false)] | _ => []
def zXia : List (Nat × Bool) := [(0, false), (3, false)]
noncomputable def zKia : Pt zWba := .s 0 (sV .str .s) fun y0 => .s 3 (sV (.int .i64) .s) fun y3 => .e ⟨y0, y3⟩
noncomputable def zWja (R : Type) (K : Ex → St → Option R) : (zWba → Option R) → zWba → Option R := zXba (fun e2 => K .ret (St.ofList [(2, (.v .bool .s e2))])) (fun e0 => K (.exit 0) (St.ofList [(0, (.v .str .s e0))]))
noncomputable def zvga : Code := match zofa 2 (body Tryd.f40.body) with | some c => c | none => .skip
noncomputable def zjfa : Loops := fun z i R st K => match z, i with
 | false, 2 => lpE zXia zKia (lpL zWja K) st
 | _, _ => none
theorem zkla : LStep zFca zjfa inl0 zvga zXia zmma zgoa zWja := fun R K rec x => by kernel_rfl
theorem zpna : zpha zFca zjfa inl0 zvga := zOba zkla (p := zKia) (i := 2) (fun _ _ => ⟨rfl, rfl⟩) (by kernel_rfl) (fun R st K => by kernel_rfl)
theorem zvma : zXaa zFca zjfa inl0 (body Tryd.f40.body) := by
 refine zBaa (fun c hc => ?_) (fun c hc => ?_)
 ·rw [show zgea (body Tryd.f40.body) = [zvga] by kernel_rfl] at hc
  simp only [List.mem_cons, List.not_mem_nil, or_false] at hc
  rcases hc with rfl
  ·exact zpna
 ·rw [show zhea zFca (body Tryd.f40.body) = [] by kernel_rfl] at hc; cases hc
noncomputable def zlaa {R : Type} (a0 : List UInt8) (K : Bool → Option R) : Option R :=
 loopN (zXba (fun w1 =>
 K w1) (fun w2 =>
 let v3 := ((List.length w2 : Nat) : Int)
 let v4 := decide (v3 ≥ (1 : Int))
 cond v4
 (let v5 := ((List.length w2 : Nat) : Int)
 let v6 := decide (v5 ≤ (16 : Int))
 K v6)
 (K false))) zvfa ⟨a0, (0 : Int)⟩
noncomputable def zWka : CSpec := { ins := [(.val .str .s)], outs := [(.bool, .s)], fn := fun (d : (List UInt8) × Unit) K _ => zlaa d.1 (fun r0 => K ((r0, ()) : Bool × Unit) ((()) : Unit)) }
theorem zxpa : Holds Tryd.prog 40 zWka := zsaa (env := zFca) (inl := inl0) (lp := zjfa) (rs := [(2, none)]) (code := body Tryd.f40.body) ⟨mixed, envTyOk.ty, envTyOk.eq⟩ (fun _ _ _ h => by cases h) zRaa Tryd.func40 zvma (by kernel_rfl) (by kernel_rfl) (by kernel_rfl) (by kernel_rfl) (by kernel_rfl) (by kernel_rfl) fun d R K Kp => by kernel_rfl
noncomputable def zOka : List (FuncId × List FuncId × CSpec) := [(36, [], zLha), (37, [], zUka), (38, [], zRja), (39, [], zqea), (40, [], zWka), (41, [], zqga)]
noncomputable def zlqa : Nat → Bool
 | 27 => true
 | _ => false
noncomputable def zkqa : Nat → Option (List Nat)
 | 0 => some [0]
 | 1 => some [0, 2]
 | 2 => some [0, 2, 4]
 | 3 => some [0, 2, 4, 5, 6]
 | 4 => some [2, 4]
 | 5 => some [0, 2, 4, 5, 6, 7]
 | 6 => some [0, 2, 4, 6]
 | 7 => some [0, 2, 4, 6]
 | 8 => some [0, 2, 4, 5, 6, 7]
 | 9 => some [0, 2, 4, 6]
 | 10 => some [0, 2, 4, 6]
 | 11 => some [0, 2, 4, 5, 6, 7]
 | 12 => some [0, 2, 4, 6]
 | 13 => some [0, 2, 4, 6]
 | 14 => some [0, 2, 4, 5, 6, 7]
 | 15 => some [0, 2, 4, 6]
 | 16 => some [0, 2, 4, 6]
 | 17 => some [0, 2, 4, 5, 6, 7]
 | 18 => some [0, 2, 4]
 | 19 => some [0, 2, 4]
 | 20 => some [0, 2, 4, 5]
 | 21 => some [0, 2, 4, 5, 6, 7]
 | 22 => some [0, 2, 4, 5, 6]
 | 23 => some [0, 2, 4, 7]
 | 24 => some [0, 2, 4]
 | 25 => some [0, 2, 4]
 | 26 => some [0, 2, 4, 5]
 | 27 => some [2, 4, 5, 6]
 | _ => none
noncomputable def zfda : Env := { ty := envTy, eq := envEq, gam := (gamL zOka), n := Tryd.f18.ntmps, js := zlqa, lv := zkqa }
theorem zaoa : EnvFn Tryd.prog zfda := fun f gs c h => zCba (l := zOka) ⟨zXla, zvpa, zQoa, zGha, zxpa, zLka, trivial⟩ f gs c h
structure zlfa where
 f0 : List (List UInt8)
 f2 : (Int) × It3
 f4 : (Int) × It3
 f5 : Bool
 f6 : Bool
 f7 : Int
noncomputable def zAaa {R : Type} (k_normal : ((Int) × It3) → ((Int) × It3) → Bool → Bool → Option R) (k_ret : ((Int) × It3) → Bool → Option R) (x : zlfa) : Option R :=
 cond (inB (0 : Int) (List.length x.f0))
 (let v1 := List.getD x.f0 (0 : Int).toNat ([] : List UInt8)
 let v2 := v1 == ([98, 121, 116, 101, 115] : List UInt8)
 cond v2
 (let v3 := x.f7 == (2 : Int)
 cond v3
 (cond (inB (1 : Int) (List.length x.f0))
 (let v4 := List.getD x.f0 (1 : Int).toNat ([] : List UInt8)
 zuba v4 fun r5 r6 =>
 k_normal x.f2 ((1 : Int), (r5, x.f4.2.2)) r6 x.f6) none)
 (cond (inB (0 : Int) (List.length x.f0))
 (let v7 := List.getD x.f0 (0 : Int).toNat ([] : List UInt8)
 let v8 := v7 == ([103, 105, 118, 101] : List UInt8)
 cond v8
 (cond (inR (1 : Int) ((List.length x.f0 : Nat) : Int) (List.length x.f0))
 (let v9 := rng x.f0 (1 : Int) ((List.length x.f0 : Nat) : Int)
 zWaa v9 fun r10 r11 =>
 k_normal x.f2 ((2 : Int), (x.f4.2.1, (r10, x.f4.2.2.2))) r11 x.f6) none)
 (cond (inB (0 : Int) (List.length x.f0))
 (let v12 := List.getD x.f0 (0 : Int).toNat ([] : List UInt8)
 let v13 := v12 == ([99, 104, 111, 105, 99, 101] : List UInt8)
 cond v13
 (cond (inR (1 : Int) ((List.length x.f0 : Nat) : Int) (List.length x.f0))
 (let v14 := rng x.f0 (1 : Int) ((List.length x.f0 : Nat) : Int)
 znca v14 fun r15 r16 =>
 k_normal x.f2 ((3 : Int), (x.f4.2.1, (x.f4.2.2.1, (r15, x.f4.2.2.2.2)))) r16 x.f6) none)
 (cond (inB (0 : Int) (List.length x.f0))
 (let v17 := List.getD x.f0 (0 : Int).toNat ([] : List UInt8)
 let v18 := v17 == ([111, 112, 101, 110] : List UInt8)
 cond v18
 (let v19 := x.f7 == (2 : Int)
 cond v19
 (cond (inB (1 : Int) (List.length x.f0))
 (let v20 := List.getD x.f0 (1 : Int).toNat ([] : List UInt8)
 zaaa v20 fun r21 r22 =>
 k_normal x.f2 ((4 : Int), (x.f4.2.1, (x.f4.2.2.1, (x.f4.2.2.2.1, (x.f4.2.2.2.2.1, (x.f4.2.2.2.2.2.1, (r21, x.f4.2.2.2.2.2.2.2))))))) r22 x.f6) none)
 (cond (inB (0 : Int) (List.length x.f0))
 (let v23 := List.getD x.f0 (0 : Int).toNat ([] : List UInt8)
 let v24 := v23 == ([99, 97, 108, 108] : List UInt8)
 cond v24
 (let v25 := decide (x.f7 ≥ (3 : Int))
 cond v25
 (cond (inB (1 : Int) (List.length x.f0))
 (let v26 := List.getD x.f0 (1 : Int).toNat ([] : List UInt8)
 zlaa v26 fun r27 =>
 cond r27
 (cond (inB (1 : Int) (List.length x.f0))
 (let v28 := List.getD x.f0 (1 : Int).toNat ([] : List UInt8)
 cond (inB (2 : Int) (List.length x.f0))
 (let v29 := List.getD x.f0 (2 : Int).toNat ([] : List UInt8)
 zaaa v29 fun r30 r31 =>
 cond (inR (3 : Int) ((List.length x.f0 : Nat) : Int) (List.length x.f0))
 (let v32 := rng x.f0 (3 : Int) ((List.length x.f0 : Nat) : Int)
 zNaa v32 fun r33 r34 =>
 k_normal x.f2 ((5 : Int), (x.f4.2.1, (x.f4.2.2.1, (x.f4.2.2.2.1, (v28, (r33, (r30, x.f4.2.2.2.2.2.2.2))))))) r31 r34) none) none) none)
 (cond (inB (0 : Int) (List.length x.f0))
 (let v35 := List.getD x.f0 (0 : Int).toNat ([] : List UInt8)
 let v36 := v35 == ([114, 101, 97, 100] : List UInt8)
 cond v36
 (let v37 := x.f7 == (2 : Int)
 cond v37
 (cond (inB (1 : Int) (List.length x.f0))
 (let v38 := List.getD x.f0 (1 : Int).toNat ([] : List UInt8)
 zlaa v38 fun r39 =>
 cond r39
 (cond (inB (1 : Int) (List.length x.f0))
 (let v40 := List.getD x.f0 (1 : Int).toNat ([] : List UInt8)
 k_normal x.f2 ((6 : Int), (x.f4.2.1, (x.f4.2.2.1, (x.f4.2.2.2.1, (v40, x.f4.2.2.2.2.2))))) x.f5 x.f6) none)
 (cond (inB (0 : Int) (List.length x.f0))
 (let v41 := List.getD x.f0 (0 : Int).toNat ([] : List UInt8)
 let v42 := v41 == ([112, 101, 101, 107] : List UInt8)
 cond v42
 (let v43 := x.f7 == (3 : Int)
 cond v43
 (cond (inB (1 : Int) (List.length x.f0))
 (let v44 := List.getD x.f0 (1 : Int).toNat ([] : List UInt8)
 zaaa v44 fun r45 r46 =>
 cond (inB (2 : Int) (List.length x.f0))
 (let v47 := List.getD x.f0 (2 : Int).toNat ([] : List UInt8)
 zaaa v47 fun r48 r49 =>
 k_normal x.f2 ((7 : Int), (x.f4.2.1, (x.f4.2.2.1, (x.f4.2.2.2.1, (x.f4.2.2.2.2.1, (x.f4.2.2.2.2.2.1, (x.f4.2.2.2.2.2.2.1, (r45, (r48, x.f4.2.2.2.2.2.2.2.2.2))))))))) r46 r49) none) none)
 (k_ret x.f4 false))
 (k_ret x.f4 false)) none)) none)
 (cond (inB (0 : Int) (List.length x.f0))
 (let v50 := List.getD x.f0 (0 : Int).toNat ([] : List UInt8)
 let v51 := v50 == ([112, 101, 101, 107] : List UInt8)
 cond v51
 (let v52 := x.f7 == (3 : Int)
 cond v52
 (cond (inB (1 : Int) (List.length x.f0))
 (let v53 := List.getD x.f0 (1 : Int).toNat ([] : List UInt8)
 zaaa v53 fun r54 r55 =>
 cond (inB (2 : Int) (List.length x.f0))
 (let v56 := List.getD x.f0 (2 : Int).toNat ([] : List UInt8)
 zaaa v56 fun r57 r58 =>
 k_normal x.f2 ((7 : Int), (x.f4.2.1, (x.f4.2.2.1, (x.f4.2.2.2.1, (x.f4.2.2.2.2.1, (x.f4.2.2.2.2.2.1, (x.f4.2.2.2.2.2.2.1, (r54, (r57, x.f4.2.2.2.2.2.2.2.2.2))))))))) r55 r58) none) none)
 (k_ret x.f4 false))
 (k_ret x.f4 false)) none))
 (cond (inB (0 : Int) (List.length x.f0))
 (let v59 := List.getD x.f0 (0 : Int).toNat ([] : List UInt8)
 let v60 := v59 == ([112, 101, 101, 107] : List UInt8)
 cond v60
 (let v61 := x.f7 == (3 : Int)
 cond v61
 (cond (inB (1 : Int) (List.length x.f0))
 (let v62 := List.getD x.f0 (1 : Int).toNat ([] : List UInt8)
 zaaa v62 fun r63 r64 =>
 cond (inB (2 : Int) (List.length x.f0))
 (let v65 := List.getD x.f0 (2 : Int).toNat ([] : List UInt8)
 zaaa v65 fun r66 r67 =>
 k_normal x.f2 ((7 : Int), (x.f4.2.1, (x.f4.2.2.1, (x.f4.2.2.2.1, (x.f4.2.2.2.2.1, (x.f4.2.2.2.2.2.1, (x.f4.2.2.2.2.2.2.1, (r63, (r66, x.f4.2.2.2.2.2.2.2.2.2))))))))) r64 r67) none) none)
 (k_ret x.f4 false))
 (k_ret x.f4 false)) none)) none)) none)
 (cond (inB (0 : Int) (List.length x.f0))
 (let v68 := List.getD x.f0 (0 : Int).toNat ([] : List UInt8)
 let v69 := v68 == ([114, 101, 97, 100] : List UInt8)
 cond v69
 (let v70 := x.f7 == (2 : Int)
 cond v70
 (cond (inB (1 : Int) (List.length x.f0))
 (let v71 := List.getD x.f0 (1 : Int).toNat ([] : List UInt8)
 zlaa v71 fun r72 =>
 cond r72
 (cond (inB (1 : Int) (List.length x.f0))
 (let v73 := List.getD x.f0 (1 : Int).toNat ([] : List UInt8)
 k_normal x.f2 ((6 : Int), (x.f4.2.1, (x.f4.2.2.1, (x.f4.2.2.2.1, (v73, x.f4.2.2.2.2.2))))) x.f5 x.f6) none)
 (cond (inB (0 : Int) (List.length x.f0))
 (let v74 := List.getD x.f0 (0 : Int).toNat ([] : List UInt8)
 let v75 := v74 == ([112, 101, 101, 107] : List UInt8)
 cond v75
 (let v76 := x.f7 == (3 : Int)
 cond v76
 (cond (inB (1 : Int) (List.length x.f0))
 (let v77 := List.getD x.f0 (1 : Int).toNat ([] : List UInt8)
 zaaa v77 fun r78 r79 =>
 cond (inB (2 : Int) (List.length x.f0))
 (let v80 := List.getD x.f0 (2 : Int).toNat ([] : List UInt8)
 zaaa v80 fun r81 r82 =>
 k_normal x.f2 ((7 : Int), (x.f4.2.1, (x.f4.2.2.1, (x.f4.2.2.2.1, (x.f4.2.2.2.2.1, (x.f4.2.2.2.2.2.1, (x.f4.2.2.2.2.2.2.1, (r78, (r81, x.f4.2.2.2.2.2.2.2.2.2))))))))) r79 r82) none) none)
 (k_ret x.f4 false))
 (k_ret x.f4 false)) none)) none)
 (cond (inB (0 : Int) (List.length x.f0))
 (let v83 := List.getD x.f0 (0 : Int).toNat ([] : List UInt8)
 let v84 := v83 == ([112, 101, 101, 107] : List UInt8)
 cond v84
 (let v85 := x.f7 == (3 : Int)
 cond v85
 (cond (inB (1 : Int) (List.length x.f0))
 (let v86 := List.getD x.f0 (1 : Int).toNat ([] : List UInt8)
 zaaa v86 fun r87 r88 =>
 cond (inB (2 : Int) (List.length x.f0))
 (let v89 := List.getD x.f0 (2 : Int).toNat ([] : List UInt8)
 zaaa v89 fun r90 r91 =>
 k_normal x.f2 ((7 : Int), (x.f4.2.1, (x.f4.2.2.1, (x.f4.2.2.2.1, (x.f4.2.2.2.2.1, (x.f4.2.2.2.2.2.1, (x.f4.2.2.2.2.2.2.1, (r87, (r90, x.f4.2.2.2.2.2.2.2.2.2))))))))) r88 r91) none) none)
 (k_ret x.f4 false))
 (k_ret x.f4 false)) none))
 (cond (inB (0 : Int) (List.length x.f0))
 (let v92 := List.getD x.f0 (0 : Int).toNat ([] : List UInt8)
 let v93 := v92 == ([112, 101, 101, 107] : List UInt8)
 cond v93
 (let v94 := x.f7 == (3 : Int)
 cond v94
 (cond (inB (1 : Int) (List.length x.f0))
 (let v95 := List.getD x.f0 (1 : Int).toNat ([] : List UInt8)
 zaaa v95 fun r96 r97 =>
 cond (inB (2 : Int) (List.length x.f0))
 (let v98 := List.getD x.f0 (2 : Int).toNat ([] : List UInt8)
 zaaa v98 fun r99 r100 =>
 k_normal x.f2 ((7 : Int), (x.f4.2.1, (x.f4.2.2.1, (x.f4.2.2.2.1, (x.f4.2.2.2.2.1, (x.f4.2.2.2.2.2.1, (x.f4.2.2.2.2.2.2.1, (r96, (r99, x.f4.2.2.2.2.2.2.2.2.2))))))))) r97 r100) none) none)
 (k_ret x.f4 false))
 (k_ret x.f4 false)) none)) none))
 (cond (inB (0 : Int) (List.length x.f0))
 (let v101 := List.getD x.f0 (0 : Int).toNat ([] : List UInt8)
 let v102 := v101 == ([114, 101, 97, 100] : List UInt8)
 cond v102
 (let v103 := x.f7 == (2 : Int)
 cond v103
 (cond (inB (1 : Int) (List.length x.f0))
 (let v104 := List.getD x.f0 (1 : Int).toNat ([] : List UInt8)
 zlaa v104 fun r105 =>
 cond r105
 (cond (inB (1 : Int) (List.length x.f0))
 (let v106 := List.getD x.f0 (1 : Int).toNat ([] : List UInt8)
 k_normal x.f2 ((6 : Int), (x.f4.2.1, (x.f4.2.2.1, (x.f4.2.2.2.1, (v106, x.f4.2.2.2.2.2))))) x.f5 x.f6) none)
 (cond (inB (0 : Int) (List.length x.f0))
 (let v107 := List.getD x.f0 (0 : Int).toNat ([] : List UInt8)
 let v108 := v107 == ([112, 101, 101, 107] : List UInt8)
 cond v108
 (let v109 := x.f7 == (3 : Int)
 cond v109
 (cond (inB (1 : Int) (List.length x.f0))
 (let v110 := List.getD x.f0 (1 : Int).toNat ([] : List UInt8)
 zaaa v110 fun r111 r112 =>
 cond (inB (2 : Int) (List.length x.f0))
 (let v113 := List.getD x.f0 (2 : Int).toNat ([] : List UInt8)
 zaaa v113 fun r114 r115 =>
 k_normal x.f2 ((7 : Int), (x.f4.2.1, (x.f4.2.2.1, (x.f4.2.2.2.1, (x.f4.2.2.2.2.1, (x.f4.2.2.2.2.2.1, (x.f4.2.2.2.2.2.2.1, (r111, (r114, x.f4.2.2.2.2.2.2.2.2.2))))))))) r112 r115) none) none)
 (k_ret x.f4 false))
 (k_ret x.f4 false)) none)) none)
 (cond (inB (0 : Int) (List.length x.f0))
 (let v116 := List.getD x.f0 (0 : Int).toNat ([] : List UInt8)
 let v117 := v116 == ([112, 101, 101, 107] : List UInt8)
 cond v117
 (let v118 := x.f7 == (3 : Int)
 cond v118
 (cond (inB (1 : Int) (List.length x.f0))
 (let v119 := List.getD x.f0 (1 : Int).toNat ([] : List UInt8)
 zaaa v119 fun r120 r121 =>
 cond (inB (2 : Int) (List.length x.f0))
 (let v122 := List.getD x.f0 (2 : Int).toNat ([] : List UInt8)
 zaaa v122 fun r123 r124 =>
 k_normal x.f2 ((7 : Int), (x.f4.2.1, (x.f4.2.2.1, (x.f4.2.2.2.1, (x.f4.2.2.2.2.1, (x.f4.2.2.2.2.2.1, (x.f4.2.2.2.2.2.2.1, (r120, (r123, x.f4.2.2.2.2.2.2.2.2.2))))))))) r121 r124) none) none)
 (k_ret x.f4 false))
 (k_ret x.f4 false)) none))
 (cond (inB (0 : Int) (List.length x.f0))
 (let v125 := List.getD x.f0 (0 : Int).toNat ([] : List UInt8)
 let v126 := v125 == ([112, 101, 101, 107] : List UInt8)
 cond v126
 (let v127 := x.f7 == (3 : Int)
 cond v127
 (cond (inB (1 : Int) (List.length x.f0))
 (let v128 := List.getD x.f0 (1 : Int).toNat ([] : List UInt8)
 zaaa v128 fun r129 r130 =>
 cond (inB (2 : Int) (List.length x.f0))
 (let v131 := List.getD x.f0 (2 : Int).toNat ([] : List UInt8)
 zaaa v131 fun r132 r133 =>
 k_normal x.f2 ((7 : Int), (x.f4.2.1, (x.f4.2.2.1, (x.f4.2.2.2.1, (x.f4.2.2.2.2.1, (x.f4.2.2.2.2.2.1, (x.f4.2.2.2.2.2.2.1, (r129, (r132, x.f4.2.2.2.2.2.2.2.2.2))))))))) r130 r133) none) none)
 (k_ret x.f4 false))
 (k_ret x.f4 false)) none)) none)) none))
 (cond (inB (0 : Int) (List.length x.f0))
 (let v134 := List.getD x.f0 (0 : Int).toNat ([] : List UInt8)
 let v135 := v134 == ([99, 97, 108, 108] : List UInt8)
 cond v135
 (let v136 := decide (x.f7 ≥ (3 : Int))
 cond v136
 (cond (inB (1 : Int) (List.length x.f0))
 (let v137 := List.getD x.f0 (1 : Int).toNat ([] : List UInt8)
 zlaa v137 fun r138 =>
 cond r138
 (cond (inB (1 : Int) (List.length x.f0))
 (let v139 := List.getD x.f0 (1 : Int).toNat ([] : List UInt8)
 cond (inB (2 : Int) (List.length x.f0))
 (let v140 := List.getD x.f0 (2 : Int).toNat ([] : List UInt8)
 zaaa v140 fun r141 r142 =>
 cond (inR (3 : Int) ((List.length x.f0 : Nat) : Int) (List.length x.f0))
 (let v143 := rng x.f0 (3 : Int) ((List.length x.f0 : Nat) : Int)
 zNaa v143 fun r144 r145 =>
 k_normal x.f2 ((5 : Int), (x.f4.2.1, (x.f4.2.2.1, (x.f4.2.2.2.1, (v139, (r144, (r141, x.f4.2.2.2.2.2.2.2))))))) r142 r145) none) none) none)
 (cond (inB (0 : Int) (List.length x.f0))
 (let v146 := List.getD x.f0 (0 : Int).toNat ([] : List UInt8)
 let v147 := v146 == ([114, 101, 97, 100] : List UInt8)
 cond v147
 (let v148 := x.f7 == (2 : Int)
 cond v148
 (cond (inB (1 : Int) (List.length x.f0))
 (let v149 := List.getD x.f0 (1 : Int).toNat ([] : List UInt8)
 zlaa v149 fun r150 =>
 cond r150
 (cond (inB (1 : Int) (List.length x.f0))
 (let v151 := List.getD x.f0 (1 : Int).toNat ([] : List UInt8)
 k_normal x.f2 ((6 : Int), (x.f4.2.1, (x.f4.2.2.1, (x.f4.2.2.2.1, (v151, x.f4.2.2.2.2.2))))) x.f5 x.f6) none)
 (cond (inB (0 : Int) (List.length x.f0))
 (let v152 := List.getD x.f0 (0 : Int).toNat ([] : List UInt8)
 let v153 := v152 == ([112, 101, 101, 107] : List UInt8)
 cond v153
 (let v154 := x.f7 == (3 : Int)
 cond v154
 (cond (inB (1 : Int) (List.length x.f0))
 (let v155 := List.getD x.f0 (1 : Int).toNat ([] : List UInt8)
 zaaa v155 fun r156 r157 =>
 cond (inB (2 : Int) (List.length x.f0))
 (let v158 := List.getD x.f0 (2 : Int).toNat ([] : List UInt8)
 zaaa v158 fun r159 r160 =>
 k_normal x.f2 ((7 : Int), (x.f4.2.1, (x.f4.2.2.1, (x.f4.2.2.2.1, (x.f4.2.2.2.2.1, (x.f4.2.2.2.2.2.1, (x.f4.2.2.2.2.2.2.1, (r156, (r159, x.f4.2.2.2.2.2.2.2.2.2))))))))) r157 r160) none) none)
 (k_ret x.f4 false))
 (k_ret x.f4 false)) none)) none)
 (cond (inB (0 : Int) (List.length x.f0))
 (let v161 := List.getD x.f0 (0 : Int).toNat ([] : List UInt8)
 let v162 := v161 == ([112, 101, 101, 107] : List UInt8)
 cond v162
 (let v163 := x.f7 == (3 : Int)
 cond v163
 (cond (inB (1 : Int) (List.length x.f0))
 (let v164 := List.getD x.f0 (1 : Int).toNat ([] : List UInt8)
 zaaa v164 fun r165 r166 =>
 cond (inB (2 : Int) (List.length x.f0))
 (let v167 := List.getD x.f0 (2 : Int).toNat ([] : List UInt8)
 zaaa v167 fun r168 r169 =>
 k_normal x.f2 ((7 : Int), (x.f4.2.1, (x.f4.2.2.1, (x.f4.2.2.2.1, (x.f4.2.2.2.2.1, (x.f4.2.2.2.2.2.1, (x.f4.2.2.2.2.2.2.1, (r165, (r168, x.f4.2.2.2.2.2.2.2.2.2))))))))) r166 r169) none) none)
 (k_ret x.f4 false))
 (k_ret x.f4 false)) none))
 (cond (inB (0 : Int) (List.length x.f0))
 (let v170 := List.getD x.f0 (0 : Int).toNat ([] : List UInt8)
 let v171 := v170 == ([112, 101, 101, 107] : List UInt8)
 cond v171
 (let v172 := x.f7 == (3 : Int)
 cond v172
 (cond (inB (1 : Int) (List.length x.f0))
 (let v173 := List.getD x.f0 (1 : Int).toNat ([] : List UInt8)
 zaaa v173 fun r174 r175 =>
 cond (inB (2 : Int) (List.length x.f0))
 (let v176 := List.getD x.f0 (2 : Int).toNat ([] : List UInt8)
 zaaa v176 fun r177 r178 =>
 k_normal x.f2 ((7 : Int), (x.f4.2.1, (x.f4.2.2.1, (x.f4.2.2.2.1, (x.f4.2.2.2.2.1, (x.f4.2.2.2.2.2.1, (x.f4.2.2.2.2.2.2.1, (r174, (r177, x.f4.2.2.2.2.2.2.2.2.2))))))))) r175 r178) none) none)
 (k_ret x.f4 false))
 (k_ret x.f4 false)) none)) none)) none)
 (cond (inB (0 : Int) (List.length x.f0))
 (let v179 := List.getD x.f0 (0 : Int).toNat ([] : List UInt8)
 let v180 := v179 == ([114, 101, 97, 100] : List UInt8)
 cond v180
 (let v181 := x.f7 == (2 : Int)
 cond v181
 (cond (inB (1 : Int) (List.length x.f0))
 (let v182 := List.getD x.f0 (1 : Int).toNat ([] : List UInt8)
 zlaa v182 fun r183 =>
 cond r183
 (cond (inB (1 : Int) (List.length x.f0))
 (let v184 := List.getD x.f0 (1 : Int).toNat ([] : List UInt8)
 k_normal x.f2 ((6 : Int), (x.f4.2.1, (x.f4.2.2.1, (x.f4.2.2.2.1, (v184, x.f4.2.2.2.2.2))))) x.f5 x.f6) none)
 (cond (inB (0 : Int) (List.length x.f0))
 (let v185 := List.getD x.f0 (0 : Int).toNat ([] : List UInt8)
 let v186 := v185 == ([112, 101, 101, 107] : List UInt8)
 cond v186
 (let v187 := x.f7 == (3 : Int)
 cond v187
 (cond (inB (1 : Int) (List.length x.f0))
 (let v188 := List.getD x.f0 (1 : Int).toNat ([] : List UInt8)
 zaaa v188 fun r189 r190 =>
 cond (inB (2 : Int) (List.length x.f0))
 (let v191 := List.getD x.f0 (2 : Int).toNat ([] : List UInt8)
 zaaa v191 fun r192 r193 =>
 k_normal x.f2 ((7 : Int), (x.f4.2.1, (x.f4.2.2.1, (x.f4.2.2.2.1, (x.f4.2.2.2.2.1, (x.f4.2.2.2.2.2.1, (x.f4.2.2.2.2.2.2.1, (r189, (r192, x.f4.2.2.2.2.2.2.2.2.2))))))))) r190 r193) none) none)
 (k_ret x.f4 false))
 (k_ret x.f4 false)) none)) none)
 (cond (inB (0 : Int) (List.length x.f0))
 (let v194 := List.getD x.f0 (0 : Int).toNat ([] : List UInt8)
 let v195 := v194 == ([112, 101, 101, 107] : List UInt8)
 cond v195
 (let v196 := x.f7 == (3 : Int)
 cond v196
 (cond (inB (1 : Int) (List.length x.f0))
 (let v197 := List.getD x.f0 (1 : Int).toNat ([] : List UInt8)
 zaaa v197 fun r198 r199 =>
 cond (inB (2 : Int) (List.length x.f0))
 (let v200 := List.getD x.f0 (2 : Int).toNat ([] : List UInt8)
 zaaa v200 fun r201 r202 =>
 k_normal x.f2 ((7 : Int), (x.f4.2.1, (x.f4.2.2.1, (x.f4.2.2.2.1, (x.f4.2.2.2.2.1, (x.f4.2.2.2.2.2.1, (x.f4.2.2.2.2.2.2.1, (r198, (r201, x.f4.2.2.2.2.2.2.2.2.2))))))))) r199 r202) none) none)
 (k_ret x.f4 false))
 (k_ret x.f4 false)) none))
 (cond (inB (0 : Int) (List.length x.f0))
 (let v203 := List.getD x.f0 (0 : Int).toNat ([] : List UInt8)
 let v204 := v203 == ([112, 101, 101, 107] : List UInt8)
 cond v204
 (let v205 := x.f7 == (3 : Int)
 cond v205
 (cond (inB (1 : Int) (List.length x.f0))
 (let v206 := List.getD x.f0 (1 : Int).toNat ([] : List UInt8)
 zaaa v206 fun r207 r208 =>
 cond (inB (2 : Int) (List.length x.f0))
 (let v209 := List.getD x.f0 (2 : Int).toNat ([] : List UInt8)
 zaaa v209 fun r210 r211 =>
 k_normal x.f2 ((7 : Int), (x.f4.2.1, (x.f4.2.2.1, (x.f4.2.2.2.1, (x.f4.2.2.2.2.1, (x.f4.2.2.2.2.2.1, (x.f4.2.2.2.2.2.2.1, (r207, (r210, x.f4.2.2.2.2.2.2.2.2.2))))))))) r208 r211) none) none)
 (k_ret x.f4 false))
 (k_ret x.f4 false)) none)) none))
 (cond (inB (0 : Int) (List.length x.f0))
 (let v212 := List.getD x.f0 (0 : Int).toNat ([] : List UInt8)
 let v213 := v212 == ([114, 101, 97, 100] : List UInt8)
 cond v213
 (let v214 := x.f7 == (2 : Int)
 cond v214
 (cond (inB (1 : Int) (List.length x.f0))
 (let v215 := List.getD x.f0 (1 : Int).toNat ([] : List UInt8)
 zlaa v215 fun r216 =>
 cond r216
 (cond (inB (1 : Int) (List.length x.f0))
 (let v217 := List.getD x.f0 (1 : Int).toNat ([] : List UInt8)
 k_normal x.f2 ((6 : Int), (x.f4.2.1, (x.f4.2.2.1, (x.f4.2.2.2.1, (v217, x.f4.2.2.2.2.2))))) x.f5 x.f6) none)
 (cond (inB (0 : Int) (List.length x.f0))
 (let v218 := List.getD x.f0 (0 : Int).toNat ([] : List UInt8)
 let v219 := v218 == ([112, 101, 101, 107] : List UInt8)
 cond v219
 (let v220 := x.f7 == (3 : Int)
 cond v220
 (cond (inB (1 : Int) (List.length x.f0))
 (let v221 := List.getD x.f0 (1 : Int).toNat ([] : List UInt8)
 zaaa v221 fun r222 r223 =>
 cond (inB (2 : Int) (List.length x.f0))
 (let v224 := List.getD x.f0 (2 : Int).toNat ([] : List UInt8)
 zaaa v224 fun r225 r226 =>
 k_normal x.f2 ((7 : Int), (x.f4.2.1, (x.f4.2.2.1, (x.f4.2.2.2.1, (x.f4.2.2.2.2.1, (x.f4.2.2.2.2.2.1, (x.f4.2.2.2.2.2.2.1, (r222, (r225, x.f4.2.2.2.2.2.2.2.2.2))))))))) r223 r226) none) none)
 (k_ret x.f4 false))
 (k_ret x.f4 false)) none)) none)
 (cond (inB (0 : Int) (List.length x.f0))
 (let v227 := List.getD x.f0 (0 : Int).toNat ([] : List UInt8)
 let v228 := v227 == ([112, 101, 101, 107] : List UInt8)
 cond v228
 (let v229 := x.f7 == (3 : Int)
 cond v229
 (cond (inB (1 : Int) (List.length x.f0))
 (let v230 := List.getD x.f0 (1 : Int).toNat ([] : List UInt8)
 zaaa v230 fun r231 r232 =>
 cond (inB (2 : Int) (List.length x.f0))
 (let v233 := List.getD x.f0 (2 : Int).toNat ([] : List UInt8)
 zaaa v233 fun r234 r235 =>
 k_normal x.f2 ((7 : Int), (x.f4.2.1, (x.f4.2.2.1, (x.f4.2.2.2.1, (x.f4.2.2.2.2.1, (x.f4.2.2.2.2.2.1, (x.f4.2.2.2.2.2.2.1, (r231, (r234, x.f4.2.2.2.2.2.2.2.2.2))))))))) r232 r235) none) none)
 (k_ret x.f4 false))
 (k_ret x.f4 false)) none))
 (cond (inB (0 : Int) (List.length x.f0))
 (let v236 := List.getD x.f0 (0 : Int).toNat ([] : List UInt8)
 let v237 := v236 == ([112, 101, 101, 107] : List UInt8)
 cond v237
 (let v238 := x.f7 == (3 : Int)
 cond v238
 (cond (inB (1 : Int) (List.length x.f0))
 (let v239 := List.getD x.f0 (1 : Int).toNat ([] : List UInt8)
 zaaa v239 fun r240 r241 =>
 cond (inB (2 : Int) (List.length x.f0))
 (let v242 := List.getD x.f0 (2 : Int).toNat ([] : List UInt8)
 zaaa v242 fun r243 r244 =>
 k_normal x.f2 ((7 : Int), (x.f4.2.1, (x.f4.2.2.1, (x.f4.2.2.2.1, (x.f4.2.2.2.2.1, (x.f4.2.2.2.2.2.1, (x.f4.2.2.2.2.2.2.1, (r240, (r243, x.f4.2.2.2.2.2.2.2.2.2))))))))) r241 r244) none) none)
 (k_ret x.f4 false))
 (k_ret x.f4 false)) none)) none)) none)) none)) none)) none))
 (cond (inB (0 : Int) (List.length x.f0))
 (let v245 := List.getD x.f0 (0 : Int).toNat ([] : List UInt8)
 let v246 := v245 == ([103, 105, 118, 101] : List UInt8)
 cond v246
 (cond (inR (1 : Int) ((List.length x.f0 : Nat) : Int) (List.length x.f0))
 (let v247 := rng x.f0 (1 : Int) ((List.length x.f0 : Nat) : Int)
 zWaa v247 fun r248 r249 =>
 k_normal x.f2 ((2 : Int), (x.f4.2.1, (r248, x.f4.2.2.2))) r249 x.f6) none)
 (cond (inB (0 : Int) (List.length x.f0))
 (let v250 := List.getD x.f0 (0 : Int).toNat ([] : List UInt8)
 let v251 := v250 == ([99, 104, 111, 105, 99, 101] : List UInt8)
 cond v251
 (cond (inR (1 : Int) ((List.length x.f0 : Nat) : Int) (List.length x.f0))
 (let v252 := rng x.f0 (1 : Int) ((List.length x.f0 : Nat) : Int)
 znca v252 fun r253 r254 =>
 k_normal x.f2 ((3 : Int), (x.f4.2.1, (x.f4.2.2.1, (r253, x.f4.2.2.2.2)))) r254 x.f6) none)
 (cond (inB (0 : Int) (List.length x.f0))
 (let v255 := List.getD x.f0 (0 : Int).toNat ([] : List UInt8)
 let v256 := v255 == ([111, 112, 101, 110] : List UInt8)
 cond v256
 (let v257 := x.f7 == (2 : Int)
 cond v257
 (cond (inB (1 : Int) (List.length x.f0))
 (let v258 := List.getD x.f0 (1 : Int).toNat ([] : List UInt8)
 zaaa v258 fun r259 r260 =>
 k_normal x.f2 ((4 : Int), (x.f4.2.1, (x.f4.2.2.1, (x.f4.2.2.2.1, (x.f4.2.2.2.2.1, (x.f4.2.2.2.2.2.1, (r259, x.f4.2.2.2.2.2.2.2))))))) r260 x.f6) none)
 (cond (inB (0 : Int) (List.length x.f0))
 (let v261 := List.getD x.f0 (0 : Int).toNat ([] : List UInt8)
 let v262 := v261 == ([99, 97, 108, 108] : List UInt8)
 cond v262
 (let v263 := decide (x.f7 ≥ (3 : Int))
 cond v263
 (cond (inB (1 : Int) (List.length x.f0))
 (let v264 := List.getD x.f0 (1 : Int).toNat ([] : List UInt8)
 zlaa v264 fun r265 =>
 cond r265
 (cond (inB (1 : Int) (List.length x.f0))
 (let v266 := List.getD x.f0 (1 : Int).toNat ([] : List UInt8)
 cond (inB (2 : Int) (List.length x.f0))
 (let v267 := List.getD x.f0 (2 : Int).toNat ([] : List UInt8)
 zaaa v267 fun r268 r269 =>
 cond (inR (3 : Int) ((List.length x.f0 : Nat) : Int) (List.length x.f0))
 (let v270 := rng x.f0 (3 : Int) ((List.length x.f0 : Nat) : Int)
 zNaa v270 fun r271 r272 =>
 k_normal x.f2 ((5 : Int), (x.f4.2.1, (x.f4.2.2.1, (x.f4.2.2.2.1, (v266, (r271, (r268, x.f4.2.2.2.2.2.2.2))))))) r269 r272) none) none) none)
 (cond (inB (0 : Int) (List.length x.f0))
 (let v273 := List.getD x.f0 (0 : Int).toNat ([] : List UInt8)
 let v274 := v273 == ([114, 101, 97, 100] : List UInt8)
 cond v274
 (let v275 := x.f7 == (2 : Int)
 cond v275
 (cond (inB (1 : Int) (List.length x.f0))
 (let v276 := List.getD x.f0 (1 : Int).toNat ([] : List UInt8)
 zlaa v276 fun r277 =>
 cond r277
 (cond (inB (1 : Int) (List.length x.f0))
 (let v278 := List.getD x.f0 (1 : Int).toNat ([] : List UInt8)
 k_normal x.f2 ((6 : Int), (x.f4.2.1, (x.f4.2.2.1, (x.f4.2.2.2.1, (v278, x.f4.2.2.2.2.2))))) x.f5 x.f6) none)
 (cond (inB (0 : Int) (List.length x.f0))
 (let v279 := List.getD x.f0 (0 : Int).toNat ([] : List UInt8)
 let v280 := v279 == ([112, 101, 101, 107] : List UInt8)
 cond v280
 (let v281 := x.f7 == (3 : Int)
 cond v281
 (cond (inB (1 : Int) (List.length x.f0))
 (let v282 := List.getD x.f0 (1 : Int).toNat ([] : List UInt8)
 zaaa v282 fun r283 r284 =>
 cond (inB (2 : Int) (List.length x.f0))
 (let v285 := List.getD x.f0 (2 : Int).toNat ([] : List UInt8)
 zaaa v285 fun r286 r287 =>
 k_normal x.f2 ((7 : Int), (x.f4.2.1, (x.f4.2.2.1, (x.f4.2.2.2.1, (x.f4.2.2.2.2.1, (x.f4.2.2.2.2.2.1, (x.f4.2.2.2.2.2.2.1, (r283, (r286, x.f4.2.2.2.2.2.2.2.2.2))))))))) r284 r287) none) none)
 (k_ret x.f4 false))
 (k_ret x.f4 false)) none)) none)
 (cond (inB (0 : Int) (List.length x.f0))
 (let v288 := List.getD x.f0 (0 : Int).toNat ([] : List UInt8)
 let v289 := v288 == ([112, 101, 101, 107] : List UInt8)
 cond v289
 (let v290 := x.f7 == (3 : Int)
 cond v290
 (cond (inB (1 : Int) (List.length x.f0))
 (let v291 := List.getD x.f0 (1 : Int).toNat ([] : List UInt8)
 zaaa v291 fun r292 r293 =>
 cond (inB (2 : Int) (List.length x.f0))
 (let v294 := List.getD x.f0 (2 : Int).toNat ([] : List UInt8)
 zaaa v294 fun r295 r296 =>
 k_normal x.f2 ((7 : Int), (x.f4.2.1, (x.f4.2.2.1, (x.f4.2.2.2.1, (x.f4.2.2.2.2.1, (x.f4.2.2.2.2.2.1, (x.f4.2.2.2.2.2.2.1, (r292, (r295, x.f4.2.2.2.2.2.2.2.2.2))))))))) r293 r296) none) none)
 (k_ret x.f4 false))
 (k_ret x.f4 false)) none))
 (cond (inB (0 : Int) (List.length x.f0))
 (let v297 := List.getD x.f0 (0 : Int).toNat ([] : List UInt8)
 let v298 := v297 == ([112, 101, 101, 107] : List UInt8)
 cond v298
 (let v299 := x.f7 == (3 : Int)
 cond v299
 (cond (inB (1 : Int) (List.length x.f0))
 (let v300 := List.getD x.f0 (1 : Int).toNat ([] : List UInt8)
 zaaa v300 fun r301 r302 =>
 cond (inB (2 : Int) (List.length x.f0))
 (let v303 := List.getD x.f0 (2 : Int).toNat ([] : List UInt8)
 zaaa v303 fun r304 r305 =>
 k_normal x.f2 ((7 : Int), (x.f4.2.1, (x.f4.2.2.1, (x.f4.2.2.2.1, (x.f4.2.2.2.2.1, (x.f4.2.2.2.2.2.1, (x.f4.2.2.2.2.2.2.1, (r301, (r304, x.f4.2.2.2.2.2.2.2.2.2))))))))) r302 r305) none) none)
 (k_ret x.f4 false))
 (k_ret x.f4 false)) none)) none)) none)
 (cond (inB (0 : Int) (List.length x.f0))
 (let v306 := List.getD x.f0 (0 : Int).toNat ([] : List UInt8)
 let v307 := v306 == ([114, 101, 97, 100] : List UInt8)
 cond v307
 (let v308 := x.f7 == (2 : Int)
 cond v308
 (cond (inB (1 : Int) (List.length x.f0))
 (let v309 := List.getD x.f0 (1 : Int).toNat ([] : List UInt8)
 zlaa v309 fun r310 =>
 cond r310
 (cond (inB (1 : Int) (List.length x.f0))
 (let v311 := List.getD x.f0 (1 : Int).toNat ([] : List UInt8)
 k_normal x.f2 ((6 : Int), (x.f4.2.1, (x.f4.2.2.1, (x.f4.2.2.2.1, (v311, x.f4.2.2.2.2.2))))) x.f5 x.f6) none)
 (cond (inB (0 : Int) (List.length x.f0))
 (let v312 := List.getD x.f0 (0 : Int).toNat ([] : List UInt8)
 let v313 := v312 == ([112, 101, 101, 107] : List UInt8)
 cond v313
 (let v314 := x.f7 == (3 : Int)
 cond v314
 (cond (inB (1 : Int) (List.length x.f0))
 (let v315 := List.getD x.f0 (1 : Int).toNat ([] : List UInt8)
 zaaa v315 fun r316 r317 =>
 cond (inB (2 : Int) (List.length x.f0))
 (let v318 := List.getD x.f0 (2 : Int).toNat ([] : List UInt8)
 zaaa v318 fun r319 r320 =>
 k_normal x.f2 ((7 : Int), (x.f4.2.1, (x.f4.2.2.1, (x.f4.2.2.2.1, (x.f4.2.2.2.2.1, (x.f4.2.2.2.2.2.1, (x.f4.2.2.2.2.2.2.1, (r316, (r319, x.f4.2.2.2.2.2.2.2.2.2))))))))) r317 r320) none) none)
 (k_ret x.f4 false))
 (k_ret x.f4 false)) none)) none)
 (cond (inB (0 : Int) (List.length x.f0))
 (let v321 := List.getD x.f0 (0 : Int).toNat ([] : List UInt8)
 let v322 := v321 == ([112, 101, 101, 107] : List UInt8)
 cond v322
 (let v323 := x.f7 == (3 : Int)
 cond v323
 (cond (inB (1 : Int) (List.length x.f0))
 (let v324 := List.getD x.f0 (1 : Int).toNat ([] : List UInt8)
 zaaa v324 fun r325 r326 =>
 cond (inB (2 : Int) (List.length x.f0))
 (let v327 := List.getD x.f0 (2 : Int).toNat ([] : List UInt8)
 zaaa v327 fun r328 r329 =>
 k_normal x.f2 ((7 : Int), (x.f4.2.1, (x.f4.2.2.1, (x.f4.2.2.2.1, (x.f4.2.2.2.2.1, (x.f4.2.2.2.2.2.1, (x.f4.2.2.2.2.2.2.1, (r325, (r328, x.f4.2.2.2.2.2.2.2.2.2))))))))) r326 r329) none) none)
 (k_ret x.f4 false))
 (k_ret x.f4 false)) none))
 (cond (inB (0 : Int) (List.length x.f0))
 (let v330 := List.getD x.f0 (0 : Int).toNat ([] : List UInt8)
 let v331 := v330 == ([112, 101, 101, 107] : List UInt8)
 cond v331
 (let v332 := x.f7 == (3 : Int)
 cond v332
 (cond (inB (1 : Int) (List.length x.f0))
 (let v333 := List.getD x.f0 (1 : Int).toNat ([] : List UInt8)
 zaaa v333 fun r334 r335 =>
 cond (inB (2 : Int) (List.length x.f0))
 (let v336 := List.getD x.f0 (2 : Int).toNat ([] : List UInt8)
 zaaa v336 fun r337 r338 =>
 k_normal x.f2 ((7 : Int), (x.f4.2.1, (x.f4.2.2.1, (x.f4.2.2.2.1, (x.f4.2.2.2.2.1, (x.f4.2.2.2.2.2.1, (x.f4.2.2.2.2.2.2.1, (r334, (r337, x.f4.2.2.2.2.2.2.2.2.2))))))))) r335 r338) none) none)
 (k_ret x.f4 false))
 (k_ret x.f4 false)) none)) none))
 (cond (inB (0 : Int) (List.length x.f0))
 (let v339 := List.getD x.f0 (0 : Int).toNat ([] : List UInt8)
 let v340 := v339 == ([114, 101, 97, 100] : List UInt8)
 cond v340
 (let v341 := x.f7 == (2 : Int)
 cond v341
 (cond (inB (1 : Int) (List.length x.f0))
 (let v342 := List.getD x.f0 (1 : Int).toNat ([] : List UInt8)
 zlaa v342 fun r343 =>
 cond r343
 (cond (inB (1 : Int) (List.length x.f0))
 (let v344 := List.getD x.f0 (1 : Int).toNat ([] : List UInt8)
 k_normal x.f2 ((6 : Int), (x.f4.2.1, (x.f4.2.2.1, (x.f4.2.2.2.1, (v344, x.f4.2.2.2.2.2))))) x.f5 x.f6) none)
 (cond (inB (0 : Int) (List.length x.f0))
 (let v345 := List.getD x.f0 (0 : Int).toNat ([] : List UInt8)
 let v346 := v345 == ([112, 101, 101, 107] : List UInt8)
 cond v346
 (let v347 := x.f7 == (3 : Int)
 cond v347
 (cond (inB (1 : Int) (List.length x.f0))
 (let v348 := List.getD x.f0 (1 : Int).toNat ([] : List UInt8)
 zaaa v348 fun r349 r350 =>
 cond (inB (2 : Int) (List.length x.f0))
 (let v351 := List.getD x.f0 (2 : Int).toNat ([] : List UInt8)
 zaaa v351 fun r352 r353 =>
 k_normal x.f2 ((7 : Int), (x.f4.2.1, (x.f4.2.2.1, (x.f4.2.2.2.1, (x.f4.2.2.2.2.1, (x.f4.2.2.2.2.2.1, (x.f4.2.2.2.2.2.2.1, (r349, (r352, x.f4.2.2.2.2.2.2.2.2.2))))))))) r350 r353) none) none)
 (k_ret x.f4 false))
 (k_ret x.f4 false)) none)) none)
 (cond (inB (0 : Int) (List.length x.f0))
 (let v354 := List.getD x.f0 (0 : Int).toNat ([] : List UInt8)
 let v355 := v354 == ([112, 101, 101, 107] : List UInt8)
 cond v355
 (let v356 := x.f7 == (3 : Int)
 cond v356
 (cond (inB (1 : Int) (List.length x.f0))
 (let v357 := List.getD x.f0 (1 : Int).toNat ([] : List UInt8)
 zaaa v357 fun r358 r359 =>
 cond (inB (2 : Int) (List.length x.f0))
 (let v360 := List.getD x.f0 (2 : Int).toNat ([] : List UInt8)
 zaaa v360 fun r361 r362 =>
 k_normal x.f2 ((7 : Int), (x.f4.2.1, (x.f4.2.2.1, (x.f4.2.2.2.1, (x.f4.2.2.2.2.1, (x.f4.2.2.2.2.2.1, (x.f4.2.2.2.2.2.2.1, (r358, (r361, x.f4.2.2.2.2.2.2.2.2.2))))))))) r359 r362) none) none)
 (k_ret x.f4 false))
 (k_ret x.f4 false)) none))
 (cond (inB (0 : Int) (List.length x.f0))
 (let v363 := List.getD x.f0 (0 : Int).toNat ([] : List UInt8)
 let v364 := v363 == ([112, 101, 101, 107] : List UInt8)
 cond v364
 (let v365 := x.f7 == (3 : Int)
 cond v365
 (cond (inB (1 : Int) (List.length x.f0))
 (let v366 := List.getD x.f0 (1 : Int).toNat ([] : List UInt8)
 zaaa v366 fun r367 r368 =>
 cond (inB (2 : Int) (List.length x.f0))
 (let v369 := List.getD x.f0 (2 : Int).toNat ([] : List UInt8)
 zaaa v369 fun r370 r371 =>
 k_normal x.f2 ((7 : Int), (x.f4.2.1, (x.f4.2.2.1, (x.f4.2.2.2.1, (x.f4.2.2.2.2.1, (x.f4.2.2.2.2.2.1, (x.f4.2.2.2.2.2.2.1, (r367, (r370, x.f4.2.2.2.2.2.2.2.2.2))))))))) r368 r371) none) none)
 (k_ret x.f4 false))
 (k_ret x.f4 false)) none)) none)) none))
 (cond (inB (0 : Int) (List.length x.f0))
 (let v372 := List.getD x.f0 (0 : Int).toNat ([] : List UInt8)
 let v373 := v372 == ([99, 97, 108, 108] : List UInt8)
 cond v373
 (let v374 := decide (x.f7 ≥ (3 : Int))
 cond v374
 (cond (inB (1 : Int) (List.length x.f0))
 (let v375 := List.getD x.f0 (1 : Int).toNat ([] : List UInt8)
 zlaa v375 fun r376 =>
 cond r376
 (cond (inB (1 : Int) (List.length x.f0))
 (let v377 := List.getD x.f0 (1 : Int).toNat ([] : List UInt8)
 cond (inB (2 : Int) (List.length x.f0))
 (let v378 := List.getD x.f0 (2 : Int).toNat ([] : List UInt8)
 zaaa v378 fun r379 r380 =>
 cond (inR (3 : Int) ((List.length x.f0 : Nat) : Int) (List.length x.f0))
 (let v381 := rng x.f0 (3 : Int) ((List.length x.f0 : Nat) : Int)
 zNaa v381 fun r382 r383 =>
 k_normal x.f2 ((5 : Int), (x.f4.2.1, (x.f4.2.2.1, (x.f4.2.2.2.1, (v377, (r382, (r379, x.f4.2.2.2.2.2.2.2))))))) r380 r383) none) none) none)
 (cond (inB (0 : Int) (List.length x.f0))
 (let v384 := List.getD x.f0 (0 : Int).toNat ([] : List UInt8)
 let v385 := v384 == ([114, 101, 97, 100] : List UInt8)
 cond v385
 (let v386 := x.f7 == (2 : Int)
 cond v386
 (cond (inB (1 : Int) (List.length x.f0))
 (let v387 := List.getD x.f0 (1 : Int).toNat ([] : List UInt8)
 zlaa v387 fun r388 =>
 cond r388
 (cond (inB (1 : Int) (List.length x.f0))
 (let v389 := List.getD x.f0 (1 : Int).toNat ([] : List UInt8)
 k_normal x.f2 ((6 : Int), (x.f4.2.1, (x.f4.2.2.1, (x.f4.2.2.2.1, (v389, x.f4.2.2.2.2.2))))) x.f5 x.f6) none)
 (cond (inB (0 : Int) (List.length x.f0))
 (let v390 := List.getD x.f0 (0 : Int).toNat ([] : List UInt8)
 let v391 := v390 == ([112, 101, 101, 107] : List UInt8)
 cond v391
 (let v392 := x.f7 == (3 : Int)
 cond v392
 (cond (inB (1 : Int) (List.length x.f0))
 (let v393 := List.getD x.f0 (1 : Int).toNat ([] : List UInt8)
 zaaa v393 fun r394 r395 =>
 cond (inB (2 : Int) (List.length x.f0))
 (let v396 := List.getD x.f0 (2 : Int).toNat ([] : List UInt8)
 zaaa v396 fun r397 r398 =>
 k_normal x.f2 ((7 : Int), (x.f4.2.1, (x.f4.2.2.1, (x.f4.2.2.2.1, (x.f4.2.2.2.2.1, (x.f4.2.2.2.2.2.1, (x.f4.2.2.2.2.2.2.1, (r394, (r397, x.f4.2.2.2.2.2.2.2.2.2))))))))) r395 r398) none) none)
 (k_ret x.f4 false))
 (k_ret x.f4 false)) none)) none)
 (cond (inB (0 : Int) (List.length x.f0))
 (let v399 := List.getD x.f0 (0 : Int).toNat ([] : List UInt8)
 let v400 := v399 == ([112, 101, 101, 107] : List UInt8)
 cond v400
 (let v401 := x.f7 == (3 : Int)
 cond v401
 (cond (inB (1 : Int) (List.length x.f0))
 (let v402 := List.getD x.f0 (1 : Int).toNat ([] : List UInt8)
 zaaa v402 fun r403 r404 =>
 cond (inB (2 : Int) (List.length x.f0))
 (let v405 := List.getD x.f0 (2 : Int).toNat ([] : List UInt8)
 zaaa v405 fun r406 r407 =>
 k_normal x.f2 ((7 : Int), (x.f4.2.1, (x.f4.2.2.1, (x.f4.2.2.2.1, (x.f4.2.2.2.2.1, (x.f4.2.2.2.2.2.1, (x.f4.2.2.2.2.2.2.1, (r403, (r406, x.f4.2.2.2.2.2.2.2.2.2))))))))) r404 r407) none) none)
 (k_ret x.f4 false))
 (k_ret x.f4 false)) none))
 (cond (inB (0 : Int) (List.length x.f0))
 (let v408 := List.getD x.f0 (0 : Int).toNat ([] : List UInt8)
 let v409 := v408 == ([112, 101, 101, 107] : List UInt8)
 cond v409
 (let v410 := x.f7 == (3 : Int)
 cond v410
 (cond (inB (1 : Int) (List.length x.f0))
 (let v411 := List.getD x.f0 (1 : Int).toNat ([] : List UInt8)
 zaaa v411 fun r412 r413 =>
 cond (inB (2 : Int) (List.length x.f0))
 (let v414 := List.getD x.f0 (2 : Int).toNat ([] : List UInt8)
 zaaa v414 fun r415 r416 =>
 k_normal x.f2 ((7 : Int), (x.f4.2.1, (x.f4.2.2.1, (x.f4.2.2.2.1, (x.f4.2.2.2.2.1, (x.f4.2.2.2.2.2.1, (x.f4.2.2.2.2.2.2.1, (r412, (r415, x.f4.2.2.2.2.2.2.2.2.2))))))))) r413 r416) none) none)
 (k_ret x.f4 false))
 (k_ret x.f4 false)) none)) none)) none)
 (cond (inB (0 : Int) (List.length x.f0))
 (let v417 := List.getD x.f0 (0 : Int).toNat ([] : List UInt8)
 let v418 := v417 == ([114, 101, 97, 100] : List UInt8)
 cond v418
 (let v419 := x.f7 == (2 : Int)
 cond v419
 (cond (inB (1 : Int) (List.length x.f0))
 (let v420 := List.getD x.f0 (1 : Int).toNat ([] : List UInt8)
 zlaa v420 fun r421 =>
 cond r421
 (cond (inB (1 : Int) (List.length x.f0))
 (let v422 := List.getD x.f0 (1 : Int).toNat ([] : List UInt8)
 k_normal x.f2 ((6 : Int), (x.f4.2.1, (x.f4.2.2.1, (x.f4.2.2.2.1, (v422, x.f4.2.2.2.2.2))))) x.f5 x.f6) none)
 (cond (inB (0 : Int) (List.length x.f0))
 (let v423 := List.getD x.f0 (0 : Int).toNat ([] : List UInt8)
 let v424 := v423 == ([112, 101, 101, 107] : List UInt8)
 cond v424
 (let v425 := x.f7 == (3 : Int)
 cond v425
 (cond (inB (1 : Int) (List.length x.f0))
 (let v426 := List.getD x.f0 (1 : Int).toNat ([] : List UInt8)
 zaaa v426 fun r427 r428 =>
 cond (inB (2 : Int) (List.length x.f0))
 (let v429 := List.getD x.f0 (2 : Int).toNat ([] : List UInt8)
 zaaa v429 fun r430 r431 =>
 k_normal x.f2 ((7 : Int), (x.f4.2.1, (x.f4.2.2.1, (x.f4.2.2.2.1, (x.f4.2.2.2.2.1, (x.f4.2.2.2.2.2.1, (x.f4.2.2.2.2.2.2.1, (r427, (r430, x.f4.2.2.2.2.2.2.2.2.2))))))))) r428 r431) none) none)
 (k_ret x.f4 false))
 (k_ret x.f4 false)) none)) none)
 (cond (inB (0 : Int) (List.length x.f0))
 (let v432 := List.getD x.f0 (0 : Int).toNat ([] : List UInt8)
 let v433 := v432 == ([112, 101, 101, 107] : List UInt8)
 cond v433
 (let v434 := x.f7 == (3 : Int)
 cond v434
 (cond (inB (1 : Int) (List.length x.f0))
 (let v435 := List.getD x.f0 (1 : Int).toNat ([] : List UInt8)
 zaaa v435 fun r436 r437 =>
 cond (inB (2 : Int) (List.length x.f0))
 (let v438 := List.getD x.f0 (2 : Int).toNat ([] : List UInt8)
 zaaa v438 fun r439 r440 =>
 k_normal x.f2 ((7 : Int), (x.f4.2.1, (x.f4.2.2.1, (x.f4.2.2.2.1, (x.f4.2.2.2.2.1, (x.f4.2.2.2.2.2.1, (x.f4.2.2.2.2.2.2.1, (r436, (r439, x.f4.2.2.2.2.2.2.2.2.2))))))))) r437 r440) none) none)
 (k_ret x.f4 false))
 (k_ret x.f4 false)) none))
 (cond (inB (0 : Int) (List.length x.f0))
 (let v441 := List.getD x.f0 (0 : Int).toNat ([] : List UInt8)
 let v442 := v441 == ([112, 101, 101, 107] : List UInt8)
 cond v442
 (let v443 := x.f7 == (3 : Int)
 cond v443
 (cond (inB (1 : Int) (List.length x.f0))
 (let v444 := List.getD x.f0 (1 : Int).toNat ([] : List UInt8)
 zaaa v444 fun r445 r446 =>
 cond (inB (2 : Int) (List.length x.f0))
 (let v447 := List.getD x.f0 (2 : Int).toNat ([] : List UInt8)
 zaaa v447 fun r448 r449 =>
 k_normal x.f2 ((7 : Int), (x.f4.2.1, (x.f4.2.2.1, (x.f4.2.2.2.1, (x.f4.2.2.2.2.1, (x.f4.2.2.2.2.2.1, (x.f4.2.2.2.2.2.2.1, (r445, (r448, x.f4.2.2.2.2.2.2.2.2.2))))))))) r446 r449) none) none)
 (k_ret x.f4 false))
 (k_ret x.f4 false)) none)) none))
 (cond (inB (0 : Int) (List.length x.f0))
 (let v450 := List.getD x.f0 (0 : Int).toNat ([] : List UInt8)
 let v451 := v450 == ([114, 101, 97, 100] : List UInt8)
 cond v451
 (let v452 := x.f7 == (2 : Int)
 cond v452
 (cond (inB (1 : Int) (List.length x.f0))
 (let v453 := List.getD x.f0 (1 : Int).toNat ([] : List UInt8)
 zlaa v453 fun r454 =>
 cond r454
 (cond (inB (1 : Int) (List.length x.f0))
 (let v455 := List.getD x.f0 (1 : Int).toNat ([] : List UInt8)
 k_normal x.f2 ((6 : Int), (x.f4.2.1, (x.f4.2.2.1, (x.f4.2.2.2.1, (v455, x.f4.2.2.2.2.2))))) x.f5 x.f6) none)
 (cond (inB (0 : Int) (List.length x.f0))
 (let v456 := List.getD x.f0 (0 : Int).toNat ([] : List UInt8)
 let v457 := v456 == ([112, 101, 101, 107] : List UInt8)
 cond v457
 (let v458 := x.f7 == (3 : Int)
 cond v458
 (cond (inB (1 : Int) (List.length x.f0))
 (let v459 := List.getD x.f0 (1 : Int).toNat ([] : List UInt8)
 zaaa v459 fun r460 r461 =>
 cond (inB (2 : Int) (List.length x.f0))
 (let v462 := List.getD x.f0 (2 : Int).toNat ([] : List UInt8)
 zaaa v462 fun r463 r464 =>
 k_normal x.f2 ((7 : Int), (x.f4.2.1, (x.f4.2.2.1, (x.f4.2.2.2.1, (x.f4.2.2.2.2.1, (x.f4.2.2.2.2.2.1, (x.f4.2.2.2.2.2.2.1, (r460, (r463, x.f4.2.2.2.2.2.2.2.2.2))))))))) r461 r464) none) none)
 (k_ret x.f4 false))
 (k_ret x.f4 false)) none)) none)
 (cond (inB (0 : Int) (List.length x.f0))
 (let v465 := List.getD x.f0 (0 : Int).toNat ([] : List UInt8)
 let v466 := v465 == ([112, 101, 101, 107] : List UInt8)
 cond v466
 (let v467 := x.f7 == (3 : Int)
 cond v467
 (cond (inB (1 : Int) (List.length x.f0))
 (let v468 := List.getD x.f0 (1 : Int).toNat ([] : List UInt8)
 zaaa v468 fun r469 r470 =>
 cond (inB (2 : Int) (List.length x.f0))
 (let v471 := List.getD x.f0 (2 : Int).toNat ([] : List UInt8)
 zaaa v471 fun r472 r473 =>
 k_normal x.f2 ((7 : Int), (x.f4.2.1, (x.f4.2.2.1, (x.f4.2.2.2.1, (x.f4.2.2.2.2.1, (x.f4.2.2.2.2.2.1, (x.f4.2.2.2.2.2.2.1, (r469, (r472, x.f4.2.2.2.2.2.2.2.2.2))))))))) r470 r473) none) none)
 (k_ret x.f4 false))
 (k_ret x.f4 false)) none))
 (cond (inB (0 : Int) (List.length x.f0))
 (let v474 := List.getD x.f0 (0 : Int).toNat ([] : List UInt8)
 let v475 := v474 == ([112, 101, 101, 107] : List UInt8)
 cond v475
 (let v476 := x.f7 == (3 : Int)
 cond v476
 (cond (inB (1 : Int) (List.length x.f0))
 (let v477 := List.getD x.f0 (1 : Int).toNat ([] : List UInt8)
 zaaa v477 fun r478 r479 =>
 cond (inB (2 : Int) (List.length x.f0))
 (let v480 := List.getD x.f0 (2 : Int).toNat ([] : List UInt8)
 zaaa v480 fun r481 r482 =>
 k_normal x.f2 ((7 : Int), (x.f4.2.1, (x.f4.2.2.1, (x.f4.2.2.2.1, (x.f4.2.2.2.2.1, (x.f4.2.2.2.2.2.1, (x.f4.2.2.2.2.2.2.1, (r478, (r481, x.f4.2.2.2.2.2.2.2.2.2))))))))) r479 r482) none) none)
 (k_ret x.f4 false))
 (k_ret x.f4 false)) none)) none)) none)) none)) none)) none)) none
noncomputable def zYoa (x : zlfa) : St := St.ofList [(0, (.v (.sl 9 .str) .s x.f0)), (2, (.v (.ptr 43 (.pair (.int .i64) (.pair (.sl 5 (.int .u8)) Ty5))) (.o (.p .s (.p (.o .s) (.p .s (.p (.p .s (.p .s (.p (.o .s) (.p .s (.p (.o .s) .s))))) (.p .s (.p (.o .s) .s))))))) (some x.f2))), (4, (.v (.ptr 43 (.pair (.int .i64) (.pair (.sl 5 (.int .u8)) Ty5))) (.o (.p .s (.p (.o .s) (.p .s (.p (.p .s (.p .s (.p (.o .s) (.p .s (.p (.o .s) .s))))) (.p .s (.p (.o .s) .s))))))) (some x.f4))), (5, (.v .bool .s x.f5)), (6, (.v .bool .s x.f6)), (7, (.v (.int .i64) .s x.f7))]
def zwna : Ex → List (Nat × Bool) | .normal => [(2, false), (4, false), (5, false), (6, false)] | .ret => [(2, false), (3, false)] | _ => []
def zQia : List (Nat × Bool) := [(0, false), (2, false), (4, false), (5, false), (6, false), (7, false)]
noncomputable def zPia : Pt zlfa := .s 0 (sV (.sl 9 .str) .s) fun y0 => .s 2 (sP 43 (.pair (.int .i64) (.pair (.sl 5 (.int .u8)) Ty5)) (.o (.p .s (.p (.o .s) (.p .s (.p (.p .s (.p .s (.p (.o .s) (.p .s (.p (.o .s) .s))))) (.p .s (.p (.o .s) .s)))))))) fun y2 => .s 4 (sP 43 (.pair (.int .i64) (.pair (.sl 5 (.int .u8)) Ty5)) (.o (.p .s (.p (.o .s) (.p .s (.p (.p .s (.p .s (.p (.o .s) (.p .s (.p (.o .s) .s))))) (.p .s (.p (.o .s) .s)))))))) fun y4 => .s 5 (sV .bool .s) fun y5 => .s 6 (sV .bool .s) fun y6 => .s 7 (sV (.int .i64) .s) fun y7 => .e ⟨y0, y2, y4, y5, y6, y7⟩
noncomputable def zJja (R : Type) (K : Ex → St → Option R) : zlfa → Option R := zAaa (fun e2 e4 e5 e6 => K .normal (St.ofList [(2, (.v (.ptr 43 (.pair (.int .i64) (.pair (.sl 5 (.int .u8)) Ty5))) (.o (.p .s (.p (.o .s) (.p .s (.p (.p .s (.p .s (.p (.o .s) (.p .s (.p (.o .s) .s))))) (.p .s (.p (.o .s) .s))))))) (some e2))), (4, (.v (.ptr 43 (.pair (.int .i64) (.pair (.sl 5 (.int .u8)) Ty5))) (.o (.p .s (.p (.o .s) (.p .s (.p (.p .s (.p .s (.p (.o .s) (.p .s (.p (.o .s) .s))))) (.p .s (.p (.o .s) .s))))))) (some e4))), (5, (.v .bool .s e5)), (6, (.v .bool .s e6))])) (fun e2 e3 => K .ret (St.ofList [(2, (.v (.ptr 43 (.pair (.int .i64) (.pair (.sl 5 (.int .u8)) Ty5))) (.o (.p .s (.p (.o .s) (.p .s (.p (.p .s (.p .s (.p (.o .s) (.p .s (.p (.o .s) .s))))) (.p .s (.p (.o .s) .s))))))) (some e2))), (3, (.v .bool .s e3))]))
noncomputable def zDha : Code := match joinC 27 (body Tryd.f18.body) with | some c => c | none => .skip
noncomputable def zzha : Loops := fun z i R st K => match z, i with
 | true, 27 => lpE zQia zPia (zJja R K) st
 | _, _ => none
theorem zFla : JStep zfda zzha inl0 zDha zwna zYoa zJja := fun R K x => by kernel_rfl
theorem zxna : zOfa zfda zzha inl0 zDha 27 := zhba (hd := zQia) zFla (p := zPia) (fun _ _ _ _ _ _ => ⟨rfl, rfl⟩) (fun R st K => by kernel_rfl)
theorem zWna : zXaa zfda zzha inl0 (body Tryd.f18.body) := by
 refine zBaa (fun c hc => ?_) (fun c hc => ?_)
 ·rw [show zgea (body Tryd.f18.body) = [] by kernel_rfl] at hc; cases hc
 ·rw [show zhea zfda (body Tryd.f18.body) = [(zDha, 27)] by kernel_rfl] at hc
  simp only [List.mem_cons, List.not_mem_nil, or_false] at hc
  rcases hc with rfl
  ·exact zxna
noncomputable def zoaa {R : Type} (a0 : List (List UInt8)) (K : ((Int) × It3) → Bool → Option R) : Option R :=
 let v1 := ((List.length a0 : Nat) : Int)
 zAaa (fun w2 w3 w4 w5 =>
 cond w4
 (K w3 w5)
 (K w3 false)) (fun w6 w7 =>
 K w6 w7) ⟨a0, ((0 : Int), (([] : List (Int)), (((0 : Int), (false, ((0 : Int), ((0 : Int), (false, ((0 : Int), ())))))), ((false, (false, (([] : List (Int)), ((0 : Int), (([] : List (Int)), ()))))), (([] : List UInt8), (([] : List (Int)), ((0 : Int), ((0 : Int), ((0 : Int), ()))))))))), ((0 : Int), (([] : List (Int)), (((0 : Int), (false, ((0 : Int), ((0 : Int), (false, ((0 : Int), ())))))), ((false, (false, (([] : List (Int)), ((0 : Int), (([] : List (Int)), ()))))), (([] : List UInt8), (([] : List (Int)), ((0 : Int), ((0 : Int), ((0 : Int), ()))))))))), true, true, v1⟩
noncomputable def zFna : CSpec := { ins := [(.val (.sl 9 .str) .s)], outs := [((.pair (.int .i64) (.pair (.sl 5 (.int .u8)) Ty5)), (.p .s (.p (.o .s) (.p .s (.p (.p .s (.p .s (.p (.o .s) (.p .s (.p (.o .s) .s))))) (.p .s (.p (.o .s) .s))))))), (.bool, .s)], fn := fun (d : (List (List UInt8)) × Unit) K _ => zoaa d.1 (fun r0 r1 => K ((r0, r1, ()) : ((Int) × It3) × Bool × Unit) ((()) : Unit)) }
theorem zCra : Holds Tryd.prog 18 zFna := zsaa (env := zfda) (inl := inl0) (lp := zzha) (rs := [(2, some 43), (3, none)]) (code := body Tryd.f18.body) ⟨mixed, envTyOk.ty, envTyOk.eq⟩ zaoa zRaa Tryd.func18 zWna (by kernel_rfl) (by kernel_rfl) (by kernel_rfl) (by kernel_rfl) (by kernel_rfl) (by kernel_rfl) fun d R K Kp => by kernel_rfl
noncomputable def zcja : List (FuncId × List FuncId × CSpec) := [(17, [], zTka), (18, [], zFna)]
noncomputable def zRoa : Nat → Bool
 | 10 => true
 | _ => false
noncomputable def zLoa : Nat → Option (List Nat)
 | 0 => some [0]
 | 1 => some [0]
 | 2 => some [0, 5]
 | 3 => some [0, 5, 6, 7]
 | 4 => some [0, 5, 6, 7, 8]
 | 5 => some [0, 5, 6, 7, 8]
 | 6 => some [0, 5, 6, 7, 8]
 | 7 => some [0, 5, 6, 7, 8]
 | 8 => some [0, 5, 6, 7, 8]
 | 9 => some [7]
 | 10 => some [0, 5, 6, 7, 8]
 | 11 => some [0, 5, 7, 8, 9]
 | 12 => some [0, 5, 7, 8, 9]
 | 13 => some [0, 5, 7, 8, 10, 11]
 | 14 => some [7]
 | 15 => some [0, 5, 7, 8, 10]
 | 16 => some [0, 5, 7, 8]
 | 17 => some [0, 5, 6, 7, 8]
 | 18 => some [5]
 | _ => none
noncomputable def zSba : Env := { ty := envTy, eq := envEq, gam := (gamL zcja), n := Tryd.f9.ntmps, fs := zRoa, lv := zLoa }
theorem zCma : EnvFn Tryd.prog zSba := fun f gs c h => zCba (l := zcja) ⟨zupa, zCra, trivial⟩ f gs c h
structure zOaa where
 f0 : List UInt8
 f5 : List ((Int) × It3)
 f6 : List UInt8
 f7 : Int
 f8 : Int
noncomputable def zbba {R : Type} (k_ret : (List ((Int) × It3)) → Int → Int → Option R) (k_exit_0 : (List ((Int) × It3)) → Option R) (rec : zOaa → Option R) (x : zOaa) : Option R :=
 let v1 := ((List.length x.f0 : Nat) : Int)
 let v2 := decide (x.f8 ≤ v1)
 cond v2
 (let v3 := ((List.length x.f0 : Nat) : Int)
 let v4 := decide (x.f8 < v3)
 cond v4
 (cond (inB x.f8 (List.length x.f0))
 (let v5 := bt x.f0 x.f8
 let v6 := v5 != (10 : Int)
 cond v6
 (let v7 := IntKind.i64.wrap (x.f8 + (1 : Int))
 cond (inR x.f8 v7 (List.length x.f0))
 (let v8 := rng x.f0 x.f8 v7
 cond (decide (x.f6.length + v8.length ≤ most))
 (let v9 := x.f6 ++ v8
 let v10 := IntKind.i64.wrap (x.f8 + (1 : Int))
 rec ⟨x.f0, x.f5, v9, x.f7, v10⟩) none) none)
 (let v11 := decide (x.f7 > (256 : Int))
 cond v11
 (k_ret ([] : List ((Int) × It3)) (4 : Int) x.f7)
 (let v12 := ((List.length x.f6 : Nat) : Int)
 let v13 := decide (v12 > (512 : Int))
 cond v13
 (k_ret ([] : List ((Int) × It3)) (4 : Int) x.f7)
 (zQca x.f6 fun r14 =>
 let v15 := ((List.length r14 : Nat) : Int)
 let v16 := decide (v15 > (0 : Int))
 cond v16
 (cond (inB (0 : Int) (List.length r14))
 (let v17 := (List.getD r14 (0 : Int).toNat ([] : List UInt8))
 cond (inB (0 : Int) (List.length v17))
 (let v18 := bt v17 (0 : Int)
 let v19 := v18 != (35 : Int)
 cond v19
 (zoaa r14 fun r20 r21 =>
 let v22 := !r21
 cond v22
 (k_ret ([] : List ((Int) × It3)) (2 : Int) x.f7)
 (let v23 := List.set (List.replicate 1 ((0 : Int), (([] : List (Int)), (((0 : Int), (false, ((0 : Int), ((0 : Int), (false, ((0 : Int), ())))))), ((false, (false, (([] : List (Int)), ((0 : Int), (([] : List (Int)), ()))))), (([] : List UInt8), (([] : List (Int)), ((0 : Int), ((0 : Int), ((0 : Int), ())))))))))) 0 r20
 cond (decide (List.length x.f5 + List.length v23 ≤ most))
 (let v24 := x.f5 ++ v23
 let v25 := IntKind.i64.wrap (x.f7 + (1 : Int))
 let v26 := IntKind.i64.wrap (x.f8 + (1 : Int))
 rec ⟨x.f0, v24, ([] : List UInt8), v25, v26⟩) none))
 (let v27 := IntKind.i64.wrap (x.f7 + (1 : Int))
 let v28 := IntKind.i64.wrap (x.f8 + (1 : Int))
 rec ⟨x.f0, x.f5, ([] : List UInt8), v27, v28⟩)) none) none)
 (let v29 := IntKind.i64.wrap (x.f7 + (1 : Int))
 let v30 := IntKind.i64.wrap (x.f8 + (1 : Int))
 rec ⟨x.f0, x.f5, ([] : List UInt8), v29, v30⟩))))) none)
 (let v31 := decide (x.f7 > (256 : Int))
 cond v31
 (k_ret ([] : List ((Int) × It3)) (4 : Int) x.f7)
 (let v32 := ((List.length x.f6 : Nat) : Int)
 let v33 := decide (v32 > (512 : Int))
 cond v33
 (k_ret ([] : List ((Int) × It3)) (4 : Int) x.f7)
 (zQca x.f6 fun r34 =>
 let v35 := ((List.length r34 : Nat) : Int)
 let v36 := decide (v35 > (0 : Int))
 cond v36
 (cond (inB (0 : Int) (List.length r34))
 (let v37 := (List.getD r34 (0 : Int).toNat ([] : List UInt8))
 cond (inB (0 : Int) (List.length v37))
 (let v38 := bt v37 (0 : Int)
 let v39 := v38 != (35 : Int)
 cond v39
 (zoaa r34 fun r40 r41 =>
 let v42 := !r41
 cond v42
 (k_ret ([] : List ((Int) × It3)) (2 : Int) x.f7)
 (let v43 := List.set (List.replicate 1 ((0 : Int), (([] : List (Int)), (((0 : Int), (false, ((0 : Int), ((0 : Int), (false, ((0 : Int), ())))))), ((false, (false, (([] : List (Int)), ((0 : Int), (([] : List (Int)), ()))))), (([] : List UInt8), (([] : List (Int)), ((0 : Int), ((0 : Int), ((0 : Int), ())))))))))) 0 r40
 cond (decide (List.length x.f5 + List.length v43 ≤ most))
 (let v44 := x.f5 ++ v43
 let v45 := IntKind.i64.wrap (x.f7 + (1 : Int))
 let v46 := IntKind.i64.wrap (x.f8 + (1 : Int))
 rec ⟨x.f0, v44, ([] : List UInt8), v45, v46⟩) none))
 (let v47 := IntKind.i64.wrap (x.f7 + (1 : Int))
 let v48 := IntKind.i64.wrap (x.f8 + (1 : Int))
 rec ⟨x.f0, x.f5, ([] : List UInt8), v47, v48⟩)) none) none)
 (let v49 := IntKind.i64.wrap (x.f7 + (1 : Int))
 let v50 := IntKind.i64.wrap (x.f8 + (1 : Int))
 rec ⟨x.f0, x.f5, ([] : List UInt8), v49, v50⟩)))))
 (k_exit_0 x.f5)
noncomputable def zfoa (x : zOaa) : St := St.ofList [(0, (.v .str .s x.f0)), (5, (.v (.sl 43 (.pair (.int .i64) (.pair (.sl 5 (.int .u8)) Ty5))) (.o .s) x.f5)), (6, (.v .str .s x.f6)), (7, (.v (.int .i64) .s x.f7)), (8, (.v (.int .i64) .s x.f8))]
def zlma : Ex → List (Nat × Bool) | .ret => [(2, false), (3, false), (4, false)] | .exit 0 => [(5, false)] | _ => []
def zWia : List (Nat × Bool) := [(0, false), (5, false), (6, false), (7, false), (8, false)]
noncomputable def zJia : Pt zOaa := .s 0 (sV .str .s) fun y0 => .s 5 (sV (.sl 43 (.pair (.int .i64) (.pair (.sl 5 (.int .u8)) Ty5))) (.o .s)) fun y5 => .s 6 (sV .str .s) fun y6 => .s 7 (sV (.int .i64) .s) fun y7 => .s 8 (sV (.int .i64) .s) fun y8 => .e ⟨y0, y5, y6, y7, y8⟩
noncomputable def zVja (R : Type) (K : Ex → St → Option R) : (zOaa → Option R) → zOaa → Option R := zbba (fun e2 e3 e4 => K .ret (St.ofList [(2, (.v (.sl 43 (.pair (.int .i64) (.pair (.sl 5 (.int .u8)) Ty5))) (.o .s) e2)), (3, (.v (.int .i64) .s e3)), (4, (.v (.int .i64) .s e4))])) (fun e5 => K (.exit 0) (St.ofList [(5, (.v (.sl 43 (.pair (.int .i64) (.pair (.sl 5 (.int .u8)) Ty5))) (.o .s) e5))]))
noncomputable def zuga : Code := match zofa 4 (body Tryd.f9.body) with | some c => c | none => .skip
noncomputable def zifa : Loops := fun z i R st K => match z, i with
 | false, 4 => lpE zWia zJia (lpL zVja K) st
 | _, _ => none
theorem zjla : LStep zSba zifa inl0 zuga zWia zlma zfoa zVja := fun R K rec x => by kernel_rfl
theorem zona : zpha zSba zifa inl0 zuga := zOba zjla (p := zJia) (i := 4) (fun _ _ _ _ _ => ⟨rfl, rfl⟩) (by kernel_rfl) (fun R st K => by kernel_rfl)
theorem zuma : zXaa zSba zifa inl0 (body Tryd.f9.body) := by
 refine zBaa (fun c hc => ?_) (fun c hc => ?_)
 ·rw [show zgea (body Tryd.f9.body) = [zuga] by kernel_rfl] at hc
  simp only [List.mem_cons, List.not_mem_nil, or_false] at hc
  rcases hc with rfl
  ·exact zona
 ·rw [show zhea zSba (body Tryd.f9.body) = [] by kernel_rfl] at hc; cases hc
noncomputable def zQfa {R : Type} (a0 : List UInt8) (K : (List ((Int) × It3)) → Int → Int → Option R) : Option R :=
 loopN (zbba (fun w1 w2 w3 =>
 K w1 w2 w3) (fun w4 =>
 K w4 (0 : Int) (0 : Int))) zvfa ⟨a0, ([] : List ((Int) × It3)), ([] : List UInt8), (1 : Int), (0 : Int)⟩
noncomputable def zVka : CSpec := { ins := [(.val .str .s)], outs := [((.sl 43 (.pair (.int .i64) (.pair (.sl 5 (.int .u8)) Ty5))), (.o .s)), ((.int .i64), .s), ((.int .i64), .s)], fn := fun (d : (List UInt8) × Unit) K _ => zQfa d.1 (fun r0 r1 r2 => K ((r0, r1, r2, ()) : (List ((Int) × It3)) × Int × Int × Unit) ((()) : Unit)) }
theorem zwpa : Holds Tryd.prog 9 zVka := zsaa (env := zSba) (inl := inl0) (lp := zifa) (rs := [(2, none), (3, none), (4, none)]) (code := body Tryd.f9.body) ⟨mixed, envTyOk.ty, envTyOk.eq⟩ zCma zRaa Tryd.func9 zuma (by kernel_rfl) (by kernel_rfl) (by kernel_rfl) (by kernel_rfl) (by kernel_rfl) (by kernel_rfl) fun d R K Kp => by kernel_rfl
noncomputable def zwda : Env := { ty := envTy, eq := envEq, gam := noG, n := Tryd.f42.ntmps }
structure zsca where
 f0 : List (Int)
 f1 : List (Int)
 f5 : Int
noncomputable def ztca {R : Type} (k_ret : Bool → Option R) (k_exit_0 : Option R) (rec : zsca → Option R) (x : zsca) : Option R :=
 let v1 := ((List.length x.f0 : Nat) : Int)
 let v2 := decide (x.f5 < v1)
 cond v2
 (cond (inB x.f5 (List.length x.f0))
 (let v3 := List.getD x.f0 x.f5.toNat (0 : Int)
 cond (inB x.f5 (List.length x.f1))
 (let v4 := List.getD x.f1 x.f5.toNat (0 : Int)
 let v5 := v3 != v4
 cond v5
 (k_ret false)
 (let v6 := IntKind.i64.wrap (x.f5 + (1 : Int))
 rec ⟨x.f0, x.f1, v6⟩)) none) none)
 (k_exit_0)
noncomputable def zXoa (x : zsca) : St := St.ofList [(0, (.v (.sl 5 (.int .u8)) .s x.f0)), (1, (.v (.sl 5 (.int .u8)) .s x.f1)), (5, (.v (.int .i64) .s x.f5))]
def zhna : Ex → List (Nat × Bool) | .ret => [(4, false)] | .exit 0 => [] | _ => []
def zLja : List (Nat × Bool) := [(0, false), (1, false), (5, false)]
noncomputable def zIja : Pt zsca := .s 0 (sV (.sl 5 (.int .u8)) .s) fun y0 => .s 1 (sV (.sl 5 (.int .u8)) .s) fun y1 => .s 5 (sV (.int .i64) .s) fun y5 => .e ⟨y0, y1, y5⟩
noncomputable def zcla (R : Type) (K : Ex → St → Option R) : (zsca → Option R) → zsca → Option R := ztca (fun e4 => K .ret (St.ofList [(4, (.v .bool .s e4))])) (K (.exit 0) (St.ofList []))
noncomputable def zNha : Code := match zofa 4 (body Tryd.f42.body) with | some c => c | none => .skip
noncomputable def zSfa : Loops := fun z i R st K => match z, i with
 | false, 4 => lpE zLja zIja (lpL zcla K) st
 | _, _ => none
theorem zgma : LStep zwda zSfa inl0 zNha zLja zhna zXoa zcla := fun R K rec x => by kernel_rfl
theorem zUna : zpha zwda zSfa inl0 zNha := zOba zgma (p := zIja) (i := 4) (fun _ _ _ => ⟨rfl, rfl⟩) (by kernel_rfl) (fun R st K => by kernel_rfl)
theorem ztna : zXaa zwda zSfa inl0 (body Tryd.f42.body) := by
 refine zBaa (fun c hc => ?_) (fun c hc => ?_)
 ·rw [show zgea (body Tryd.f42.body) = [zNha] by kernel_rfl] at hc
  simp only [List.mem_cons, List.not_mem_nil, or_false] at hc
  rcases hc with rfl
  ·exact zUna
 ·rw [show zhea zwda (body Tryd.f42.body) = [] by kernel_rfl] at hc; cases hc
noncomputable def zvha {R : Type} (a0 : List (Int)) (a1 : List (Int)) (K : Bool → Option R) : Option R :=
 let v1 := ((List.length a0 : Nat) : Int)
 let v2 := ((List.length a1 : Nat) : Int)
 let v3 := v1 != v2
 cond v3
 (K false)
 (loopN (ztca (fun w4 =>
 K w4) (K true)) zvfa ⟨a0, a1, (0 : Int)⟩)
noncomputable def zcma : CSpec := { ins := [(.val (.sl 5 (.int .u8)) .s), (.val (.sl 5 (.int .u8)) .s)], outs := [(.bool, .s)], fn := fun (d : (List (Int)) × (List (Int)) × Unit) K _ => zvha d.1 d.2.1 (fun r0 => K ((r0, ()) : Bool × Unit) ((()) : Unit)) }
theorem zqqa : Holds Tryd.prog 42 zcma := zsaa (env := zwda) (inl := inl0) (lp := zSfa) (rs := [(4, none)]) (code := body Tryd.f42.body) ⟨mixed, envTyOk.ty, envTyOk.eq⟩ (fun _ _ _ h => by cases h) zRaa Tryd.func42 ztna (by kernel_rfl) (by kernel_rfl) (by kernel_rfl) (by kernel_rfl) (by kernel_rfl) (by kernel_rfl) fun d R K Kp => by kernel_rfl
noncomputable def zSaa : Env := { ty := envTy, eq := envEq, gam := noG, n := Tryd.f44.ntmps }
structure zJaa where
 f0 : List (Int)
 f1 : List (Int)
 f5 : Int
noncomputable def zLaa {R : Type} (k_ret : Bool → Option R) (k_exit_0 : Option R) (rec : zJaa → Option R) (x : zJaa) : Option R :=
 let v1 := ((List.length x.f0 : Nat) : Int)
 let v2 := decide (x.f5 < v1)
 cond v2
 (cond (inB x.f5 (List.length x.f0))
 (let v3 := List.getD x.f0 x.f5.toNat (0 : Int)
 cond (inB x.f5 (List.length x.f1))
 (let v4 := List.getD x.f1 x.f5.toNat (0 : Int)
 let v5 := v3 != v4
 cond v5
 (k_ret false)
 (let v6 := IntKind.i64.wrap (x.f5 + (1 : Int))
 rec ⟨x.f0, x.f1, v6⟩)) none) none)
 (k_exit_0)
noncomputable def zEja (x : zJaa) : St := St.ofList [(0, (.v (.sl 36 (.int .u64)) .s x.f0)), (1, (.v (.sl 36 (.int .u64)) .s x.f1)), (5, (.v (.int .i64) .s x.f5))]
def zpia : Ex → List (Nat × Bool) | .ret => [(4, false)] | .exit 0 => [] | _ => []
def zEea : List (Nat × Bool) := [(0, false), (1, false), (5, false)]
noncomputable def zzea : Pt zJaa := .s 0 (sV (.sl 36 (.int .u64)) .s) fun y0 => .s 1 (sV (.sl 36 (.int .u64)) .s) fun y1 => .s 5 (sV (.int .i64) .s) fun y5 => .e ⟨y0, y1, y5⟩
noncomputable def zcfa (R : Type) (K : Ex → St → Option R) : (zJaa → Option R) → zJaa → Option R := zLaa (fun e4 => K .ret (St.ofList [(4, (.v .bool .s e4))])) (K (.exit 0) (St.ofList []))
noncomputable def zyca : Code := match zofa 4 (body Tryd.f44.body) with | some c => c | none => .skip
noncomputable def zNba : Loops := fun z i R st K => match z, i with
 | false, 4 => lpE zEea zzea (lpL zcfa K) st
 | _, _ => none
theorem ztha : LStep zSaa zNba inl0 zyca zEea zpia zEja zcfa := fun R K rec x => by kernel_rfl
theorem zMia : zpha zSaa zNba inl0 zyca := zOba ztha (p := zzea) (i := 4) (fun _ _ _ => ⟨rfl, rfl⟩) (by kernel_rfl) (fun R st K => by kernel_rfl)
theorem zsia : zXaa zSaa zNba inl0 (body Tryd.f44.body) := by
 refine zBaa (fun c hc => ?_) (fun c hc => ?_)
 ·rw [show zgea (body Tryd.f44.body) = [zyca] by kernel_rfl] at hc
  simp only [List.mem_cons, List.not_mem_nil, or_false] at hc
  rcases hc with rfl
  ·exact zMia
 ·rw [show zhea zSaa (body Tryd.f44.body) = [] by kernel_rfl] at hc; cases hc
noncomputable def zvba {R : Type} (a0 : List (Int)) (a1 : List (Int)) (K : Bool → Option R) : Option R :=
 let v1 := ((List.length a0 : Nat) : Int)
 let v2 := ((List.length a1 : Nat) : Int)
 let v3 := v1 != v2
 cond v3
 (K false)
 (loopN (zLaa (fun w4 =>
 K w4) (K true)) zvfa ⟨a0, a1, (0 : Int)⟩)
noncomputable def zNca : CSpec := { ins := [(.val (.sl 36 (.int .u64)) .s), (.val (.sl 36 (.int .u64)) .s)], outs := [(.bool, .s)], fn := fun (d : (List (Int)) × (List (Int)) × Unit) K _ => zvba d.1 d.2.1 (fun r0 => K ((r0, ()) : Bool × Unit) ((()) : Unit)) }
theorem zdga : Holds Tryd.prog 44 zNca := zsaa (env := zSaa) (inl := inl0) (lp := zNba) (rs := [(4, none)]) (code := body Tryd.f44.body) ⟨mixed, envTyOk.ty, envTyOk.eq⟩ (fun _ _ _ h => by cases h) zRaa Tryd.func44 zsia (by kernel_rfl) (by kernel_rfl) (by kernel_rfl) (by kernel_rfl) (by kernel_rfl) (by kernel_rfl) fun d R K Kp => by kernel_rfl
noncomputable def zXea : List (FuncId × List FuncId × CSpec) := [(44, [], zNca)]
noncomputable def zQka : Nat → Bool
 | 2 => true
 | 3 => true
 | _ => false
noncomputable def zxfa : Env := { ty := envTy, eq := envEq, gam := (gamL zXea), n := Tryd.f43.ntmps, fz := zQka }
theorem zfja : EnvFn Tryd.prog zxfa := fun f gs c h => zCba (l := zXea) ⟨zdga, trivial⟩ f gs c h
noncomputable def zoca {R : Type} (a0 : (Bool) × (Bool) × (List (Int)) × (Int) × (List (Int)) × Unit) (a1 : (Bool) × (Bool) × (List (Int)) × (Int) × (List (Int)) × Unit) (K : Bool → Option R) : Option R :=
 let v1 := a0.1 == a1.1
 cond v1
 (let v2 := a0.2.1 == a1.2.1
 cond v2
 (zvba a0.2.2.1 a1.2.2.1 fun r3 =>
 cond r3
 (let v4 := a0.2.2.2.1 == a1.2.2.2.1
 cond v4
 (let v5 := u8s a0.2.2.2.2.1
 let v6 := u8s a1.2.2.2.2.1
 let v7 := v5 == v6
 K v7)
 (K false))
 (K false))
 (K false))
 (K false)
noncomputable def zega : CSpec := { ins := [(.val (.pair .bool (.pair .bool Ty1)) .s), (.val (.pair .bool (.pair .bool Ty1)) .s)], outs := [(.bool, .s)], fn := fun (d : ((Bool) × (Bool) × (List (Int)) × (Int) × (List (Int)) × Unit) × ((Bool) × (Bool) × (List (Int)) × (Int) × (List (Int)) × Unit) × Unit) K _ => zoca d.1 d.2.1 (fun r0 => K ((r0, ()) : Bool × Unit) ((()) : Unit)) }
theorem zMla : Holds Tryd.prog 43 zega := zsaa (env := zxfa) (inl := inl0) (lp := lp0) (rs := [(4, none)]) (code := body Tryd.f43.body) ⟨mixed, envTyOk.ty, envTyOk.eq⟩ zfja zRaa Tryd.func43 (zraa (by kernel_rfl) (by kernel_rfl)) (by kernel_rfl) (by kernel_rfl) (by kernel_rfl) (by kernel_rfl) (by kernel_rfl) (by kernel_rfl) fun d R K Kp => by kernel_rfl
noncomputable def zOja : List (FuncId × List FuncId × CSpec) := [(42, [], zcma), (43, [], zega), (44, [], zNca)]
noncomputable def zzpa : Nat → Bool
 | 2 => true
 | 3 => true
 | _ => false
noncomputable def zqpa : Nat → Option (List Nat)
 | 0 => some [0, 1]
 | 1 => some [2, 3]
 | _ => none
noncomputable def zRka : Env := { ty := envTy, eq := envEq, gam := (gamL zOja), n := Tryd.f19.ntmps, fz := zzpa, lv := zqpa }
theorem zzna : EnvFn Tryd.prog zRka := fun f gs c h => zCba (l := zOja) ⟨zqqa, zMla, zdga, trivial⟩ f gs c h
noncomputable def zuha {R : Type} (a0 : (Int) × It3) (a1 : (Int) × It3) (K : Bool → Option R) : Option R :=
 let v1 := a0.1 == a1.1
 cond v1
 (zvha a0.2.1 a1.2.1 fun r2 =>
 cond r2
 (let v3 := ((a0.2.2.1.1 == a1.2.2.1.1) && ((a0.2.2.1.2.1 == a1.2.2.1.2.1) && ((a0.2.2.1.2.2.1 == a1.2.2.1.2.2.1) && ((a0.2.2.1.2.2.2.1 == a1.2.2.1.2.2.2.1) && ((a0.2.2.1.2.2.2.2.1 == a1.2.2.1.2.2.2.2.1) && ((a0.2.2.1.2.2.2.2.2.1 == a1.2.2.1.2.2.2.2.2.1) && true))))))
 cond v3
 (zoca a0.2.2.2.1 a1.2.2.2.1 fun r4 =>
 cond r4
 (let v5 := a0.2.2.2.2.1 == a1.2.2.2.2.1
 cond v5
 (zvba a0.2.2.2.2.2.1 a1.2.2.2.2.2.1 fun r6 =>
 cond r6
 (let v7 := a0.2.2.2.2.2.2.1 == a1.2.2.2.2.2.2.1
 cond v7
 (let v8 := a0.2.2.2.2.2.2.2.1 == a1.2.2.2.2.2.2.2.1
 cond v8
 (let v9 := a0.2.2.2.2.2.2.2.2.1 == a1.2.2.2.2.2.2.2.2.1
 K v9)
 (K false))
 (K false))
 (K false))
 (K false))
 (K false))
 (K false))
 (K false))
 (K false)
noncomputable def zbma : CSpec := { ins := [(.val (.pair (.int .i64) (.pair (.sl 5 (.int .u8)) Ty5)) .s), (.val (.pair (.int .i64) (.pair (.sl 5 (.int .u8)) Ty5)) .s)], outs := [(.bool, .s)], fn := fun (d : ((Int) × It3) × ((Int) × It3) × Unit) K _ => zuha d.1 d.2.1 (fun r0 => K ((r0, ()) : Bool × Unit) ((()) : Unit)) }
theorem zpqa : Holds Tryd.prog 19 zbma := zsaa (env := zRka) (inl := inl0) (lp := lp0) (rs := [(4, none)]) (code := body Tryd.f19.body) ⟨mixed, envTyOk.ty, envTyOk.eq⟩ zzna zRaa Tryd.func19 (zraa (by kernel_rfl) (by kernel_rfl)) (by kernel_rfl) (by kernel_rfl) (by kernel_rfl) (by kernel_rfl) (by kernel_rfl) (by kernel_rfl) fun d R K Kp => by kernel_rfl
noncomputable def ziha : List (FuncId × List FuncId × CSpec) := [(19, [], zbma)]
noncomputable def znba : Env := { ty := envTy, eq := envEq, gam := (gamL ziha), n := Tryd.f10.ntmps }
theorem zPka : EnvFn Tryd.prog znba := fun f gs c h => zCba (l := ziha) ⟨zpqa, trivial⟩ f gs c h
structure zpba where
 f0 : List ((Int) × It3)
 f1 : List ((Int) × It3)
 f5 : Int
noncomputable def zsba {R : Type} (k_ret : Bool → Option R) (k_exit_0 : Option R) (rec : zpba → Option R) (x : zpba) : Option R :=
 let v1 := ((List.length x.f0 : Nat) : Int)
 let v2 := decide (x.f5 < v1)
 cond v2
 (cond (inB x.f5 (List.length x.f0))
 (let v3 := List.getD x.f0 x.f5.toNat ((0 : Int), (([] : List (Int)), (((0 : Int), (false, ((0 : Int), ((0 : Int), (false, ((0 : Int), ())))))), ((false, (false, (([] : List (Int)), ((0 : Int), (([] : List (Int)), ()))))), (([] : List UInt8), (([] : List (Int)), ((0 : Int), ((0 : Int), ((0 : Int), ())))))))))
 cond (inB x.f5 (List.length x.f1))
 (let v4 := List.getD x.f1 x.f5.toNat ((0 : Int), (([] : List (Int)), (((0 : Int), (false, ((0 : Int), ((0 : Int), (false, ((0 : Int), ())))))), ((false, (false, (([] : List (Int)), ((0 : Int), (([] : List (Int)), ()))))), (([] : List UInt8), (([] : List (Int)), ((0 : Int), ((0 : Int), ((0 : Int), ())))))))))
 zuha v3 v4 fun r5 =>
 let v6 := !r5
 cond v6
 (k_ret false)
 (let v7 := IntKind.i64.wrap (x.f5 + (1 : Int))
 rec ⟨x.f0, x.f1, v7⟩)) none) none)
 (k_exit_0)
noncomputable def zGma (x : zpba) : St := St.ofList [(0, (.v (.sl 43 (.pair (.int .i64) (.pair (.sl 5 (.int .u8)) Ty5))) .s x.f0)), (1, (.v (.sl 43 (.pair (.int .i64) (.pair (.sl 5 (.int .u8)) Ty5))) .s x.f1)), (5, (.v (.int .i64) .s x.f5))]
def zwka : Ex → List (Nat × Bool) | .ret => [(4, false)] | .exit 0 => [] | _ => []
def zgha : List (Nat × Bool) := [(0, false), (1, false), (5, false)]
noncomputable def zFga : Pt zpba := .s 0 (sV (.sl 43 (.pair (.int .i64) (.pair (.sl 5 (.int .u8)) Ty5))) .s) fun y0 => .s 1 (sV (.sl 43 (.pair (.int .i64) (.pair (.sl 5 (.int .u8)) Ty5))) .s) fun y1 => .s 5 (sV (.int .i64) .s) fun y5 => .e ⟨y0, y1, y5⟩
noncomputable def zmia (R : Type) (K : Ex → St → Option R) : (zpba → Option R) → zpba → Option R := zsba (fun e4 => K .ret (St.ofList [(4, (.v .bool .s e4))])) (K (.exit 0) (St.ofList []))
noncomputable def zUea : Code := match zofa 4 (body Tryd.f10.body) with | some c => c | none => .skip
noncomputable def zjda : Loops := fun z i R st K => match z, i with
 | false, 4 => lpE zgha zFga (lpL zmia K) st
 | _, _ => none
theorem zYja : LStep znba zjda inl0 zUea zgha zwka zGma zmia := fun R K rec x => by kernel_rfl
theorem ztla : zpha znba zjda inl0 zUea := zOba zYja (p := zFga) (i := 4) (fun _ _ _ => ⟨rfl, rfl⟩) (by kernel_rfl) (fun R st K => by kernel_rfl)
theorem zxka : zXaa znba zjda inl0 (body Tryd.f10.body) := by
 refine zBaa (fun c hc => ?_) (fun c hc => ?_)
 ·rw [show zgea (body Tryd.f10.body) = [zUea] by kernel_rfl] at hc
  simp only [List.mem_cons, List.not_mem_nil, or_false] at hc
  rcases hc with rfl
  ·exact ztla
 ·rw [show zhea znba (body Tryd.f10.body) = [] by kernel_rfl] at hc; cases hc
noncomputable def zAca {R : Type} (a0 : List ((Int) × It3)) (a1 : List ((Int) × It3)) (K : Bool → Option R) : Option R :=
 let v1 := ((List.length a0 : Nat) : Int)
 let v2 := ((List.length a1 : Nat) : Int)
 let v3 := v1 != v2
 cond v3
 (K false)
 (loopN (zsba (fun w4 =>
 K w4) (K true)) zvfa ⟨a0, a1, (0 : Int)⟩)
noncomputable def zAfa : CSpec := { ins := [(.val (.sl 43 (.pair (.int .i64) (.pair (.sl 5 (.int .u8)) Ty5))) .s), (.val (.sl 43 (.pair (.int .i64) (.pair (.sl 5 (.int .u8)) Ty5))) .s)], outs := [(.bool, .s)], fn := fun (d : (List ((Int) × It3)) × (List ((Int) × It3)) × Unit) K _ => zAca d.1 d.2.1 (fun r0 => K ((r0, ()) : Bool × Unit) ((()) : Unit)) }
theorem zMja : Holds Tryd.prog 10 zAfa := zsaa (env := znba) (inl := inl0) (lp := zjda) (rs := [(4, none)]) (code := body Tryd.f10.body) ⟨mixed, envTyOk.ty, envTyOk.eq⟩ zPka zRaa Tryd.func10 zxka (by kernel_rfl) (by kernel_rfl) (by kernel_rfl) (by kernel_rfl) (by kernel_rfl) (by kernel_rfl) fun d R K Kp => by kernel_rfl
noncomputable def zHea : List (FuncId × List FuncId × CSpec) := [(7, [], zMha), (8, [], zpea), (9, [], zVka), (10, [], zAfa)]
noncomputable def zZja : Nat → Bool
 | 15 => true
 | _ => false
noncomputable def zYea : Env := { ty := envTy, eq := envEq, gam := (gamL zHea), n := Tryd.f3.ntmps, sb := zZja }
theorem zxia : EnvFn Tryd.prog zYea := fun f gs c h => zCba (l := zHea) ⟨zYla, zFha, zwpa, zMja, trivial⟩ f gs c h
noncomputable def zdca {R : Type} (a0 : List UInt8) (K : Bool → Option R) : Option R :=
 zAea fun r1 =>
 let v2 := !r1
 cond v2
 (K false)
 (let v3 := ((List.length a0 : Nat) : Int)
 let v4 := minI v3 (100000 : Int)
 cond (inR (0 : Int) v4 (List.length a0))
 (let v5 := rng a0 (0 : Int) v4
 zLba v5 fun r6 r7 r8 =>
 zQfa v5 fun r9 r10 r11 =>
 zAca r6 r9 fun r12 =>
 cond r12
 (let v13 := r7 == r10
 cond v13
 (let v14 := r8 == r11
 K v14)
 (K false))
 (K false)) none)
noncomputable def cs_law26_ScriptReads : CSpec := { ins := [(.val .str .s)], outs := [(.bool, .s)], fn := fun (d : (List UInt8) × Unit) K _ => zdca d.1 (fun r0 => K ((r0, ()) : Bool × Unit) ((()) : Unit)) }
theorem zMka : Holds Tryd.prog 3 cs_law26_ScriptReads := zsaa (env := zYea) (inl := inl0) (lp := lp0) (rs := [(2, none)]) (code := body Tryd.f3.body) ⟨mixed, envTyOk.ty, envTyOk.eq⟩ zxia zRaa Tryd.func3 (zraa (by kernel_rfl) (by kernel_rfl)) (by kernel_rfl) (by kernel_rfl) (by kernel_rfl) (by kernel_rfl) (by kernel_rfl) (by kernel_rfl) fun d R K Kp => by kernel_rfl
noncomputable def zUda : List (FuncId × List FuncId × CSpec) := [(7, [], zMha), (8, [], zpea), (10, [], zAfa)]
noncomputable def zAja : Nat → Bool
 | 9 => true
 | 13 => true
 | 15 => true
 | 17 => true
 | 22 => true
 | _ => false
noncomputable def zvja : Nat → Option (List Nat)
 | 0 => some [0, 1]
 | 1 => some [0, 1]
 | 2 => some []
 | 3 => some [0, 1]
 | 4 => some []
 | 5 => some [0, 1]
 | 6 => some [0, 1, 5]
 | 7 => some [0, 1, 5, 6, 7]
 | 8 => some [0, 1, 5, 6, 7, 8]
 | 9 => some [0, 1, 5, 6, 7, 8]
 | 10 => some [0, 1, 5, 6, 7, 8]
 | 11 => some [0, 1, 5, 6, 7, 8, 9]
 | 12 => some [0, 1, 5, 6, 7, 8]
 | 13 => some [0, 1, 5, 6, 7, 8, 9]
 | 14 => some [0, 1, 5, 6, 7, 8, 9]
 | 15 => some [0, 1, 5, 6, 7, 8, 9]
 | 16 => some [0, 1, 5, 6, 7, 8]
 | 17 => some [0, 1, 5, 6, 7, 8]
 | 18 => some [0, 1, 5, 6, 7, 8]
 | 19 => some [0, 1, 5, 6, 7, 8]
 | 20 => some [0, 1, 5, 7, 8]
 | 21 => some [0, 1, 5, 7, 8]
 | 22 => some [0, 1, 5, 6, 7, 8]
 | 23 => some []
 | 24 => some [0, 5]
 | 25 => some [5, 10, 11]
 | 26 => some [10, 11, 13, 14]
 | _ => none
noncomputable def zcaa : Env := { ty := envTy, eq := envEq, gam := (gamL zUda), n := Tryd.f4.ntmps, js := zAja, lv := zvja }
theorem zJha : EnvFn Tryd.prog zcaa := fun f gs c h => zCba (l := zUda) ⟨zYla, zFha, zMja, trivial⟩ f gs c h
structure zmba where
 f0 : List UInt8
 f1 : List (Int)
 f5 : List UInt8
 f6 : Int
 f7 : Int
 f8 : Int
 f9 : Int
noncomputable def zbea {R : Type} (k_normal : (List UInt8) → (List (Int)) → (List UInt8) → Int → Int → Int → Int → Option R) (x : zmba) : Option R :=
 let v1 := ((List.length x.f1 : Nat) : Int)
 let v2 := decide (x.f7 < v1)
 cond v2
 (cond (inB x.f7 (List.length x.f1))
 (let v3 := List.getD x.f1 x.f7.toNat (0 : Int)
 k_normal x.f0 x.f1 x.f5 x.f6 x.f7 x.f8 v3) none)
 (k_normal x.f0 x.f1 x.f5 x.f6 x.f7 x.f8 x.f9)
noncomputable def zBia (x : zmba) : St := St.ofList [(0, (.v .str .s x.f0)), (1, (.v (.sl 5 (.int .u8)) .s x.f1)), (5, (.v .str .s x.f5)), (6, (.v (.int .i64) .s x.f6)), (7, (.v (.int .i64) .s x.f7)), (8, (.v (.int .i64) .s x.f8)), (9, (.v (.int .u8) .s x.f9))]
def zKga : Ex → List (Nat × Bool) | .normal => [(0, false), (1, false), (5, false), (6, false), (7, false), (8, false), (9, false)] | _ => []
def zYca : List (Nat × Bool) := [(0, false), (1, false), (5, false), (6, false), (7, false), (8, false), (9, false)]
noncomputable def zUca : Pt zmba := .s 0 (sV .str .s) fun y0 => .s 1 (sV (.sl 5 (.int .u8)) .s) fun y1 => .s 5 (sV .str .s) fun y5 => .s 6 (sV (.int .i64) .s) fun y6 => .s 7 (sV (.int .i64) .s) fun y7 => .s 8 (sV (.int .i64) .s) fun y8 => .s 9 (sV (.int .u8) .s) fun y9 => .e ⟨y0, y1, y5, y6, y7, y8, y9⟩
noncomputable def zpda (R : Type) (K : Ex → St → Option R) : zmba → Option R := zbea (fun e0 e1 e5 e6 e7 e8 e9 => K .normal (St.ofList [(0, (.v .str .s e0)), (1, (.v (.sl 5 (.int .u8)) .s e1)), (5, (.v .str .s e5)), (6, (.v (.int .i64) .s e6)), (7, (.v (.int .i64) .s e7)), (8, (.v (.int .i64) .s e8)), (9, (.v (.int .u8) .s e9))]))
noncomputable def zbca : Code := match joinC 13 (body Tryd.f4.body) with | some c => c | none => .skip
structure zlba where
 f0 : List UInt8
 f1 : List (Int)
 f5 : List UInt8
 f6 : Int
 f7 : Int
 f8 : Int
 f9 : Int
noncomputable def zaea {R : Type} (k_normal : (List UInt8) → (List (Int)) → (List UInt8) → Int → Int → Int → Int → Option R) (x : zlba) : Option R :=
 let v1 := x.f6 == (0 : Int)
 cond v1
 (let v2 := IntKind.u8.wrap ((BitVec.ofInt IntKind.u8.bits x.f9 &&& BitVec.ofInt IntKind.u8.bits (1 : Int)).toNat)
 let v3 := v2 == (1 : Int)
 cond v3
 (cond (decide (x.f5.length + ([35, 32, 114, 101, 97, 100, 10, 32, 10] : List UInt8).length ≤ most))
 (let v4 := x.f5 ++ ([35, 32, 114, 101, 97, 100, 10, 32, 10] : List UInt8)
 k_normal x.f0 x.f1 v4 x.f6 x.f7 x.f8 x.f9) none)
 (k_normal x.f0 x.f1 x.f5 x.f6 x.f7 x.f8 x.f9))
 (k_normal x.f0 x.f1 x.f5 x.f6 x.f7 x.f8 x.f9)
noncomputable def zAia (x : zlba) : St := St.ofList [(0, (.v .str .s x.f0)), (1, (.v (.sl 5 (.int .u8)) .s x.f1)), (5, (.v .str .s x.f5)), (6, (.v (.int .i64) .s x.f6)), (7, (.v (.int .i64) .s x.f7)), (8, (.v (.int .i64) .s x.f8)), (9, (.v (.int .u8) .s x.f9))]
def zJga : Ex → List (Nat × Bool) | .normal => [(0, false), (1, false), (5, false), (6, false), (7, false), (8, false), (9, false)] | _ => []
def zXca : List (Nat × Bool) := [(0, false), (1, false), (5, false), (6, false), (7, false), (8, false), (9, false)]
noncomputable def zTca : Pt zlba := .s 0 (sV .str .s) fun y0 => .s 1 (sV (.sl 5 (.int .u8)) .s) fun y1 => .s 5 (sV .str .s) fun y5 => .s 6 (sV (.int .i64) .s) fun y6 => .s 7 (sV (.int .i64) .s) fun y7 => .s 8 (sV (.int .i64) .s) fun y8 => .s 9 (sV (.int .u8) .s) fun y9 => .e ⟨y0, y1, y5, y6, y7, y8, y9⟩
noncomputable def zoda (R : Type) (K : Ex → St → Option R) : zlba → Option R := zaea (fun e0 e1 e5 e6 e7 e8 e9 => K .normal (St.ofList [(0, (.v .str .s e0)), (1, (.v (.sl 5 (.int .u8)) .s e1)), (5, (.v .str .s e5)), (6, (.v (.int .i64) .s e6)), (7, (.v (.int .i64) .s e7)), (8, (.v (.int .i64) .s e8)), (9, (.v (.int .u8) .s e9))]))
noncomputable def zaca : Code := match joinC 15 (body Tryd.f4.body) with | some c => c | none => .skip
structure zkba where
 f0 : List UInt8
 f1 : List (Int)
 f5 : List UInt8
 f6 : Int
 f7 : Int
 f8 : Int
 f9 : Int
noncomputable def zZda {R : Type} (k_normal : (List UInt8) → (List (Int)) → (List UInt8) → Int → Int → Int → Option R) (x : zkba) : Option R :=
 cond (inB x.f8 (List.length x.f0))
 (let v1 := bt x.f0 x.f8
 let v2 := v1 == (32 : Int)
 cond v2
 (let v3 := IntKind.u8.wrap ((BitVec.ofInt IntKind.u8.bits x.f9 &&& BitVec.ofInt IntKind.u8.bits (2 : Int)).toNat)
 let v4 := v3 == (2 : Int)
 cond v4
 (cond (decide (x.f5.length + ([32] : List UInt8).length ≤ most))
 (let v5 := x.f5 ++ ([32] : List UInt8)
 k_normal x.f0 x.f1 v5 x.f6 x.f7 x.f8) none)
 (k_normal x.f0 x.f1 x.f5 x.f6 x.f7 x.f8))
 (k_normal x.f0 x.f1 x.f5 x.f6 x.f7 x.f8)) none
noncomputable def zzia (x : zkba) : St := St.ofList [(0, (.v .str .s x.f0)), (1, (.v (.sl 5 (.int .u8)) .s x.f1)), (5, (.v .str .s x.f5)), (6, (.v (.int .i64) .s x.f6)), (7, (.v (.int .i64) .s x.f7)), (8, (.v (.int .i64) .s x.f8)), (9, (.v (.int .u8) .s x.f9))]
def zIga : Ex → List (Nat × Bool) | .normal => [(0, false), (1, false), (5, false), (6, false), (7, false), (8, false)] | _ => []
def zWca : List (Nat × Bool) := [(0, false), (1, false), (5, false), (6, false), (7, false), (8, false), (9, false)]
noncomputable def zSca : Pt zkba := .s 0 (sV .str .s) fun y0 => .s 1 (sV (.sl 5 (.int .u8)) .s) fun y1 => .s 5 (sV .str .s) fun y5 => .s 6 (sV (.int .i64) .s) fun y6 => .s 7 (sV (.int .i64) .s) fun y7 => .s 8 (sV (.int .i64) .s) fun y8 => .s 9 (sV (.int .u8) .s) fun y9 => .e ⟨y0, y1, y5, y6, y7, y8, y9⟩
noncomputable def znda (R : Type) (K : Ex → St → Option R) : zkba → Option R := zZda (fun e0 e1 e5 e6 e7 e8 => K .normal (St.ofList [(0, (.v .str .s e0)), (1, (.v (.sl 5 (.int .u8)) .s e1)), (5, (.v .str .s e5)), (6, (.v (.int .i64) .s e6)), (7, (.v (.int .i64) .s e7)), (8, (.v (.int .i64) .s e8))]))
noncomputable def zZba : Code := match joinC 17 (body Tryd.f4.body) with | some c => c | none => .skip
structure zjba where
 f0 : List UInt8
 f1 : List (Int)
 f5 : List UInt8
 f6 : Int
 f7 : Int
 f8 : Int
noncomputable def zYda {R : Type} (k_normal : (List UInt8) → (List (Int)) → (List UInt8) → Int → Int → Int → Option R) (x : zjba) : Option R :=
 cond (inB x.f8 (List.length x.f0))
 (let v1 := bt x.f0 x.f8
 let v2 := v1 == (10 : Int)
 cond v2
 (let v3 := IntKind.i64.wrap (x.f7 + (1 : Int))
 k_normal x.f0 x.f1 x.f5 (0 : Int) v3 x.f8)
 (k_normal x.f0 x.f1 x.f5 x.f6 x.f7 x.f8)) none
noncomputable def zyia (x : zjba) : St := St.ofList [(0, (.v .str .s x.f0)), (1, (.v (.sl 5 (.int .u8)) .s x.f1)), (5, (.v .str .s x.f5)), (6, (.v (.int .i64) .s x.f6)), (7, (.v (.int .i64) .s x.f7)), (8, (.v (.int .i64) .s x.f8))]
def zHga : Ex → List (Nat × Bool) | .normal => [(0, false), (1, false), (5, false), (6, false), (7, false), (8, false)] | _ => []
def zVca : List (Nat × Bool) := [(0, false), (1, false), (5, false), (6, false), (7, false), (8, false)]
noncomputable def zRca : Pt zjba := .s 0 (sV .str .s) fun y0 => .s 1 (sV (.sl 5 (.int .u8)) .s) fun y1 => .s 5 (sV .str .s) fun y5 => .s 6 (sV (.int .i64) .s) fun y6 => .s 7 (sV (.int .i64) .s) fun y7 => .s 8 (sV (.int .i64) .s) fun y8 => .e ⟨y0, y1, y5, y6, y7, y8⟩
noncomputable def zmda (R : Type) (K : Ex → St → Option R) : zjba → Option R := zYda (fun e0 e1 e5 e6 e7 e8 => K .normal (St.ofList [(0, (.v .str .s e0)), (1, (.v (.sl 5 (.int .u8)) .s e1)), (5, (.v .str .s e5)), (6, (.v (.int .i64) .s e6)), (7, (.v (.int .i64) .s e7)), (8, (.v (.int .i64) .s e8))]))
noncomputable def zYba : Code := match joinC 22 (body Tryd.f4.body) with | some c => c | none => .skip
structure zxba where
 f0 : List UInt8
 f1 : List (Int)
 f5 : List UInt8
 f6 : Int
 f7 : Int
 f8 : Int
noncomputable def zLea {R : Type} (k_ret : Bool → Option R) (k_normal : (List UInt8) → (List (Int)) → (List UInt8) → Int → Int → Int → Option R) (x : zxba) : Option R :=
 zbea (fun w1 w2 w3 w4 w5 w6 w7 =>
 zaea (fun w8 w9 w10 w11 w12 w13 w14 =>
 zZda (fun w15 w16 w17 w18 w19 w20 =>
 let v21 := IntKind.i64.wrap (w20 + (1 : Int))
 cond (inR w20 v21 (List.length w15))
 (let v22 := rng w15 w20 v21
 cond (decide (w17.length + v22.length ≤ most))
 (let v23 := w17 ++ v22
 let v24 := IntKind.i64.wrap (w18 + (1 : Int))
 zYda (fun w25 w26 w27 w28 w29 w30 =>
 let v31 := decide (w28 > (200 : Int))
 cond v31
 (k_ret true)
 (let v32 := decide (w29 > (80 : Int))
 cond v32
 (k_ret true)
 (k_normal w25 w26 w27 w28 w29 w30))) ⟨w15, w16, v23, v24, w19, w20⟩) none) none) ⟨w8, w9, w10, w11, w12, w13, w14⟩) ⟨w1, w2, w3, w4, w5, w6, w7⟩) ⟨x.f0, x.f1, x.f5, x.f6, x.f7, x.f8, (0 : Int)⟩
noncomputable def zoja (x : zxba) : St := St.ofList [(0, (.v .str .s x.f0)), (1, (.v (.sl 5 (.int .u8)) .s x.f1)), (5, (.v .str .s x.f5)), (6, (.v (.int .i64) .s x.f6)), (7, (.v (.int .i64) .s x.f7)), (8, (.v (.int .i64) .s x.f8))]
def zBha : Ex → List (Nat × Bool) | .ret => [(4, false)] | .normal => [(0, false), (1, false), (5, false), (6, false), (7, false), (8, false)] | _ => []
def zlda : List (Nat × Bool) := [(0, false), (1, false), (5, false), (6, false), (7, false), (8, false)]
noncomputable def zkda : Pt zxba := .s 0 (sV .str .s) fun y0 => .s 1 (sV (.sl 5 (.int .u8)) .s) fun y1 => .s 5 (sV .str .s) fun y5 => .s 6 (sV (.int .i64) .s) fun y6 => .s 7 (sV (.int .i64) .s) fun y7 => .s 8 (sV (.int .i64) .s) fun y8 => .e ⟨y0, y1, y5, y6, y7, y8⟩
noncomputable def zQda (R : Type) (K : Ex → St → Option R) : zxba → Option R := zLea (fun e4 => K .ret (St.ofList [(4, (.v .bool .s e4))])) (fun e0 e1 e5 e6 e7 e8 => K .normal (St.ofList [(0, (.v .str .s e0)), (1, (.v (.sl 5 (.int .u8)) .s e1)), (5, (.v .str .s e5)), (6, (.v (.int .i64) .s e6)), (7, (.v (.int .i64) .s e7)), (8, (.v (.int .i64) .s e8))]))
noncomputable def zhca : Code := match joinC 9 (body Tryd.f4.body) with | some c => c | none => .skip
structure zCaa where
 f0 : List UInt8
 f1 : List (Int)
 f5 : List UInt8
 f6 : Int
 f7 : Int
 f8 : Int
noncomputable def zNea {R : Type} (k_ret : Bool → Option R) (k_exit_0 : (List UInt8) → (List UInt8) → Option R) (rec : zCaa → Option R) (x : zCaa) : Option R :=
 let v1 := ((List.length x.f0 : Nat) : Int)
 let v2 := decide (x.f8 < v1)
 cond v2
 (zLea (fun w3 =>
 k_ret w3) (fun w4 w5 w6 w7 w8 w9 =>
 let v10 := IntKind.i64.wrap (w9 + (1 : Int))
 rec ⟨w4, w5, w6, w7, w8, v10⟩) ⟨x.f0, x.f1, x.f5, x.f6, x.f7, x.f8⟩)
 (k_exit_0 x.f0 x.f5)
noncomputable def znja (x : zCaa) : St := St.ofList [(0, (.v .str .s x.f0)), (1, (.v (.sl 5 (.int .u8)) .s x.f1)), (5, (.v .str .s x.f5)), (6, (.v (.int .i64) .s x.f6)), (7, (.v (.int .i64) .s x.f7)), (8, (.v (.int .i64) .s x.f8))]
def zwha : Ex → List (Nat × Bool) | .ret => [(4, false)] | .exit 0 => [(0, false), (5, false)] | _ => []
def zRda : List (Nat × Bool) := [(0, false), (1, false), (5, false), (6, false), (7, false), (8, false)]
noncomputable def zOda : Pt zCaa := .s 0 (sV .str .s) fun y0 => .s 1 (sV (.sl 5 (.int .u8)) .s) fun y1 => .s 5 (sV .str .s) fun y5 => .s 6 (sV (.int .i64) .s) fun y6 => .s 7 (sV (.int .i64) .s) fun y7 => .s 8 (sV (.int .i64) .s) fun y8 => .e ⟨y0, y1, y5, y6, y7, y8⟩
noncomputable def zMea (R : Type) (K : Ex → St → Option R) : (zCaa → Option R) → zCaa → Option R := zNea (fun e4 => K .ret (St.ofList [(4, (.v .bool .s e4))])) (fun e0 e5 => K (.exit 0) (St.ofList [(0, (.v .str .s e0)), (5, (.v .str .s e5))]))
noncomputable def zjca : Code := match zofa 8 (body Tryd.f4.body) with | some c => c | none => .skip
noncomputable def zdaa : Loops := fun z i R st K => match z, i with
 | false, 8 => lpE zRda zOda (lpL zMea K) st
 | true, 13 => lpE zYca zUca (zpda R K) st
 | true, 15 => lpE zXca zTca (zoda R K) st
 | true, 17 => lpE zWca zSca (znda R K) st
 | true, 22 => lpE zVca zRca (zmda R K) st
 | true, 9 => lpE zlda zkda (zQda R K) st
 | _, _ => none
theorem zKfa : JStep zcaa zdaa inl0 zbca zKga zBia zpda := fun R K x => by kernel_rfl
theorem zUga : zOfa zcaa zdaa inl0 zbca 13 := zhba (hd := zYca) zKfa (p := zUca) (fun _ _ _ _ _ _ _ => ⟨rfl, rfl⟩) (fun R st K => by kernel_rfl)
theorem zJfa : JStep zcaa zdaa inl0 zaca zJga zAia zoda := fun R K x => by kernel_rfl
theorem zTga : zOfa zcaa zdaa inl0 zaca 15 := zhba (hd := zXca) zJfa (p := zTca) (fun _ _ _ _ _ _ _ => ⟨rfl, rfl⟩) (fun R st K => by kernel_rfl)
theorem zIfa : JStep zcaa zdaa inl0 zZba zIga zzia znda := fun R K x => by kernel_rfl
theorem zSga : zOfa zcaa zdaa inl0 zZba 17 := zhba (hd := zWca) zIfa (p := zSca) (fun _ _ _ _ _ _ _ => ⟨rfl, rfl⟩) (fun R st K => by kernel_rfl)
theorem zHfa : JStep zcaa zdaa inl0 zYba zHga zyia zmda := fun R K x => by kernel_rfl
theorem zRga : zOfa zcaa zdaa inl0 zYba 22 := zhba (hd := zVca) zHfa (p := zRca) (fun _ _ _ _ _ _ => ⟨rfl, rfl⟩) (fun R st K => by kernel_rfl)
theorem zkga : JStep zcaa zdaa inl0 zhca zBha zoja zQda := fun R K x => by kernel_rfl
theorem zCha : zOfa zcaa zdaa inl0 zhca 9 := zhba (hd := zlda) zkga (p := zkda) (fun _ _ _ _ _ _ => ⟨rfl, rfl⟩) (fun R st K => by kernel_rfl)
theorem zyga : LStep zcaa zdaa inl0 zjca zRda zwha znja zMea := fun R K rec x => by kernel_rfl
theorem zqia : zpha zcaa zdaa inl0 zjca := zOba zyga (p := zOda) (i := 8) (fun _ _ _ _ _ _ => ⟨rfl, rfl⟩) (by kernel_rfl) (fun R st K => by kernel_rfl)
theorem zAha : zXaa zcaa zdaa inl0 (body Tryd.f4.body) := by
 refine zBaa (fun c hc => ?_) (fun c hc => ?_)
 ·rw [show zgea (body Tryd.f4.body) = [zjca] by kernel_rfl] at hc
  simp only [List.mem_cons, List.not_mem_nil, or_false] at hc
  rcases hc with rfl
  ·exact zqia
 ·rw [show zhea zcaa (body Tryd.f4.body) = [(zYba, 22), (zZba, 17), (zaca, 15), (zbca, 13), (zhca, 9)] by kernel_rfl] at hc
  simp only [List.mem_cons, List.not_mem_nil, or_false] at hc
  rcases hc with rfl | rfl | rfl | rfl | rfl
  ·exact zRga
  ·exact zSga
  ·exact zTga
  ·exact zUga
  ·exact zCha
noncomputable def zbka {R : Type} (a0 : List UInt8) (a1 : List (Int)) (K : Bool → Option R) : Option R :=
 zAea fun r1 =>
 let v2 := !r1
 cond v2
 (K false)
 (let v3 := ((List.length a0 : Nat) : Int)
 let v4 := decide (v3 > (20000 : Int))
 cond v4
 (K true)
 (loopN (zNea (fun w5 =>
 K w5) (fun w6 w7 =>
 zLba w6 fun r8 r9 r10 =>
 zLba w7 fun r11 r12 r13 =>
 let v14 := r9 == r12
 cond v14
 (zAca r8 r11 fun r15 =>
 K r15)
 (K false))) zvfa ⟨a0, a1, ([] : List UInt8), (0 : Int), (0 : Int), (0 : Int)⟩))
noncomputable def zCja : CSpec := { ins := [(.val .str .s), (.val (.sl 5 (.int .u8)) .s)], outs := [(.bool, .s)], fn := fun (d : (List UInt8) × (List (Int)) × Unit) K _ => zbka d.1 d.2.1 (fun r0 => K ((r0, ()) : Bool × Unit) ((()) : Unit)) }
theorem zrqa : Holds Tryd.prog 4 zCja := zsaa (env := zcaa) (inl := inl0) (lp := zdaa) (rs := [(4, none)]) (code := body Tryd.f4.body) ⟨mixed, envTyOk.ty, envTyOk.eq⟩ zJha zRaa Tryd.func4 zAha (by kernel_rfl) (by kernel_rfl) (by kernel_rfl) (by kernel_rfl) (by kernel_rfl) (by kernel_rfl) fun d R K Kp => by kernel_rfl
end Go.Trm.G1
